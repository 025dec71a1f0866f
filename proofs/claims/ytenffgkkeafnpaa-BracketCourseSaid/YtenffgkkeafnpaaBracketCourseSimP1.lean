/- The functions compute what the shallow ones say: printed by program. -/
import Derived.Test.YtenffgkkeafnpaaBkSh
import Derived.Test.YtenffgkkeafnpaaAmFam2
import Derived.Test.YtenffgkkeafnpaaAmRange
import Derived.Test.YtenffgkkeafnpaaAmSort
import Derived.Test.YtenffgkkeafnpaaTryShelf
import Derived.Test.YtenffgkkeafnpaaBkDet
import Derived.Test.YtenffgkkeafnpaaChecked
import Derived.KernelRfl
namespace Go.Am
open Go.Proofs
set_option maxRecDepth 100000
set_option maxHeartbeats 4000000

theorem mix : Try.prog.follows .mixedOrders = true := Checked.mixed Try.checked

theorem dX : pS Try.prog 24 2 := ⟨Try.isAgg24, Try.sizeOf24⟩
theorem fT : SliceTy Try.prog 25 32 5 40 (.agg #[.int .i64 0, .int .i64 0, .int .i64 0, .int .i64 0, .int .i64 0]) := ⟨Try.underlying25, ⟨Try.t32, by kernel_rfl, rfl, rfl, rfl⟩, rfl, by decide⟩
theorem aZ : pB Try.prog 3 := ⟨Try.isAgg3, Try.sizeOf3⟩
theorem aAn : pS Try.prog 39 2 := ⟨Try.isAgg39, Try.sizeOf39⟩
theorem aMi : zQ Try.prog 39 dO := by
  rintro ⟨a0, a1⟩ ⟨b0, b1⟩ w
  simp [dO, bQ, go_sem, Op.eqFields, Program.fieldsOf] <;> (repeat' split) <;> simp_all
theorem dZ : gE Try.prog 24 1 1 := eO Try.runUnderlying24 rfl rfl Try.sizeOf22
theorem cU : pB Try.prog 22 := ⟨Try.isAgg22, Try.sizeOf22⟩
theorem bP : SliceTy Try.prog 22 3 1 8 (.int .i64 0) := ⟨Try.underlying22, ⟨Try.t3, by kernel_rfl, rfl, rfl, rfl⟩, rfl, by decide⟩
theorem rI : SliceTy Try.prog 48 57 4 32 (.agg #[.int .i64 0, .int .i64 0, .int .i64 0, .int .i64 0]) := ⟨Try.underlying48, ⟨Try.t57, by kernel_rfl, rfl, rfl, rfl⟩, rfl, by decide⟩
theorem aAo : pS Try.prog 57 4 := ⟨Try.isAgg57, Try.sizeOf57⟩
theorem aEu : oI Try.prog 57 (.agg #[.int .i64 0, .int .i64 0, .int .i64 0, .int .i64 0]) [(0, 1), (1, 1), (2, 1), (3, 1)] := ⟨Try.zeroValue57, _, Try.runUnderlying57, fun w => by simp [Try.sizeOf3]⟩
theorem aIn : zQ Try.prog 57 cC := by
  rintro ⟨a0, a1, a2, a3⟩ ⟨b0, b1, b2, b3⟩ w
  simp [cC, bQ, go_sem, Op.eqFields, Program.fieldsOf] <;> (repeat' split) <;> simp_all
theorem aBt : oI Try.prog 39 (.agg #[.int .i64 0, .int .i64 0]) [(0, 1), (1, 1)] := ⟨Try.zeroValue39, _, Try.runUnderlying39, fun w => by simp [Try.sizeOf3]⟩
theorem aMs : oI Try.prog 24 (.agg #[.int .i64 0, .slice none 0 0]) [(0, 1), (1, 1)] := ⟨Try.zeroValue24, _, Try.runUnderlying24, fun w => by simp [Try.sizeOf22, Try.sizeOf3]⟩
theorem aBs : oI Try.prog 32 (.agg #[.int .i64 0, .int .i64 0, .int .i64 0, .int .i64 0, .int .i64 0]) [(0, 1), (1, 1), (2, 1), (3, 1), (4, 1)] := ⟨Try.zeroValue32, _, Try.runUnderlying32, fun w => by simp [Try.sizeOf3]⟩
theorem aIw : pB Try.prog 48 := ⟨Try.isAgg48, Try.sizeOf48⟩
theorem gK : gE Try.prog 24 0 0 := eO Try.runUnderlying24 rfl rfl Try.sizeOf3
theorem aHc : pC Try.prog 3 (fun n : Int => Value.int .i64 n) := aIo Try.underlying3
theorem kC : pS Try.prog 32 5 := ⟨Try.isAgg32, Try.sizeOf32⟩
theorem lT : gE Try.prog 32 3 3 := eO Try.runUnderlying32 rfl rfl Try.sizeOf3
theorem lS : gE Try.prog 32 0 0 := eO Try.runUnderlying32 rfl rfl Try.sizeOf3
theorem lE : gE Try.prog 32 1 1 := eO Try.runUnderlying32 rfl rfl Try.sizeOf3
theorem iH : gE Try.prog 32 2 2 := eO Try.runUnderlying32 rfl rfl Try.sizeOf3
theorem rV : gE Try.prog 32 4 4 := eO Try.runUnderlying32 rfl rfl Try.sizeOf3
theorem vT : oI Try.prog 70 (.agg #[.int .i64 0, .int .i64 0]) [(0, 1), (1, 1)] := ⟨Try.zeroValue70, _, Try.runUnderlying70, fun w => by simp [Try.sizeOf3]⟩
theorem jI : pS Try.prog 70 2 := ⟨Try.isAgg70, Try.sizeOf70⟩
theorem nS : gE Try.prog 70 0 0 := eO Try.runUnderlying70 rfl rfl Try.sizeOf3
theorem aEa : gE Try.prog 70 1 1 := eO Try.runUnderlying70 rfl rfl Try.sizeOf3
theorem aMt : oI Try.prog 75 (.agg #[.int .i64 0, .slice none 0 0, .slice none 0 0, .map none]) [(0, 2), (2, 1), (3, 1)] := ⟨Try.zeroValue75, _, Try.runUnderlying75, fun w => by simp [Try.sizeOf22, Try.sizeOf24, Try.sizeOf73]⟩
theorem aDw : zQ Try.prog 32 aP := by
  rintro ⟨a0, a1, a2, a3, a4⟩ ⟨b0, b1, b2, b3, b4⟩ w
  simp [aP, bQ, go_sem, Op.eqFields, Program.fieldsOf] <;> (repeat' split) <;> simp_all
theorem aMf (b : Bool) (a : aI) (w : World) : (Instr.checkKey b 10000 32 (.agg ((aP a).map bQ).toArray)).run Try.prog w = .ok () w := by
  obtain ⟨a1, a2, a3, a4, a5⟩ := a
  rw [show (10000 : Nat) = 9990 + 10 from rfl]
  generalize (9990 : Nat) = m
  simp [Instr.checkKey, aP, bQ, go_sem, Std.Legacy.Range.forIn_eq_forIn_range', Std.Legacy.Range.size]
theorem aEd : pC Try.prog 32 (fun a : aI => Value.agg ((aP a).map bQ).toArray) :=
  yA Try.underlying32 aDw aMf (fun a w => aEc _ rfl _ _) (by
    rintro ⟨a1, a2, a3, a4, a5⟩ ⟨b1, b2, b3, b4, b5⟩ h
    simp [aP] at h ⊢
    simp_all) (fun _ => rfl)
theorem xT : zQ Try.prog 70 aN := by
  rintro ⟨a0, a1⟩ ⟨b0, b1⟩ w
  simp [aN, bQ, go_sem, Op.eqFields, Program.fieldsOf] <;> (repeat' split) <;> simp_all
theorem aMg (b : Bool) (a : aF) (w : World) : (Instr.checkKey b 10000 70 (.agg ((aN a).map bQ).toArray)).run Try.prog w = .ok () w := by
  obtain ⟨a1, a2⟩ := a
  rw [show (10000 : Nat) = 9990 + 10 from rfl]
  generalize (9990 : Nat) = m
  simp [Instr.checkKey, aN, bQ, go_sem, Std.Legacy.Range.forIn_eq_forIn_range', Std.Legacy.Range.size]
theorem sP : pC Try.prog 70 (fun a : aF => Value.agg ((aN a).map bQ).toArray) :=
  yA Try.underlying70 xT aMg (fun a w => aEc _ rfl _ _) (by
    rintro ⟨a1, a2⟩ ⟨b1, b2⟩ h
    simp [aN] at h ⊢
    simp_all) (fun _ => rfl)
theorem lF : gE Try.prog 75 1 2 := eO Try.runUnderlying75 rfl rfl Try.sizeOf22
theorem oV : gE Try.prog 75 0 0 := eO Try.runUnderlying75 rfl rfl Try.sizeOf24
theorem qG : gE Try.prog 75 2 3 := eO Try.runUnderlying75 rfl rfl Try.sizeOf73
theorem uB : pB Try.prog 73 := ⟨Try.isAgg73, Try.sizeOf73⟩
theorem vG : pS Try.prog 89 2 := ⟨Try.isAgg89, Try.sizeOf89⟩
theorem yR : oI Try.prog 89 (.agg #[.slice none 0 0, .slice none 0 0]) [(0, 1), (1, 1)] := ⟨Try.zeroValue89, _, Try.runUnderlying89, fun w => by simp [Try.sizeOf22, Try.sizeOf53]⟩
theorem rW : gE Try.prog 89 1 1 := eO Try.runUnderlying89 rfl rfl Try.sizeOf53
theorem yJ : pB Try.prog 53 := ⟨Try.isAgg53, Try.sizeOf53⟩
theorem jG : SliceTy Try.prog 53 22 1 24 (.slice none 0 0) := ⟨Try.underlying53, ⟨Try.t22, by kernel_rfl, rfl, rfl, rfl⟩, rfl, by decide⟩
theorem aJx : gE Try.prog 39 0 0 := eO Try.runUnderlying39 rfl rfl Try.sizeOf3
theorem aJy : gE Try.prog 39 1 1 := eO Try.runUnderlying39 rfl rfl Try.sizeOf3
theorem iT : gE Try.prog 57 0 0 := eO Try.runUnderlying57 rfl rfl Try.sizeOf3
theorem dE : gE Try.prog 57 1 1 := eO Try.runUnderlying57 rfl rfl Try.sizeOf3
theorem dL : gE Try.prog 57 2 2 := eO Try.runUnderlying57 rfl rfl Try.sizeOf3
theorem dQ : gE Try.prog 57 3 3 := eO Try.runUnderlying57 rfl rfl Try.sizeOf3

theorem zY (t_0 : aT) (l_1 : List aI) {r : Bool} (h : mY t_0 l_1 = some r) : Fn Try.prog 27 [.agg (aY t_0), .d (.sl 5 (l_1.map aP))] (.d (.lit (.bool r))) := by
 unfold mY at h
 refine Fn.of_tr Try.func27 rfl (rs := [.tmp 4]) Try.results27 Try.ntmps27 (Nat.le_of_ble_eq_true rfl) ?_
 refine aK ?_
 refine aH ?_
 refine cE rfl (gL (v := .agg (aY t_0)) (aA rfl) rfl rfl rfl) ?_
 rintro _ ⟨b1, rfl⟩
 refine tr1 rfl (aL (v := .d (.lit (.bool false))) (aA rfl) rfl rfl) ?_
 refine aJ ?_
 refine aK ?_
 refine aH ?_
 refine tr1 rfl (aS (aA rfl) rfl dZ) ?_
 refine tr1 rfl (aU (aA rfl) rfl (i := 0) rfl rfl cU) ?_
 refine tr1 rfl (dR (aA rfl) rfl bP.of) ?_
 refine tr1 rfl (bE (aA rfl) rfl rfl rfl) ?_
 refine tr1 rfl (aE (v := .d (.lit (.bool ((decide (100 < (t_0.Slots.length : Int))))))) (aA rfl) rfl rfl) ?_
 obtain ⟨b2, h3, h⟩ := bind_some h
 refine cK 4 [] 13 b2 ?_ ?_
 ·refine bM (decide (100 < (t_0.Slots.length : Int))) (fun c4 => ?_) (fun c4 => ?_)
  ·have h3 := bD c4 h3
   refine aV rfl rfl (aA rfl) rfl (aA rfl) rfl c4 ?_
   refine aV rfl rfl (aA rfl) rfl (aA rfl) rfl c4 ?_
   refine aV rfl rfl (aA rfl) rfl (aA rfl) rfl c4 ?_
   refine tr1 rfl (bO (v := .d (.lit (.bool true))) (aA rfl) rfl c4 rfl rfl) ?_
   have h3 := Option.some.inj h3
   subst h3
   refine aJ (bN rfl trivial rfl)
  ·have h3 := bB c4 h3
   refine aQ rfl rfl (aA rfl) rfl c4 (aE (v := .d (.sl 5 (l_1.map aP))) (aA rfl) rfl rfl) ?_
   refine aQ rfl rfl (aA rfl) rfl c4 (dR (aA rfl) rfl fT.of) ?_
   refine aQ rfl rfl (aA rfl) rfl c4 (bE (aA rfl) rfl rfl rfl) ?_
   refine tr1 rfl (bH (v := .d (.lit (.bool ((decide (100 < (l_1.length : Int))))))) (aA rfl) rfl c4 rfl rfl) ?_
   have h3 := Option.some.inj h3
   subst h3
   refine aJ (bN rfl trivial rfl)
 ·refine tr1 rfl (aL (v := .d (.lit (.bool b2))) (aA rfl) rfl rfl) ?_
  refine aJ ?_
  have h := Option.some.inj h
  subst h
  refine cR (cQ (cX (l := [4]) ⟨rfl, trivial⟩)) ?_
  exact bV ⟨rfl, _, .one _, rfl, rfl⟩

theorem wC {r : aT × (List aI)} (h : oM = some r) : Fn Try.prog 43 [] (.tup [.agg (aY r.1), .d (.sl 5 (r.2.map aP))]) := by
 unfold oM at h
 refine sW Try.func43 rfl (rs := [.cell 0 24, .tmp 1]) Try.results43 Try.ntmps43 (Nat.le_of_ble_eq_true rfl) ?_
 refine aK ?_
 refine aH ?_
 refine cE rfl (eD (zs := [.lit (.int .i64 0), .sl 1 ((([] : List Int)).map aO)]) (aA rfl) Try.zeroValue24 rfl rfl) ?_
 rintro _ ⟨b1, rfl⟩
 refine tr1 rfl (rH 5 (aA rfl)) ?_
 refine aJ ?_
 refine aK ?_
 refine aH ?_
 refine tr1 rfl (gM (aA rfl) bP rfl rfl (rows := ([1, (-1), 2, 3, 4, 5, 6, 7]).map aO) rfl (dV (f := aO) fun _ => rfl) rfl (by decide)) ?_
 refine tr1 rfl (fN (aA rfl) aMs (zs := [.lit (.int .i64 0), .sl 1 ((([] : List Int)).map aO)]) rfl rfl rfl rfl (es := [.lit (.int .i64 3), .sl 1 ((([1, (-1), 2, 3, 4, 5, 6, 7])).map aO)]) rfl) ?_
 refine cE rfl (eD (zs := [.lit (.int .i64 0), .sl 1 ((([] : List Int)).map aO)]) (aA rfl) Try.zeroValue24 rfl rfl) ?_
 rintro _ ⟨b2, rfl⟩
 refine tr1 rfl (cO (i := 1) rfl rfl rfl rfl rfl Try.sizeOf24 rfl (aA rfl) (Nat.le_of_ble_eq_true rfl) (ds' := (aY (aT.mk 3 ([1, (-1), 2, 3, 4, 5, 6, 7])))) rfl) ?_
 refine aJ ?_
 refine aK ?_
 refine aH ?_
 refine tr1 rfl (bW (aA rfl) rfl (i := 1) rfl dX (es := (aY (aT.mk 3 ([1, (-1), 2, 3, 4, 5, 6, 7])))) rfl rfl) ?_
 refine tr1 rfl (fN (aA rfl) aBs (zs := [.lit (.int .i64 0), .lit (.int .i64 0), .lit (.int .i64 0), .lit (.int .i64 0), .lit (.int .i64 0)]) rfl rfl rfl rfl (es := [.lit (.int .i64 1), .lit (.int .i64 1), .lit (.int .i64 0), .lit (.int .i64 2), .lit (.int .i64 0)]) rfl) ?_
 refine tr1 rfl (fN (aA rfl) aBs (zs := [.lit (.int .i64 0), .lit (.int .i64 0), .lit (.int .i64 0), .lit (.int .i64 0), .lit (.int .i64 0)]) rfl rfl rfl rfl (es := [.lit (.int .i64 3), .lit (.int .i64 0), .lit (.int .i64 3), .lit (.int .i64 7), .lit (.int .i64 0)]) rfl) ?_
 refine tr1 rfl (fN (aA rfl) aBs (zs := [.lit (.int .i64 0), .lit (.int .i64 0), .lit (.int .i64 0), .lit (.int .i64 0), .lit (.int .i64 0)]) rfl rfl rfl rfl (es := [.lit (.int .i64 5), .lit (.int .i64 0), .lit (.int .i64 4), .lit (.int .i64 8), .lit (.int .i64 4)]) rfl) ?_
 refine tr1 rfl (gM (aA rfl) fT rfl rfl (rows := ([(aI.mk 1 1 0 2 0), (aI.mk 3 0 3 7 0), (aI.mk 5 0 4 8 4)]).map aP) rfl (dV (f := aP) fun _ => rfl) rfl (by decide)) ?_
 refine tr1 rfl (cO (i := 0) rfl rfl rfl rfl rfl Try.sizeOf24 rfl (aA rfl) (Nat.le_of_ble_eq_true rfl) (ds' := (aY (aT.mk 3 ([1, (-1), 2, 3, 4, 5, 6, 7])))) rfl) ?_
 refine tr1 rfl (aL (v := .d (.sl 5 ((([(aI.mk 1 1 0 2 0), (aI.mk 3 0 3 7 0), (aI.mk 5 0 4 8 4)])).map aP))) (aA rfl) rfl rfl) ?_
 refine aJ ?_
 have h := Option.some.inj h
 subst h
 exact bV ⟨rfl, _, [.box b1 0 (aY (aT.mk 3 ([1, (-1), 2, 3, 4, 5, 6, 7]))), .box b2 0 (aY (aT.mk 3 ([1, (-1), 2, 3, 4, 5, 6, 7])))], .two (.cell 0 24 rfl (i := 0) rfl dX (es := (aY (aT.mk 3 ([1, (-1), 2, 3, 4, 5, 6, 7])))) rfl rfl) (.tmp 1 (v := .d (.sl 5 ((([(aI.mk 1 1 0 2 0), (aI.mk 3 0 3 7 0), (aI.mk 5 0 4 8 4)])).map aP))) rfl), .refl _, .same _⟩

theorem eS (n_0 : Int) (low_1 : Int) (high_2 : Int) {r : Bool} (h : eP n_0 low_1 high_2 = some r) : Fn Try.prog 72 [.d (.lit (.int .i64 n_0)), .d (.lit (.int .i64 low_1)), .d (.lit (.int .i64 high_2))] (.d (.lit (.bool r))) := by
 unfold eP at h
 refine Fn.of_tr Try.func72 rfl (rs := [.tmp 6]) Try.results72 Try.ntmps72 (Nat.le_of_ble_eq_true rfl) ?_
 refine aK ?_
 refine aH ?_
 refine tr1 rfl (aL (v := .d (.lit (.bool false))) (aA rfl) rfl rfl) ?_
 refine aJ ?_
 refine aK ?_
 refine aH ?_
 refine tr1 rfl (aE (v := .d (.lit (.int .i64 low_1))) (aA rfl) rfl rfl) ?_
 refine tr1 rfl (aE (v := .d (.lit (.int .i64 n_0))) (aA rfl) rfl rfl) ?_
 refine tr1 rfl (bE (aA rfl) rfl rfl rfl) ?_
 refine tr1 rfl (aE (v := .d (.lit (.bool ((decide (low_1 ≤ n_0)))))) (aA rfl) rfl rfl) ?_
 obtain ⟨b1, h2, h⟩ := bind_some h
 refine cK 4 [] 14 b1 ?_ ?_
 ·refine bM (decide (low_1 ≤ n_0)) (fun c3 => ?_) (fun c3 => ?_)
  ·have h2 := bD c3 h2
   refine aQ rfl rfl (aA rfl) rfl c3 (aE (v := .d (.lit (.int .i64 n_0))) (aA rfl) rfl rfl) ?_
   refine aQ rfl rfl (aA rfl) rfl c3 (aE (v := .d (.lit (.int .i64 high_2))) (aA rfl) rfl rfl) ?_
   refine aQ rfl rfl (aA rfl) rfl c3 (bE (aA rfl) rfl rfl rfl) ?_
   refine tr1 rfl (bO (v := .d (.lit (.bool ((decide (n_0 ≤ high_2)))))) (aA rfl) rfl c3 rfl rfl) ?_
   have h2 := Option.some.inj h2
   subst h2
   refine aJ (bN rfl trivial rfl)
  ·have h2 := bB c3 h2
   refine aV rfl rfl (aA rfl) rfl (aA rfl) rfl c3 ?_
   refine aV rfl rfl (aA rfl) rfl (aA rfl) rfl c3 ?_
   refine aV rfl rfl (aA rfl) rfl (aA rfl) rfl c3 ?_
   refine tr1 rfl (bH (v := .d (.lit (.bool false))) (aA rfl) rfl c3 rfl rfl) ?_
   have h2 := Option.some.inj h2
   subst h2
   refine aJ (bN rfl trivial rfl)
 ·refine tr1 rfl (aL (v := .d (.lit (.bool b1))) (aA rfl) rfl rfl) ?_
  refine aJ ?_
  have h := Option.some.inj h
  subst h
  exact bV ⟨rfl, _, .one _, rfl, rfl⟩

theorem zW (t_0 : aT) {r : Bool} (h : lN t_0 = some r) : Fn Try.prog 67 [.agg (aY t_0)] (.d (.lit (.bool r))) := by
 unfold lN at h
 refine Fn.of_tr Try.func67 rfl (rs := [.tmp 2]) Try.results67 Try.ntmps67 (Nat.le_of_ble_eq_true rfl) ?_
 refine aK ?_
 refine aH ?_
 refine cE rfl (gL (v := .agg (aY t_0)) (aA rfl) rfl rfl rfl) ?_
 rintro _ ⟨b1, rfl⟩
 refine tr1 rfl (aL (v := .d (.lit (.bool false))) (aA rfl) rfl rfl) ?_
 refine aJ ?_
 refine aK ?_
 refine aK ?_
 obtain ⟨r2, h3, h⟩ := bind_some h
 obtain ⟨b4, h5, h⟩ := bind_some h
 refine dN mix 13 [1] [(18, .d (.lit (.bool b4)))] ?_ ?_
 ·refine bM (!r2) (fun c6 => ?_) (fun c6 => ?_)
  ·have h5 := bD c6 h5
   have h5 := Option.some.inj h5
   subst h5
   refine ⟨[(6, 0, .bp b1 0 0), (7, 1, .d (.lit (.int .i64 t_0.Rounds))), (8, 2, .d (.lit (.bool r2))), (9, 3, .d (.lit (.bool (!r2)))), (10, 4, .d (.lit (.bool (!r2)))), (11, 5, .tup []), (12, 6, .tup []), (13, 7, .tup []), (14, 8, .tup []), (15, 9, .tup []), (16, 10, .tup []), (17, 11, .tup []), (18, 12, .d (.lit (.bool true)))], ?_, ?_⟩
   · exact ⟨by kernel_rfl, by kernel_rfl, by kernel_rfl, by kernel_rfl, by kernel_rfl, [([], []), ([0], []), ([1], []), ([2], []), ([3], []), ([4], []), ([4, 5], []), ([4, 6], []), ([4], []), ([4, 8], []), ([4, 9], []), ([4, 7, 10], []), ([4, 11], [])], by kernel_rfl, ⟨fun S hS => aB rfl (aR rfl (aS (aA rfl) (aC hS rfl) gK)),
      fun S hS => aB rfl (aR rfl (aU (aA rfl) (aC hS rfl) (i := 0) rfl rfl aZ)),
      fun S hS => aB rfl (aR rfl (cZ (aA rfl) (.func _ _ Try.call72) (ev2 (aC hS rfl) (ev2 rfl (ev2 rfl evn))) rfl (BVs.refl _ _) (eS _ _ _ h3) rfl)),
      fun S hS => aB rfl (aR rfl (fJ (aA rfl) (aC hS rfl))),
      fun S hS => aB rfl (aR rfl (aE (v := .d (.lit (.bool (!r2)))) (aA rfl) (aC hS rfl) rfl)),
      fun S hS => aB rfl (aM rfl rfl (aA rfl) rfl (aA rfl) (aD hS rfl) c6),
      fun S hS => aB rfl (aM rfl rfl (aA rfl) rfl (aA rfl) (aD hS rfl) c6),
      fun S hS => aB rfl (aM rfl rfl (aA rfl) rfl (aA rfl) (aD hS rfl) c6),
      fun S hS => aB rfl (aM rfl rfl (aA rfl) rfl (aA rfl) (aD hS rfl) c6),
      fun S hS => aB rfl (aM rfl rfl (aA rfl) rfl (aA rfl) (aD hS rfl) c6),
      fun S hS => aB rfl (aM rfl rfl (aA rfl) rfl (aA rfl) (aD hS rfl) c6),
      fun S hS => aB rfl (aM rfl rfl (aA rfl) rfl (aA rfl) (aD hS rfl) c6),
      fun S hS => aB rfl (aR rfl (bO (v := .d (.lit (.bool true))) (aA rfl) (aC hS rfl) c6 rfl rfl)), trivial⟩⟩
   · exact cL (aX rfl (bF ⟨rfl, trivial⟩))
  ·have h5 := bB c6 h5
   obtain ⟨u7, h8, h5⟩ := bind_some h5
   have h5 := Option.some.inj h5
   subst h5
   refine ⟨[(6, 0, .bp b1 0 0), (7, 1, .d (.lit (.int .i64 t_0.Rounds))), (8, 2, .d (.lit (.bool r2))), (9, 3, .d (.lit (.bool (!r2)))), (10, 4, .d (.lit (.bool (!r2)))), (11, 5, .bp b1 0 1), (12, 6, .d (.sl 1 (t_0.Slots.map aO))), (13, 7, .d (.lit (.int .i64 ((t_0.Slots.length : Int))))), (14, 8, .bp b1 0 0), (15, 9, .d (.lit (.int .i64 t_0.Rounds))), (16, 10, .d (.lit (.int .i64 ((w64 (1 * 2 ^ (min t_0.Rounds.toNat 64))))))), (17, 11, .d (.lit (.bool ((!decide ((t_0.Slots.length : Int) = (w64 (1 * 2 ^ (min t_0.Rounds.toNat 64))))))))), (18, 12, .d (.lit (.bool ((!decide ((t_0.Slots.length : Int) = (w64 (1 * 2 ^ (min t_0.Rounds.toNat 64)))))))))], ?_, ?_⟩
   · exact ⟨by kernel_rfl, by kernel_rfl, by kernel_rfl, by kernel_rfl, by kernel_rfl, [([], []), ([0], []), ([1], []), ([2], []), ([3], []), ([4], []), ([4, 5], []), ([4, 6], []), ([4], []), ([4, 8], []), ([4, 9], []), ([4, 7, 10], []), ([4, 11], [])], by kernel_rfl, ⟨fun S hS => aB rfl (aR rfl (aS (aA rfl) (aC hS rfl) gK)),
      fun S hS => aB rfl (aR rfl (aU (aA rfl) (aC hS rfl) (i := 0) rfl rfl aZ)),
      fun S hS => aB rfl (aR rfl (cZ (aA rfl) (.func _ _ Try.call72) (ev2 (aC hS rfl) (ev2 rfl (ev2 rfl evn))) rfl (BVs.refl _ _) (eS _ _ _ h3) rfl)),
      fun S hS => aB rfl (aR rfl (fJ (aA rfl) (aC hS rfl))),
      fun S hS => aB rfl (aR rfl (aE (v := .d (.lit (.bool (!r2)))) (aA rfl) (aC hS rfl) rfl)),
      fun S hS => aB rfl (aG rfl rfl (aA rfl) (aD hS rfl) c6 (aS (aA rfl) (aC hS rfl) dZ)),
      fun S hS => aB rfl (aG rfl rfl (aA rfl) (aD hS rfl) c6 (aU (aA rfl) (aC hS rfl) (i := 0) rfl rfl cU)),
      fun S hS => aB rfl (aG rfl rfl (aA rfl) (aD hS rfl) c6 (dR (aA rfl) (aC hS rfl) bP.of)),
      fun S hS => aB rfl (aG rfl rfl (aA rfl) (aD hS rfl) c6 (aS (aA rfl) (aC hS rfl) gK)),
      fun S hS => aB rfl (aG rfl rfl (aA rfl) (aD hS rfl) c6 (aU (aA rfl) (aC hS rfl) (i := 0) rfl rfl aZ)),
      fun S hS => aB rfl (aG rfl rfl (aA rfl) (aD hS rfl) c6 (aHq (aA rfl) rfl (aC hS rfl) (tJ h8))),
      fun S hS => aB rfl (aG rfl rfl (aA rfl) (aD hS rfl) c6 (bE (aA rfl) (aC hS rfl) (aC hS rfl) rfl)),
      fun S hS => aB rfl (aR rfl (bH (v := .d (.lit (.bool ((!decide ((t_0.Slots.length : Int) = (w64 (1 * 2 ^ (min t_0.Rounds.toNat 64))))))))) (aA rfl) (aC hS rfl) c6 (aC hS rfl) rfl)), trivial⟩⟩
   · exact cL (aX rfl (bF ⟨rfl, trivial⟩))
 ·refine aJ ?_
  refine bY rfl (fun c9 => ?_) (fun c9 => ?_)
  ·have h := bD c9 h
   refine aK ?_
   refine aH ?_
   refine tr1 rfl (aL (v := .d (.lit (.bool false))) (aA rfl) rfl rfl) ?_
   refine aJ ?_
   have h := Option.some.inj h
   subst h
   refine cR (cQ (cX (l := [2]) ⟨rfl, trivial⟩)) ?_
   exact bV ⟨rfl, _, .one _, rfl, rfl⟩
  ·have h := bB c9 h
   refine bU ?_
   refine aK ?_
   refine aH ?_
   refine cE rfl (uT (aA rfl)) ?_
   rintro _ ⟨r10, rfl⟩
   refine tr1 rfl (aL (v := .d (.lit (.map (some r10)))) (aA rfl) rfl rfl) ?_
   refine aJ ?_
   refine aK ?_
   refine aK ?_
   refine aH ?_
   refine tr1 rfl (aS (aA rfl) rfl dZ) ?_
   refine tr1 rfl (aU (aA rfl) rfl (i := 0) rfl rfl cU) ?_
   refine tr1 rfl (dR (aA rfl) rfl bP.of) ?_
   refine tr1 rfl (aE (v := .d (.lit (.int .i64 0))) (aA rfl) rfl rfl) ?_
   refine aJ ?_
   refine cF ?_
   refine dJ [1, 3, 21, 22] (fun (s11 : Int × (List (Int × Int)) × (List Nat) × Nat) => [(23, .d (.lit (.int .i64 s11.1)))]) (fun (s11 : Int × (List (Int × Int)) × (List Nat) × Nat) => [.box b1 0 (aY t_0), .map r10 (s11.2.1.map fun p : Int × Int => ((fun n : Int => Value.int .i64 n) p.1, (fun v : Int => AV.d (.lit (.int .i64 v))) p.2)) s11.2.2.1 s11.2.2.2]) (fun (k : Nat) (s11 : Int × (List (Int × Int)) × (List Nat) × Nat) => gP t_0.Slots (t_0.Slots.length : Int) t_0 k s11.1 s11.2.1) (fun _ => rfl) (0, ([] : List (Int × Int)), [], 0) h (bK [0, 1] rfl rfl (aX rfl (bF ⟨rfl, rfl, rfl, rfl, trivial⟩))) ?_
   rintro k14 ⟨t23_0_11, o19_0_11, bs12, ck13⟩ h
   simp only [gP] at h
   refine aK ?_
   refine aH ?_
   refine tr1 rfl (bE (aA rfl) rfl rfl rfl) ?_
   refine aJ ?_
   refine aK ?_
   refine bY rfl (fun c15 => ?_) (fun c15 => ?_)
   ·have h := bD c15 h
    refine bU ?_
    refine aK ?_
    refine cF ?_
    refine aK ?_
    refine aH ?_
    refine tr1 rfl (aE (v := .d (.lit (.int .i64 t23_0_11))) (aA rfl) rfl rfl) ?_
    obtain ⟨x16, h17, h⟩ := bind_some h
    refine tr1 rfl (bA (aA rfl) rfl rfl bP.of (bJ aO h17)) ?_
    refine tr1 rfl (bC (aA rfl) rfl aZ) ?_
    refine tr1 rfl (aL (v := .d (.lit (.int .i64 t23_0_11))) (aA rfl) rfl rfl) ?_
    refine tr1 rfl (aL (v := .d (.lit (.int .i64 x16))) (aA rfl) rfl rfl) ?_
    refine aJ ?_
    refine aK ?_
    refine aK ?_
    refine aH ?_
    refine tr1 rfl (aE (v := .d (.lit (.int .i64 x16))) (aA rfl) rfl rfl) ?_
    refine tr1 rfl (bE (aA rfl) rfl rfl rfl) ?_
    refine aJ ?_
    refine bY rfl (fun c18 => ?_) (fun c18 => ?_)
    ·have h := bD c18 h
     refine aK ?_
     refine aK ?_
     refine aH ?_
     refine tr1 rfl (aS (aA rfl) rfl dZ) ?_
     refine tr1 rfl (aU (aA rfl) rfl (i := 0) rfl rfl cU) ?_
     refine tr1 rfl (aE (v := .d (.lit (.int .i64 t23_0_11))) (aA rfl) rfl rfl) ?_
     refine tr1 rfl (aIz (aA rfl) rfl rfl (.inr (.inr ⟨rfl, rfl⟩))) ?_
     obtain ⟨x19, h20, h⟩ := bind_some h
     refine tr1 rfl (bA (aA rfl) rfl rfl bP.of (bJ aO h20)) ?_
     refine tr1 rfl (bC (aA rfl) rfl aZ) ?_
     refine tr1 rfl (bE (aA rfl) rfl rfl rfl) ?_
     refine aJ ?_
     refine bY rfl (fun c21 => ?_) (fun c21 => ?_)
     ·have h := bD c21 h
      refine aK ?_
      refine aH ?_
      refine tr1 rfl (aL (v := .d (.lit (.bool false))) (aA rfl) rfl rfl) ?_
      refine aJ ?_
      have h := Option.some.inj h
      subst h
      refine cR (cQ (cX (l := [2]) ⟨rfl, trivial⟩)) ?_
      exact bV ⟨rfl, _, .one _, rfl, rfl⟩
     ·have h := bB c21 h
      refine bU ?_
      refine dB ?_
      refine .inl ⟨rfl, ?_⟩
      refine aH ?_
      refine tr1 rfl (bL (aA rfl) rfl rfl rfl) ?_
      refine tr1 rfl (aE (v := .d (.lit (.int .i64 ((w64 (t23_0_11 + 1)))))) (aA rfl) rfl rfl) ?_
      refine aJ ?_
      exact ⟨(w64 (t23_0_11 + 1), o19_0_11, bs12, ck13), h, bK [0, 1] rfl rfl (aX rfl (bF ⟨rfl, rfl, rfl, rfl, trivial⟩))⟩
    ·have h := bB c18 h
     refine bU ?_
     refine aK ?_
     refine aH ?_
     refine tr1 rfl (aE (v := .d (.lit (.map (some r10)))) (aA rfl) rfl rfl) ?_
     refine tr1 rfl (aE (v := .d (.lit (.int .i64 x16))) (aA rfl) rfl rfl) ?_
     refine tr1 rfl (wW (av := (fun v : Int => AV.d (.lit (.int .i64 v)))) (l := o19_0_11) (z := 0) (a := x16) (m := 1) (aA rfl) aHc Try.underlying121 Try.zeroValue3 (fun _ _ => .d (.lit _ rfl)) rfl rfl rfl rfl (xZ (kv := (fun n : Int => Value.int .i64 n)) x16)) ?_
     refine tr1 rfl (bL (aA rfl) rfl rfl rfl) ?_
     refine tr1 rfl (vE (av := (fun v : Int => AV.d (.lit (.int .i64 v)))) (l := o19_0_11) (v := w64 ((cN x16 0 o19_0_11) + 1)) (a := x16) (m := 1) aHc Try.underlying121 rfl rfl rfl rfl (xZ (kv := (fun n : Int => Value.int .i64 n)) x16) rfl rfl) ?_
     refine aJ ?_
     refine aK ?_
     refine aH ?_
     refine tr1 rfl (aE (v := .d (.lit (.map (some r10)))) (aA rfl) rfl rfl) ?_
     refine tr1 rfl (aE (v := .d (.lit (.int .i64 x16))) (aA rfl) rfl rfl) ?_
     refine tr1 rfl (wW (av := (fun v : Int => AV.d (.lit (.int .i64 v)))) (l := (eZ x16 (w64 ((cN x16 0 o19_0_11) + 1)) o19_0_11)) (z := 0) (a := x16) (m := 1) (aA rfl) aHc Try.underlying121 Try.zeroValue3 (fun _ _ => .d (.lit _ rfl)) rfl rfl rfl rfl (xZ (kv := (fun n : Int => Value.int .i64 n)) x16)) ?_
     refine tr1 rfl (bE (aA rfl) rfl rfl rfl) ?_
     refine tr1 rfl (aE (v := .d (.lit (.bool ((decide (1 < (cN x16 0 (eZ x16 (w64 ((cN x16 0 o19_0_11) + 1)) o19_0_11)))))))) (aA rfl) rfl rfl) ?_
     obtain ⟨b22, h23, h⟩ := bind_some h
     refine cK 4 [1, 3, 21, 22, 23] 49 b22 ?_ ?_
     ·refine bM (decide (1 < (cN x16 0 (eZ x16 (w64 ((cN x16 0 o19_0_11) + 1)) o19_0_11)))) (fun c25 => ?_) (fun c25 => ?_)
      ·have h23 := bD c25 h23
       refine aV rfl rfl (aA rfl) rfl (aA rfl) rfl c25 ?_
       refine aV rfl rfl (aA rfl) rfl (aA rfl) rfl c25 ?_
       refine aV rfl rfl (aA rfl) rfl (aA rfl) rfl c25 ?_
       refine tr1 rfl (bO (v := .d (.lit (.bool true))) (aA rfl) rfl c25 rfl rfl) ?_
       have h23 := Option.some.inj h23
       subst h23
       refine aJ (bN rfl ⟨rfl, rfl, rfl, rfl, rfl, trivial⟩ rfl)
      ·have h23 := bB c25 h23
       refine aQ rfl rfl (aA rfl) rfl c25 (aE (v := .d (.lit (.int .i64 x16))) (aA rfl) rfl rfl) ?_
       obtain ⟨r26, h27, h23⟩ := bind_some h23
       refine aQ rfl rfl (aA rfl) rfl c25 (cZ (aA rfl) (.func _ _ Try.call72) rfl rfl (BVs.refl _ _) (eS _ _ _ h27) rfl) ?_
       refine aQ rfl rfl (aA rfl) rfl c25 (fJ (aA rfl) rfl) ?_
       refine tr1 rfl (bH (v := .d (.lit (.bool (!r26)))) (aA rfl) rfl c25 rfl rfl) ?_
       have h23 := Option.some.inj h23
       subst h23
       refine aJ (bN rfl ⟨rfl, rfl, rfl, rfl, rfl, trivial⟩ rfl)
     ·refine aJ ?_
      refine bY rfl (fun c24 => ?_) (fun c24 => ?_)
      ·have h := bD c24 h
       refine aK ?_
       refine aH ?_
       refine tr1 rfl (aL (v := .d (.lit (.bool false))) (aA rfl) rfl rfl) ?_
       refine aJ ?_
       have h := Option.some.inj h
       subst h
       refine cR (cQ (cX (l := [2]) ⟨rfl, trivial⟩)) ?_
       exact bV ⟨rfl, _, .one _, rfl, rfl⟩
      ·have h := bB c24 h
       refine eH ?_
       refine aH ?_
       refine tr1 rfl (bL (aA rfl) rfl rfl rfl) ?_
       refine tr1 rfl (aE (v := .d (.lit (.int .i64 ((w64 (t23_0_11 + 1)))))) (aA rfl) rfl rfl) ?_
       refine aJ ?_
       exact ⟨(w64 (t23_0_11 + 1), (eZ x16 (w64 ((cN x16 0 o19_0_11) + 1)) o19_0_11), (mbs x16 o19_0_11 bs12 ck13), (mck x16 o19_0_11 ck13)), h, bK [0, 1] rfl rfl (aX rfl (bF ⟨rfl, rfl, rfl, rfl, trivial⟩))⟩
   ·have h := bB c15 h
    refine dB ?_
    refine .inl ⟨rfl, ?_⟩
    simp only [pJ] at h
    refine aK ?_
    refine aH ?_
    refine tr1 rfl (aL (v := .d (.lit (.bool true))) (aA rfl) rfl rfl) ?_
    refine aJ ?_
    have h := Option.some.inj h
    subst h
    refine cR (cQ (cX (l := [2]) ⟨rfl, trivial⟩)) ?_
    exact bV ⟨rfl, _, .one _, rfl, rfl⟩

theorem sT (s_0 : List aI) (f_1 : aI → Option Bool) {r : Int} (f_1_f : Nat) (f_1_v : List AV) (f_1_e : ∀ args w, (callFunc f_1_f args).run Try.prog w = .ok (.enter f_1_f args) w) (f_1_h : ∀ (x0 : aI) r, f_1 x0 = some r → Fn Try.prog f_1_f ([.agg (aP x0)] ++ f_1_v) (.d (.lit (.bool r)))) (h : gZ s_0 f_1 = some r) : Fn Try.prog 87 [.d (.sl 5 (s_0.map aP)), .fn f_1_f f_1_v] (.d (.lit (.int .i64 r))) := by
 unfold gZ at h
 refine Fn.of_tr Try.func87 rfl (rs := [.tmp 4]) Try.results87 Try.ntmps87 (Nat.le_of_ble_eq_true rfl) ?_
 refine aK ?_
 refine aH ?_
 refine tr1 rfl (aL (v := .d (.lit (.int .i64 0))) (aA rfl) rfl rfl) ?_
 refine aJ ?_
 refine aK ?_
 refine aK ?_
 refine aH ?_
 refine tr1 rfl (aE (v := .d (.sl 5 (s_0.map aP))) (aA rfl) rfl rfl) ?_
 refine tr1 rfl (dR (aA rfl) rfl fT.of) ?_
 refine tr1 rfl (aE (v := .d (.lit (.int .i64 0))) (aA rfl) rfl rfl) ?_
 refine aJ ?_
 refine cF ?_
 refine dJ [0, 1, 7] (fun (s1 : Int) => [(8, .d (.lit (.int .i64 s1)))]) (fun (s1 : Int) => []) (fun (k : Nat) (s1 : Int) => eE s_0 f_1 (s_0.length : Int) k s1) (fun _ => rfl) (0) h (bK [] rfl rfl (aX rfl (bF ⟨rfl, rfl, rfl, trivial⟩))) ?_
 rintro k2 t8_0_1 h
 simp only [eE] at h
 refine aK ?_
 refine aH ?_
 refine tr1 rfl (bE (aA rfl) rfl rfl rfl) ?_
 refine aJ ?_
 refine aK ?_
 refine bY rfl (fun c3 => ?_) (fun c3 => ?_)
 ·have h := bD c3 h
  refine bU ?_
  refine aK ?_
  refine cF ?_
  refine aK ?_
  refine aH ?_
  refine tr1 rfl (aE (v := .d (.lit (.int .i64 t8_0_1))) (aA rfl) rfl rfl) ?_
  refine tr1 rfl (aL (v := .d (.lit (.int .i64 t8_0_1))) (aA rfl) rfl rfl) ?_
  refine aJ ?_
  refine aK ?_
  refine aH ?_
  refine tr1 rfl (aE (v := .fn f_1_f f_1_v) (aA rfl) rfl rfl) ?_
  refine tr1 rfl (aE (v := .d (.sl 5 (s_0.map aP))) (aA rfl) rfl rfl) ?_
  refine tr1 rfl (aE (v := .d (.lit (.int .i64 t8_0_1))) (aA rfl) rfl rfl) ?_
  obtain ⟨x4, h5, h⟩ := bind_some h
  refine tr1 rfl (bA (aA rfl) rfl rfl fT.of (bJ aP h5)) ?_
  refine tr1 rfl (jP (aA rfl) rfl kC (es := (aP x4)) rfl rfl) ?_
  obtain ⟨r6, h7, h⟩ := bind_some h
  refine tr1 rfl (cZ (aA rfl) (.clo _ _ _ _ f_1_e rfl) (aNc rfl) rfl (BVs.refl _ _) (f_1_h _ _  h7) rfl) ?_
  refine aJ ?_
  refine bY rfl (fun c8 => ?_) (fun c8 => ?_)
  ·have h := bD c8 h
   refine aK ?_
   refine aH ?_
   refine tr1 rfl (aE (v := .d (.lit (.int .i64 t8_0_1))) (aA rfl) rfl rfl) ?_
   refine tr1 rfl (aL (v := .d (.lit (.int .i64 t8_0_1))) (aA rfl) rfl rfl) ?_
   refine aJ ?_
   have h := Option.some.inj h
   subst h
   exact bV ⟨rfl, _, .one _, rfl, rfl⟩
  ·have h := bB c8 h
   refine eH ?_
   refine aH ?_
   refine tr1 rfl (bL (aA rfl) rfl rfl rfl) ?_
   refine tr1 rfl (aE (v := .d (.lit (.int .i64 ((w64 (t8_0_1 + 1)))))) (aA rfl) rfl rfl) ?_
   refine aJ ?_
   exact ⟨(w64 (t8_0_1 + 1)), h, bK [] rfl rfl (aX rfl (bF ⟨rfl, rfl, rfl, trivial⟩))⟩
 ·have h := bB c3 h
  refine dB ?_
  refine .inl ⟨rfl, ?_⟩
  simp only [kM] at h
  refine aK ?_
  refine aH ?_
  refine tr1 rfl (aL (v := .d (.lit (.int .i64 (-1)))) (aA rfl) rfl rfl) ?_
  refine aJ ?_
  have h := Option.some.inj h
  subst h
  exact bV ⟨rfl, _, .one _, rfl, rfl⟩

theorem rJ (s_0 : List aI) (f_1 : aI → Option Bool) {r : Bool} (f_1_f : Nat) (f_1_v : List AV) (f_1_e : ∀ args w, (callFunc f_1_f args).run Try.prog w = .ok (.enter f_1_f args) w) (f_1_h : ∀ (x0 : aI) r, f_1 x0 = some r → Fn Try.prog f_1_f ([.agg (aP x0)] ++ f_1_v) (.d (.lit (.bool r)))) (h : fU s_0 f_1 = some r) : Fn Try.prog 68 [.d (.sl 5 (s_0.map aP)), .fn f_1_f f_1_v] (.d (.lit (.bool r))) := by
 unfold fU at h
 refine Fn.of_tr Try.func68 rfl (rs := [.tmp 4]) Try.results68 Try.ntmps68 (Nat.le_of_ble_eq_true rfl) ?_
 refine aK ?_
 refine aH ?_
 refine tr1 rfl (aL (v := .d (.lit (.bool false))) (aA rfl) rfl rfl) ?_
 refine aJ ?_
 refine aK ?_
 refine aH ?_
 refine tr1 rfl (aE (v := .d (.sl 5 (s_0.map aP))) (aA rfl) rfl rfl) ?_
 refine tr1 rfl (aE (v := .fn f_1_f f_1_v) (aA rfl) rfl rfl) ?_
 obtain ⟨r1, h2, h⟩ := bind_some h
 refine tr1 rfl (cZ (aA rfl) (.func _ _ Try.call87) rfl rfl (BVs.refl _ _) (sT _ _ f_1_f f_1_v f_1_e f_1_h h2) rfl) ?_
 refine tr1 rfl (bE (aA rfl) rfl rfl rfl) ?_
 refine tr1 rfl (aL (v := .d (.lit (.bool ((decide (0 ≤ r1)))))) (aA rfl) rfl rfl) ?_
 refine aJ ?_
 have h := Option.some.inj h
 subst h
 exact bV ⟨rfl, _, .one _, rfl, rfl⟩

theorem sK (m_0 : aF) (t_1 : aT) {r : Bool} (h : kG m_0 t_1 = some r) : Fn Try.prog 64 [.agg (aN m_0), .agg (aY t_1)] (.d (.lit (.bool r))) := by
 unfold kG at h
 refine Fn.of_tr Try.func64 rfl (rs := [.tmp 4]) Try.results64 Try.ntmps64 (Nat.le_of_ble_eq_true rfl) ?_
 refine aK ?_
 refine aH ?_
 refine cE rfl (gL (v := .agg (aN m_0)) (aA rfl) rfl rfl rfl) ?_
 rintro _ ⟨b1, rfl⟩
 refine cE rfl (gL (v := .agg (aY t_1)) (aA rfl) rfl rfl rfl) ?_
 rintro _ ⟨b2, rfl⟩
 refine tr1 rfl (aL (v := .d (.lit (.bool false))) (aA rfl) rfl rfl) ?_
 refine aJ ?_
 refine aK ?_
 obtain ⟨r3, h4, h⟩ := bind_some h
 obtain ⟨b5, h6, h⟩ := bind_some h
 refine dN mix 19 [] [(23, .d (.lit (.bool b5)))] ?_ ?_
 ·refine bM (r3) (fun c7 => ?_) (fun c7 => ?_)
  ·have h6 := bD c7 h6
   obtain ⟨u8, h9, h6⟩ := bind_some h6
   obtain ⟨r10, h11, h6⟩ := bind_some h6
   have h6 := Option.some.inj h6
   subst h6
   refine ⟨[(5, 0, .bp b1 0 0), (6, 1, .d (.lit (.int .i64 m_0.round))), (7, 2, .bp b2 0 0), (8, 3, .d (.lit (.int .i64 t_1.Rounds))), (9, 4, .d (.lit (.int .i64 ((w64 (t_1.Rounds - 1)))))), (10, 5, .d (.lit (.bool r3))), (11, 6, .d (.lit (.bool r3))), (12, 7, .bp b1 0 1), (13, 8, .d (.lit (.int .i64 m_0.place))), (14, 9, .bp b2 0 1), (15, 10, .d (.sl 1 (t_1.Slots.map aO))), (16, 11, .d (.lit (.int .i64 ((t_1.Slots.length : Int))))), (17, 12, .bp b1 0 0), (18, 13, .d (.lit (.int .i64 m_0.round))), (19, 14, .d (.lit (.int .i64 ((w64 (m_0.round + 1)))))), (20, 15, .d (.lit (.int .i64 (((t_1.Slots.length : Int).fdiv (2 ^ (min (w64 (m_0.round + 1)).toNat 64))))))), (21, 16, .d (.lit (.int .i64 ((w64 (((t_1.Slots.length : Int).fdiv (2 ^ (min (w64 (m_0.round + 1)).toNat 64))) - 1)))))), (22, 17, .d (.lit (.bool r10))), (23, 18, .d (.lit (.bool r10)))], ?_, ?_⟩
   · exact ⟨by kernel_rfl, by kernel_rfl, by kernel_rfl, by kernel_rfl, by kernel_rfl, [([], []), ([0], []), ([], []), ([2], []), ([3], []), ([1, 4], []), ([5], []), ([6], []), ([6, 7], []), ([6], []), ([6, 9], []), ([6, 10], []), ([6], []), ([6, 12], []), ([6, 13], []), ([6, 11, 14], []), ([6, 15], []), ([6, 8, 16], []), ([6, 17], [])], by kernel_rfl, ⟨fun S hS => aB rfl (aR rfl (aS (aA rfl) (aC hS rfl) nS)),
      fun S hS => aB rfl (aR rfl (aU (aA rfl) (aC hS rfl) (i := 0) rfl rfl aZ)),
      fun S hS => aB rfl (aR rfl (aS (aA rfl) (aC hS rfl) gK)),
      fun S hS => aB rfl (aR rfl (aU (aA rfl) (aC hS rfl) (i := 1) rfl rfl aZ)),
      fun S hS => aB rfl (aR rfl (bL (aA rfl) (aC hS rfl) rfl rfl)),
      fun S hS => aB rfl (aR rfl (cZ (aA rfl) (.func _ _ Try.call72) (ev2 (aC hS rfl) (ev2 rfl (ev2 (aC hS rfl) evn))) rfl (BVs.refl _ _) (eS _ _ _ h4) rfl)),
      fun S hS => aB rfl (aR rfl (aE (v := .d (.lit (.bool r3))) (aA rfl) (aC hS rfl) rfl)),
      fun S hS => aB rfl (aG rfl rfl (aA rfl) (aD hS rfl) c7 (aS (aA rfl) (aC hS rfl) aEa)),
      fun S hS => aB rfl (aG rfl rfl (aA rfl) (aD hS rfl) c7 (aU (aA rfl) (aC hS rfl) (i := 0) rfl rfl aZ)),
      fun S hS => aB rfl (aG rfl rfl (aA rfl) (aD hS rfl) c7 (aS (aA rfl) (aC hS rfl) dZ)),
      fun S hS => aB rfl (aG rfl rfl (aA rfl) (aD hS rfl) c7 (aU (aA rfl) (aC hS rfl) (i := 1) rfl rfl cU)),
      fun S hS => aB rfl (aG rfl rfl (aA rfl) (aD hS rfl) c7 (dR (aA rfl) (aC hS rfl) bP.of)),
      fun S hS => aB rfl (aG rfl rfl (aA rfl) (aD hS rfl) c7 (aS (aA rfl) (aC hS rfl) nS)),
      fun S hS => aB rfl (aG rfl rfl (aA rfl) (aD hS rfl) c7 (aU (aA rfl) (aC hS rfl) (i := 0) rfl rfl aZ)),
      fun S hS => aB rfl (aG rfl rfl (aA rfl) (aD hS rfl) c7 (bL (aA rfl) (aC hS rfl) rfl rfl)),
      fun S hS => aB rfl (aG rfl rfl (aA rfl) (aD hS rfl) c7 (yY (aA rfl) (aC hS rfl) (aC hS rfl) (tJ h9))),
      fun S hS => aB rfl (aG rfl rfl (aA rfl) (aD hS rfl) c7 (bL (aA rfl) (aC hS rfl) rfl rfl)),
      fun S hS => aB rfl (aG rfl rfl (aA rfl) (aD hS rfl) c7 (cZ (aA rfl) (.func _ _ Try.call72) (ev2 (aC hS rfl) (ev2 rfl (ev2 (aC hS rfl) evn))) rfl (BVs.refl _ _) (eS _ _ _ h11) rfl)),
      fun S hS => aB rfl (aR rfl (bO (v := .d (.lit (.bool r10))) (aA rfl) (aC hS rfl) c7 (aC hS rfl) rfl)), trivial⟩⟩
   · exact cL (aX rfl (bF trivial))
  ·have h6 := bB c7 h6
   have h6 := Option.some.inj h6
   subst h6
   refine ⟨[(5, 0, .bp b1 0 0), (6, 1, .d (.lit (.int .i64 m_0.round))), (7, 2, .bp b2 0 0), (8, 3, .d (.lit (.int .i64 t_1.Rounds))), (9, 4, .d (.lit (.int .i64 ((w64 (t_1.Rounds - 1)))))), (10, 5, .d (.lit (.bool r3))), (11, 6, .d (.lit (.bool r3))), (12, 7, .tup []), (13, 8, .tup []), (14, 9, .tup []), (15, 10, .tup []), (16, 11, .tup []), (17, 12, .tup []), (18, 13, .tup []), (19, 14, .tup []), (20, 15, .tup []), (21, 16, .tup []), (22, 17, .tup []), (23, 18, .d (.lit (.bool false)))], ?_, ?_⟩
   · exact ⟨by kernel_rfl, by kernel_rfl, by kernel_rfl, by kernel_rfl, by kernel_rfl, [([], []), ([0], []), ([], []), ([2], []), ([3], []), ([1, 4], []), ([5], []), ([6], []), ([6, 7], []), ([6], []), ([6, 9], []), ([6, 10], []), ([6], []), ([6, 12], []), ([6, 13], []), ([6, 11, 14], []), ([6, 15], []), ([6, 8, 16], []), ([6, 17], [])], by kernel_rfl, ⟨fun S hS => aB rfl (aR rfl (aS (aA rfl) (aC hS rfl) nS)),
      fun S hS => aB rfl (aR rfl (aU (aA rfl) (aC hS rfl) (i := 0) rfl rfl aZ)),
      fun S hS => aB rfl (aR rfl (aS (aA rfl) (aC hS rfl) gK)),
      fun S hS => aB rfl (aR rfl (aU (aA rfl) (aC hS rfl) (i := 1) rfl rfl aZ)),
      fun S hS => aB rfl (aR rfl (bL (aA rfl) (aC hS rfl) rfl rfl)),
      fun S hS => aB rfl (aR rfl (cZ (aA rfl) (.func _ _ Try.call72) (ev2 (aC hS rfl) (ev2 rfl (ev2 (aC hS rfl) evn))) rfl (BVs.refl _ _) (eS _ _ _ h4) rfl)),
      fun S hS => aB rfl (aR rfl (aE (v := .d (.lit (.bool r3))) (aA rfl) (aC hS rfl) rfl)),
      fun S hS => aB rfl (aM rfl rfl (aA rfl) rfl (aA rfl) (aD hS rfl) c7),
      fun S hS => aB rfl (aM rfl rfl (aA rfl) rfl (aA rfl) (aD hS rfl) c7),
      fun S hS => aB rfl (aM rfl rfl (aA rfl) rfl (aA rfl) (aD hS rfl) c7),
      fun S hS => aB rfl (aM rfl rfl (aA rfl) rfl (aA rfl) (aD hS rfl) c7),
      fun S hS => aB rfl (aM rfl rfl (aA rfl) rfl (aA rfl) (aD hS rfl) c7),
      fun S hS => aB rfl (aM rfl rfl (aA rfl) rfl (aA rfl) (aD hS rfl) c7),
      fun S hS => aB rfl (aM rfl rfl (aA rfl) rfl (aA rfl) (aD hS rfl) c7),
      fun S hS => aB rfl (aM rfl rfl (aA rfl) rfl (aA rfl) (aD hS rfl) c7),
      fun S hS => aB rfl (aM rfl rfl (aA rfl) rfl (aA rfl) (aD hS rfl) c7),
      fun S hS => aB rfl (aM rfl rfl (aA rfl) rfl (aA rfl) (aD hS rfl) c7),
      fun S hS => aB rfl (aM rfl rfl (aA rfl) rfl (aA rfl) (aD hS rfl) c7),
      fun S hS => aB rfl (aR rfl (bH (v := .d (.lit (.bool false))) (aA rfl) (aC hS rfl) c7 rfl rfl)), trivial⟩⟩
   · exact cL (aX rfl (bF trivial))
 ·refine tr1 rfl (aL (v := .d (.lit (.bool b5))) (aA rfl) rfl rfl) ?_
  refine aJ ?_
  have h := Option.some.inj h
  subst h
  refine cR (cQ (cX (l := [4]) ⟨rfl, trivial⟩)) ?_
  exact bV ⟨rfl, _, .one _, rfl, rfl⟩

theorem oY (s_0 : List Int) (v_1 : Int) {r : Int} (h : fL s_0 v_1 = some r) : Fn Try.prog 73 [.d (.sl 1 (s_0.map aO)), .d (.lit (.int .i64 v_1))] (.d (.lit (.int .i64 r))) := by
 unfold fL at h
 refine Fn.of_tr Try.func73 rfl (rs := [.tmp 4]) Try.results73 Try.ntmps73 (Nat.le_of_ble_eq_true rfl) ?_
 refine aK ?_
 refine aH ?_
 refine tr1 rfl (aL (v := .d (.lit (.int .i64 0))) (aA rfl) rfl rfl) ?_
 refine aJ ?_
 refine aK ?_
 refine aK ?_
 refine aH ?_
 refine tr1 rfl (aE (v := .d (.sl 1 (s_0.map aO))) (aA rfl) rfl rfl) ?_
 refine tr1 rfl (dR (aA rfl) rfl bP.of) ?_
 refine tr1 rfl (aE (v := .d (.lit (.int .i64 0))) (aA rfl) rfl rfl) ?_
 refine aJ ?_
 refine cF ?_
 refine dJ [0, 1, 7] (fun (s1 : Int) => [(8, .d (.lit (.int .i64 s1)))]) (fun (s1 : Int) => []) (fun (k : Nat) (s1 : Int) => gW s_0 v_1 (s_0.length : Int) k s1) (fun _ => rfl) (0) h (bK [] rfl rfl (aX rfl (bF ⟨rfl, rfl, rfl, trivial⟩))) ?_
 rintro k2 t8_0_1 h
 simp only [gW] at h
 refine aK ?_
 refine aH ?_
 refine tr1 rfl (bE (aA rfl) rfl rfl rfl) ?_
 refine aJ ?_
 refine aK ?_
 refine bY rfl (fun c3 => ?_) (fun c3 => ?_)
 ·have h := bD c3 h
  refine bU ?_
  refine aK ?_
  refine cF ?_
  refine aK ?_
  refine aH ?_
  refine tr1 rfl (aE (v := .d (.lit (.int .i64 t8_0_1))) (aA rfl) rfl rfl) ?_
  refine tr1 rfl (aL (v := .d (.lit (.int .i64 t8_0_1))) (aA rfl) rfl rfl) ?_
  refine aJ ?_
  refine aK ?_
  refine aH ?_
  refine tr1 rfl (aE (v := .d (.lit (.int .i64 v_1))) (aA rfl) rfl rfl) ?_
  refine tr1 rfl (aE (v := .d (.sl 1 (s_0.map aO))) (aA rfl) rfl rfl) ?_
  refine tr1 rfl (aE (v := .d (.lit (.int .i64 t8_0_1))) (aA rfl) rfl rfl) ?_
  obtain ⟨x4, h5, h⟩ := bind_some h
  refine tr1 rfl (bA (aA rfl) rfl rfl bP.of (bJ aO h5)) ?_
  refine tr1 rfl (bC (aA rfl) rfl aZ) ?_
  refine tr1 rfl (bE (aA rfl) rfl rfl rfl) ?_
  refine aJ ?_
  refine bY rfl (fun c6 => ?_) (fun c6 => ?_)
  ·have h := bD c6 h
   refine aK ?_
   refine aH ?_
   refine tr1 rfl (aE (v := .d (.lit (.int .i64 t8_0_1))) (aA rfl) rfl rfl) ?_
   refine tr1 rfl (aL (v := .d (.lit (.int .i64 t8_0_1))) (aA rfl) rfl rfl) ?_
   refine aJ ?_
   have h := Option.some.inj h
   subst h
   exact bV ⟨rfl, _, .one _, rfl, rfl⟩
  ·have h := bB c6 h
   refine eH ?_
   refine aH ?_
   refine tr1 rfl (bL (aA rfl) rfl rfl rfl) ?_
   refine tr1 rfl (aE (v := .d (.lit (.int .i64 ((w64 (t8_0_1 + 1)))))) (aA rfl) rfl rfl) ?_
   refine aJ ?_
   exact ⟨(w64 (t8_0_1 + 1)), h, bK [] rfl rfl (aX rfl (bF ⟨rfl, rfl, rfl, trivial⟩))⟩
 ·have h := bB c3 h
  refine dB ?_
  refine .inl ⟨rfl, ?_⟩
  simp only [oF] at h
  refine aK ?_
  refine aH ?_
  refine tr1 rfl (aL (v := .d (.lit (.int .i64 (-1)))) (aA rfl) rfl rfl) ?_
  refine aJ ?_
  have h := Option.some.inj h
  subst h
  exact bV ⟨rfl, _, .one _, rfl, rfl⟩

theorem qN (s_0 : List Int) (v_1 : Int) {r : Bool} (h : gV s_0 v_1 = some r) : Fn Try.prog 88 [.d (.sl 1 (s_0.map aO)), .d (.lit (.int .i64 v_1))] (.d (.lit (.bool r))) := by
 unfold gV at h
 refine Fn.of_tr Try.func88 rfl (rs := [.tmp 4]) Try.results88 Try.ntmps88 (Nat.le_of_ble_eq_true rfl) ?_
 refine aK ?_
 refine aH ?_
 refine tr1 rfl (aL (v := .d (.lit (.bool false))) (aA rfl) rfl rfl) ?_
 refine aJ ?_
 refine aK ?_
 refine aH ?_
 refine tr1 rfl (aE (v := .d (.sl 1 (s_0.map aO))) (aA rfl) rfl rfl) ?_
 refine tr1 rfl (aE (v := .d (.lit (.int .i64 v_1))) (aA rfl) rfl rfl) ?_
 obtain ⟨r1, h2, h⟩ := bind_some h
 refine tr1 rfl (cZ (aA rfl) (.func _ _ Try.call73) rfl rfl (BVs.refl _ _) (oY _ _ h2) rfl) ?_
 refine tr1 rfl (bE (aA rfl) rfl rfl rfl) ?_
 refine tr1 rfl (aL (v := .d (.lit (.bool ((decide (0 ≤ r1)))))) (aA rfl) rfl rfl) ?_
 refine aJ ?_
 have h := Option.some.inj h
 subst h
 exact bV ⟨rfl, _, .one _, rfl, rfl⟩

theorem zV (t_0 : aT) (s_1 : aI) {r : Bool} (h : mX t_0 s_1 = some r) : Fn Try.prog 70 [.agg (aY t_0), .agg (aP s_1)] (.d (.lit (.bool r))) := by
 unfold mX at h
 refine Fn.of_tr Try.func70 rfl (rs := [.tmp 4]) Try.results70 Try.ntmps70 (Nat.le_of_ble_eq_true rfl) ?_
 refine aK ?_
 refine aH ?_
 refine cE rfl (gL (v := .agg (aY t_0)) (aA rfl) rfl rfl rfl) ?_
 rintro _ ⟨b1, rfl⟩
 refine cE rfl (gL (v := .agg (aP s_1)) (aA rfl) rfl rfl rfl) ?_
 rintro _ ⟨b2, rfl⟩
 refine tr1 rfl (aL (v := .d (.lit (.bool false))) (aA rfl) rfl rfl) ?_
 refine aJ ?_
 refine aK ?_
 refine aK ?_
 refine aH ?_
 refine tr1 rfl (aS (aA rfl) rfl lT) ?_
 refine tr1 rfl (aU (aA rfl) rfl (i := 1) rfl rfl aZ) ?_
 obtain ⟨r3, h4, h⟩ := bind_some h
 refine tr1 rfl (cZ (aA rfl) (.func _ _ Try.call72) rfl rfl (BVs.refl _ _) (eS _ _ _ h4) rfl) ?_
 refine tr1 rfl (fJ (aA rfl) rfl) ?_
 refine aJ ?_
 refine bY rfl (fun c5 => ?_) (fun c5 => ?_)
 ·have h := bD c5 h
  refine aK ?_
  refine aH ?_
  refine tr1 rfl (aL (v := .d (.lit (.bool false))) (aA rfl) rfl rfl) ?_
  refine aJ ?_
  have h := Option.some.inj h
  subst h
  refine cR (cQ (cX (l := [4]) ⟨rfl, trivial⟩)) ?_
  exact bV ⟨rfl, _, .one _, rfl, rfl⟩
 ·have h := bB c5 h
  refine bU ?_
  refine aK ?_
  refine aK ?_
  refine aH ?_
  refine tr1 rfl (aS (aA rfl) rfl lS) ?_
  refine tr1 rfl (aU (aA rfl) rfl (i := 1) rfl rfl aZ) ?_
  refine tr1 rfl (bE (aA rfl) rfl rfl rfl) ?_
  refine aJ ?_
  refine bY rfl (fun c6 => ?_) (fun c6 => ?_)
  ·have h := bD c6 h
   refine aK ?_
   refine aH ?_
   refine tr1 rfl (aS (aA rfl) rfl lE) ?_
   refine tr1 rfl (aU (aA rfl) rfl (i := 1) rfl rfl aZ) ?_
   refine tr1 rfl (bE (aA rfl) rfl rfl rfl) ?_
   refine tr1 rfl (aE (v := .d (.lit (.bool ((decide (s_1.Round = 0)))))) (aA rfl) rfl rfl) ?_
   obtain ⟨b7, h8, h⟩ := bind_some h
   refine cK 8 [3] 24 b7 ?_ ?_
   ·refine bM (decide (s_1.Round = 0)) (fun c14 => ?_) (fun c14 => ?_)
    ·have h8 := bD c14 h8
     refine aQ rfl rfl (aA rfl) rfl c14 (aS (aA rfl) rfl iH) ?_
     refine aQ rfl rfl (aA rfl) rfl c14 (aU (aA rfl) rfl (i := 1) rfl rfl aZ) ?_
     refine aQ rfl rfl (aA rfl) rfl c14 (aS (aA rfl) rfl dZ) ?_
     refine aQ rfl rfl (aA rfl) rfl c14 (aU (aA rfl) rfl (i := 0) rfl rfl cU) ?_
     refine aQ rfl rfl (aA rfl) rfl c14 (dR (aA rfl) rfl bP.of) ?_
     refine aQ rfl rfl (aA rfl) rfl c14 (bL (aA rfl) rfl rfl rfl) ?_
     obtain ⟨r15, h16, h8⟩ := bind_some h8
     refine aQ rfl rfl (aA rfl) rfl c14 (cZ (aA rfl) (.func _ _ Try.call72) rfl rfl (BVs.refl _ _) (eS _ _ _ h16) rfl) ?_
     refine tr1 rfl (bO (v := .d (.lit (.bool r15))) (aA rfl) rfl c14 rfl rfl) ?_
     have h8 := Option.some.inj h8
     subst h8
     refine aJ (bN rfl ⟨rfl, trivial⟩ rfl)
    ·have h8 := bB c14 h8
     refine aV rfl rfl (aA rfl) rfl (aA rfl) rfl c14 ?_
     refine aV rfl rfl (aA rfl) rfl (aA rfl) rfl c14 ?_
     refine aV rfl rfl (aA rfl) rfl (aA rfl) rfl c14 ?_
     refine aV rfl rfl (aA rfl) rfl (aA rfl) rfl c14 ?_
     refine aV rfl rfl (aA rfl) rfl (aA rfl) rfl c14 ?_
     refine aV rfl rfl (aA rfl) rfl (aA rfl) rfl c14 ?_
     refine aV rfl rfl (aA rfl) rfl (aA rfl) rfl c14 ?_
     refine tr1 rfl (bH (v := .d (.lit (.bool false))) (aA rfl) rfl c14 rfl rfl) ?_
     have h8 := Option.some.inj h8
     subst h8
     refine aJ (bN rfl ⟨rfl, trivial⟩ rfl)
   ·refine tr1 rfl (aE (v := .d (.lit (.bool b7))) (aA rfl) rfl rfl) ?_
    obtain ⟨b9, h10, h⟩ := bind_some h
    refine cK 4 [] 29 b9 ?_ ?_
    ·refine bM (b7) (fun c11 => ?_) (fun c11 => ?_)
     ·have h10 := bD c11 h10
      refine aQ rfl rfl (aA rfl) rfl c11 (aS (aA rfl) rfl rV) ?_
      refine aQ rfl rfl (aA rfl) rfl c11 (aU (aA rfl) rfl (i := 1) rfl rfl aZ) ?_
      obtain ⟨r12, h13, h10⟩ := bind_some h10
      refine aQ rfl rfl (aA rfl) rfl c11 (cZ (aA rfl) (.func _ _ Try.call72) rfl rfl (BVs.refl _ _) (eS _ _ _ h13) rfl) ?_
      refine tr1 rfl (bO (v := .d (.lit (.bool r12))) (aA rfl) rfl c11 rfl rfl) ?_
      have h10 := Option.some.inj h10
      subst h10
      refine aJ (bN rfl trivial rfl)
     ·have h10 := bB c11 h10
      refine aV rfl rfl (aA rfl) rfl (aA rfl) rfl c11 ?_
      refine aV rfl rfl (aA rfl) rfl (aA rfl) rfl c11 ?_
      refine aV rfl rfl (aA rfl) rfl (aA rfl) rfl c11 ?_
      refine tr1 rfl (bH (v := .d (.lit (.bool false))) (aA rfl) rfl c11 rfl rfl) ?_
      have h10 := Option.some.inj h10
      subst h10
      refine aJ (bN rfl trivial rfl)
    ·refine tr1 rfl (aL (v := .d (.lit (.bool b9))) (aA rfl) rfl rfl) ?_
     refine aJ ?_
     have h := Option.some.inj h
     subst h
     refine cR (cQ (cX (l := [4]) ⟨rfl, trivial⟩)) ?_
     exact bV ⟨rfl, _, .one _, rfl, rfl⟩
  ·have h := bB c6 h
   refine bU ?_
   refine aK ?_
   refine aH ?_
   refine tr1 rfl (aS (aA rfl) rfl lE) ?_
   refine tr1 rfl (aU (aA rfl) rfl (i := 1) rfl rfl aZ) ?_
   refine tr1 rfl (aS (aA rfl) rfl iH) ?_
   refine tr1 rfl (aU (aA rfl) rfl (i := 1) rfl rfl aZ) ?_
   refine tr1 rfl (fN (aA rfl) vT (zs := [.lit (.int .i64 0), .lit (.int .i64 0)]) rfl rfl rfl rfl (es := [.lit (.int .i64 s_1.Round), .lit (.int .i64 s_1.Place)]) rfl) ?_
   refine cE rfl (eD (zs := [.lit (.int .i64 0), .lit (.int .i64 0)]) (aA rfl) Try.zeroValue70 rfl rfl) ?_
   rintro _ ⟨b17, rfl⟩
   refine tr1 rfl (cO (i := 2) rfl rfl rfl rfl rfl Try.sizeOf70 rfl (aA rfl) (Nat.le_of_ble_eq_true rfl) (ds' := (aN (aF.mk s_1.Round s_1.Place))) rfl) ?_
   refine aJ ?_
   refine aK ?_
   refine aK ?_
   refine aH ?_
   refine tr1 rfl (aS (aA rfl) rfl lS) ?_
   refine tr1 rfl (aU (aA rfl) rfl (i := 1) rfl rfl aZ) ?_
   obtain ⟨r18, h19, h⟩ := bind_some h
   refine tr1 rfl (cZ (aA rfl) (.func _ _ Try.call72) rfl rfl (BVs.refl _ _) (eS _ _ _ h19) rfl) ?_
   refine tr1 rfl (fJ (aA rfl) rfl) ?_
   refine tr1 rfl (aE (v := .d (.lit (.bool (!r18)))) (aA rfl) rfl rfl) ?_
   obtain ⟨b20, h21, h⟩ := bind_some h
   refine cK 4 [2, 3, 5] 43 b20 ?_ ?_
   ·refine bM (!r18) (fun c35 => ?_) (fun c35 => ?_)
    ·have h21 := bD c35 h21
     refine aV rfl rfl (aA rfl) rfl (aA rfl) rfl c35 ?_
     refine aV rfl rfl (aA rfl) rfl (aA rfl) rfl c35 ?_
     refine aV rfl rfl (aA rfl) rfl (aA rfl) rfl c35 ?_
     refine tr1 rfl (bO (v := .d (.lit (.bool true))) (aA rfl) rfl c35 rfl rfl) ?_
     have h21 := Option.some.inj h21
     subst h21
     refine aJ (bN rfl ⟨rfl, rfl, rfl, trivial⟩ rfl)
    ·have h21 := bB c35 h21
     refine aQ rfl rfl (aA rfl) rfl c35 (aS (aA rfl) rfl rV) ?_
     refine aQ rfl rfl (aA rfl) rfl c35 (aU (aA rfl) rfl (i := 1) rfl rfl aZ) ?_
     refine aQ rfl rfl (aA rfl) rfl c35 (bE (aA rfl) rfl rfl rfl) ?_
     refine tr1 rfl (bH (v := .d (.lit (.bool ((!decide (s_1.Old = 0)))))) (aA rfl) rfl c35 rfl rfl) ?_
     have h21 := Option.some.inj h21
     subst h21
     refine aJ (bN rfl ⟨rfl, rfl, rfl, trivial⟩ rfl)
   ·refine tr1 rfl (aE (v := .d (.lit (.bool b20))) (aA rfl) rfl rfl) ?_
    obtain ⟨b22, h23, h⟩ := bind_some h
    refine cK 5 [2, 3] 49 b22 ?_ ?_
    ·refine bM (b20) (fun c32 => ?_) (fun c32 => ?_)
     ·have h23 := bD c32 h23
      refine aV rfl rfl (aA rfl) rfl (aA rfl) rfl c32 ?_
      refine aV rfl rfl (aA rfl) rfl (aA rfl) rfl c32 ?_
      refine aV rfl rfl (aA rfl) rfl (aA rfl) rfl c32 ?_
      refine aV rfl rfl (aA rfl) rfl (aA rfl) rfl c32 ?_
      refine tr1 rfl (bO (v := .d (.lit (.bool true))) (aA rfl) rfl c32 rfl rfl) ?_
      have h23 := Option.some.inj h23
      subst h23
      refine aJ (bN rfl ⟨rfl, rfl, trivial⟩ rfl)
     ·have h23 := bB c32 h23
      refine aQ rfl rfl (aA rfl) rfl c32 (bW (aA rfl) rfl (i := 2) rfl jI (es := (aN (aF.mk s_1.Round s_1.Place))) rfl rfl) ?_
      refine aQ rfl rfl (aA rfl) rfl c32 (bW (aA rfl) rfl (i := 0) rfl dX (es := (aY t_0)) rfl rfl) ?_
      obtain ⟨r33, h34, h23⟩ := bind_some h23
      refine aQ rfl rfl (aA rfl) rfl c32 (cZ (aA rfl) (.func _ _ Try.call64) rfl rfl (BVs.refl _ _) (sK _ _ h34) rfl) ?_
      refine aQ rfl rfl (aA rfl) rfl c32 (fJ (aA rfl) rfl) ?_
      refine tr1 rfl (bH (v := .d (.lit (.bool (!r33)))) (aA rfl) rfl c32 rfl rfl) ?_
      have h23 := Option.some.inj h23
      subst h23
      refine aJ (bN rfl ⟨rfl, rfl, trivial⟩ rfl)
    ·refine aJ ?_
     refine bY rfl (fun c24 => ?_) (fun c24 => ?_)
     ·have h := bD c24 h
      refine aK ?_
      refine aH ?_
      refine tr1 rfl (aL (v := .d (.lit (.bool false))) (aA rfl) rfl rfl) ?_
      refine aJ ?_
      have h := Option.some.inj h
      subst h
      refine cR (cQ (cX (l := [4]) ⟨rfl, trivial⟩)) ?_
      exact bV ⟨rfl, _, .one _, rfl, rfl⟩
     ·have h := bB c24 h
      refine bU ?_
      refine aK ?_
      refine aH ?_
      refine tr1 rfl (aS (aA rfl) rfl lE) ?_
      refine tr1 rfl (aU (aA rfl) rfl (i := 1) rfl rfl aZ) ?_
      refine tr1 rfl (bE (aA rfl) rfl rfl rfl) ?_
      refine tr1 rfl (aE (v := .d (.lit (.bool ((decide (0 < s_1.Round)))))) (aA rfl) rfl rfl) ?_
      obtain ⟨b25, h26, h⟩ := bind_some h
      refine cK 13 [] 66 b25 ?_ ?_
      ·refine bM (decide (0 < s_1.Round)) (fun c27 => ?_) (fun c27 => ?_)
       ·have h26 := bD c27 h26
        refine aV rfl rfl (aA rfl) rfl (aA rfl) rfl c27 ?_
        refine aV rfl rfl (aA rfl) rfl (aA rfl) rfl c27 ?_
        refine aV rfl rfl (aA rfl) rfl (aA rfl) rfl c27 ?_
        refine aV rfl rfl (aA rfl) rfl (aA rfl) rfl c27 ?_
        refine aV rfl rfl (aA rfl) rfl (aA rfl) rfl c27 ?_
        refine aV rfl rfl (aA rfl) rfl (aA rfl) rfl c27 ?_
        refine aV rfl rfl (aA rfl) rfl (aA rfl) rfl c27 ?_
        refine aV rfl rfl (aA rfl) rfl (aA rfl) rfl c27 ?_
        refine aV rfl rfl (aA rfl) rfl (aA rfl) rfl c27 ?_
        refine aV rfl rfl (aA rfl) rfl (aA rfl) rfl c27 ?_
        refine aV rfl rfl (aA rfl) rfl (aA rfl) rfl c27 ?_
        refine aV rfl rfl (aA rfl) rfl (aA rfl) rfl c27 ?_
        refine tr1 rfl (bO (v := .d (.lit (.bool true))) (aA rfl) rfl c27 rfl rfl) ?_
        have h26 := Option.some.inj h26
        subst h26
        refine aJ (bN rfl trivial rfl)
       ·have h26 := bB c27 h26
        refine aQ rfl rfl (aA rfl) rfl c27 (aS (aA rfl) rfl dZ) ?_
        refine aQ rfl rfl (aA rfl) rfl c27 (aU (aA rfl) rfl (i := 0) rfl rfl cU) ?_
        refine aQ rfl rfl (aA rfl) rfl c27 (aS (aA rfl) rfl iH) ?_
        refine aQ rfl rfl (aA rfl) rfl c27 (aU (aA rfl) rfl (i := 1) rfl rfl aZ) ?_
        refine aQ rfl rfl (aA rfl) rfl c27 (bL (aA rfl) rfl rfl rfl) ?_
        refine aQ rfl rfl (aA rfl) rfl c27 (aS (aA rfl) rfl iH) ?_
        refine aQ rfl rfl (aA rfl) rfl c27 (aU (aA rfl) rfl (i := 1) rfl rfl aZ) ?_
        refine aQ rfl rfl (aA rfl) rfl c27 (bL (aA rfl) rfl rfl rfl) ?_
        refine aQ rfl rfl (aA rfl) rfl c27 (bL (aA rfl) rfl rfl rfl) ?_
        obtain ⟨x28, h29, h26⟩ := bind_some h26
        refine aQ rfl rfl (aA rfl) rfl c27 (aHr (aA rfl) bP.of rfl rfl rfl (aLy aO h29)) ?_
        obtain ⟨r30, h31, h26⟩ := bind_some h26
        refine aQ rfl rfl (aA rfl) rfl c27 (cZ (aA rfl) (.func _ _ Try.call88) rfl rfl (BVs.refl _ _) (qN _ _ h31) rfl) ?_
        refine aQ rfl rfl (aA rfl) rfl c27 (fJ (aA rfl) rfl) ?_
        refine tr1 rfl (bH (v := .d (.lit (.bool (!r30)))) (aA rfl) rfl c27 rfl rfl) ?_
        have h26 := Option.some.inj h26
        subst h26
        refine aJ (bN rfl trivial rfl)
      ·refine tr1 rfl (aL (v := .d (.lit (.bool b25))) (aA rfl) rfl rfl) ?_
       refine aJ ?_
       have h := Option.some.inj h
       subst h
       refine cR (cQ (cX (l := [4]) ⟨rfl, trivial⟩)) ?_
       exact bV ⟨rfl, _, .one _, rfl, rfl⟩

theorem zX (s_0 : aI) (c_1 : aT) {r : Bool} (h : lO s_0 c_1 = some r) : Fn Try.prog 69 [.agg (aP s_0), .cp (aY c_1)] (.d (.lit (.bool r))) := by
 unfold lO at h
 refine Fn.of_tr Try.func69 rfl (rs := [.tmp 3]) Try.results69 Try.ntmps69 (Nat.le_of_ble_eq_true rfl) ?_
 refine aK ?_
 refine aH ?_
 refine cE rfl (gL (v := .agg (aP s_0)) (aA rfl) rfl rfl rfl) ?_
 rintro _ ⟨b1, rfl⟩
 refine tr1 rfl (aL (v := .d (.lit (.bool false))) (aA rfl) rfl rfl) ?_
 refine aJ ?_
 refine aK ?_
 refine aH ?_
 refine tr1 rfl (jP (aA rfl) rfl dX (es := (aY c_1)) rfl rfl) ?_
 refine tr1 rfl (bW (aA rfl) rfl (i := 0) rfl kC (es := (aP s_0)) rfl rfl) ?_
 obtain ⟨r2, h3, h⟩ := bind_some h
 refine tr1 rfl (cZ (aA rfl) (.func _ _ Try.call70) rfl rfl (BVs.refl _ _) (zV _ _ h3) rfl) ?_
 refine tr1 rfl (fJ (aA rfl) rfl) ?_
 refine tr1 rfl (aL (v := .d (.lit (.bool (!r2)))) (aA rfl) rfl rfl) ?_
 refine aJ ?_
 have h := Option.some.inj h
 subst h
 refine cR (cQ (cX (l := [3]) ⟨rfl, trivial⟩)) ?_
 exact bV ⟨rfl, _, .one _, rfl, rfl⟩

theorem rR (s_0 : List Int) {r : (List Int)} (h : kL s_0 = some r) : fE Try.prog 89 [.d (.sl 1 (s_0.map aO))] [] (fun r' o' => ∃ (w0 : Value), r' = .d (.lit w0) ∧ o' = [.arr w0 3 1 (r.map aO)]) := by
 unfold kL at h
 refine gX Try.func89 rfl (rs := [.tmp 2]) Try.results89 Try.ntmps89 (Nat.le_of_ble_eq_true rfl) ?_
 refine aK ?_
 refine aH ?_
 refine tr1 rfl (jE 3 1 (.inl rfl) (aA rfl)) ?_
 refine aJ ?_
 refine aK ?_
 refine aK ?_
 refine aH ?_
 refine tr1 rfl (aE (v := .d (.sl 1 (s_0.map aO))) (aA rfl) rfl rfl) ?_
 refine cE rfl (aHl (aA rfl) rfl rfl Try.underlying22) ?_
 rintro _ ⟨b2, h3, rfl⟩
 refine aJ ?_
 refine bY rfl (fun c4 => ?_) (fun c4 => ?_)
 ·obtain rfl := aHf (h3 c4)
  simp [app] at h
  subst h
  refine aK ?_
  refine aH ?_
  refine tr1 rfl (jE 3 1 (.inl rfl) (aA rfl)) ?_
  refine aJ ?_
  refine cR (bK [1, 0] rfl rfl (le_refl _)) ?_
  exact bV ⟨rfl, _, [.arr (.slice none 0 0) 3 1 (([] : List Int).map aO)], [.arr (.slice none 0 0) 3 1 (([] : List Int).map aO)], _, .one (.tmp 2 (v := .d (.lit (.slice none 0 0))) rfl), .refl _, .same _, (.slice none 0 0), rfl, rfl⟩
 ·refine bU ?_
  refine aK ?_
  refine aH ?_
  refine cE rfl (aCv (aA rfl) bP rfl rfl (rows := (([] : List Int)).map aO) rfl (dV (f := aO) fun _ => rfl) rfl (by decide)) ?_
  rintro _ ⟨v5, rfl⟩
  refine tr1 rfl (aE (v := .d (.sl 1 (s_0.map aO))) (aA rfl) rfl rfl) ?_
  obtain ⟨x6, h7, h⟩ := bind_some h
  refine cE rfl (gC (i := 1) (aA rfl) bP rfl rfl rfl (fun _ => rfl) h7 rfl) ?_
  rintro _ ⟨v8, rfl⟩
  refine tr1 rfl (aL (v := .d (.lit v8)) (aA rfl) rfl rfl) ?_
  refine aJ ?_
  have h := Option.some.inj h
  subst h
  refine cR (bK [1, 0] rfl rfl (le_refl _)) ?_
  exact bV ⟨rfl, _, [.arr v8 3 1 (x6.map aO)], [.arr (.slice none 0 0) 3 1 (([] : List Int).map aO)], _, .one (.tmp 2 (v := .d (.lit v8)) rfl), .refl _, .same _, v8, rfl, rfl⟩

theorem rM (d_0_Tree : aT) (d_0_players : List Int) (lucky_1 : List (aI × Int)) (slot_2 : Int) {Q : (aI × Bool) → Prop} {d_0_b d_0_o : Nat} {d_0_players_v : Value} {d_0_won_r : Nat} {lucky_1_r : Nat} {lucky_1_bs : List Nat} {lucky_1_ck : Nat} (h : gO d_0_Tree d_0_players lucky_1 slot_2 Q) : fE Try.prog 98 [.bp d_0_b d_0_o 0, .d (.lit (.map (some lucky_1_r))), .d (.lit (.int .i64 slot_2))] [.box d_0_b d_0_o [.lit (.int .i64 d_0_Tree.Rounds), .sl 1 (d_0_Tree.Slots.map aO), .lit d_0_players_v, .lit (.map (some d_0_won_r))], .arr d_0_players_v 3 1 (d_0_players.map aO), .map lucky_1_r (lucky_1.map fun p : aI × Int => ((fun a : aI => Value.agg ((aP a).map bQ).toArray) p.1, (fun v : Int => AV.d (.lit (.int .i64 v))) p.2)) lucky_1_bs lucky_1_ck] (fun r' o' => ∃ (r : aI × Bool), Q r ∧ r' = .tup [.agg (aP r.1), .d (.lit (.bool r.2))] ∧ o' = [.box d_0_b d_0_o [.lit (.int .i64 d_0_Tree.Rounds), .sl 1 (d_0_Tree.Slots.map aO), .lit d_0_players_v, .lit (.map (some d_0_won_r))], .arr d_0_players_v 3 1 (d_0_players.map aO), .map lucky_1_r (lucky_1.map fun p : aI × Int => ((fun a : aI => Value.agg ((aP a).map bQ).toArray) p.1, (fun v : Int => AV.d (.lit (.int .i64 v))) p.2)) lucky_1_bs lucky_1_ck]) := by
 unfold gO at h
 refine gX Try.func98 rfl (rs := [.cell 6 32, .tmp 7]) Try.results98 Try.ntmps98 (Nat.le_of_ble_eq_true rfl) ?_
 refine aK ?_
 refine aH ?_
 refine cE rfl (eD (zs := [.lit (.int .i64 0), .lit (.int .i64 0), .lit (.int .i64 0), .lit (.int .i64 0), .lit (.int .i64 0)]) (aA rfl) Try.zeroValue32 rfl rfl) ?_
 rintro _ ⟨b1, rfl⟩
 refine tr1 rfl (aL (v := .d (.lit (.bool false))) (aA rfl) rfl rfl) ?_
 refine aJ ?_
 refine aK ?_
 refine aK ?_
 refine aH ?_
 refine tr1 rfl (aE (v := .d (.lit (.map (some lucky_1_r)))) (aA rfl) rfl rfl) ?_
 refine cE rfl (aGi (m := 2) (aA rfl) Try.underlying123 rfl rfl) ?_
 rintro _ ⟨q2, h4, rfl⟩
 have h := yF h h4
 refine aJ ?_
 refine cF ?_
 refine oZ [0, 2, 6, 10] (fun (s5 : aI × (List Nat)) => []) (fun (s5 : aI × (List Nat)) => [.arr d_0_players_v 3 1 (d_0_players.map aO), .box d_0_b d_0_o [.lit (.int .i64 d_0_Tree.Rounds), .sl 1 (d_0_Tree.Slots.map aO), .lit d_0_players_v, .lit (.map (some d_0_won_r))], .map lucky_1_r (lucky_1.map fun p : aI × Int => ((fun a : aI => Value.agg ((aP a).map bQ).toArray) p.1, (fun v : Int => AV.d (.lit (.int .i64 v))) p.2)) lucky_1_bs lucky_1_ck, .box b1 0 (aP s5.1), .iter q2 lucky_1_r lucky_1_ck s5.2 lucky_1_ck]) (fun (k : Nat) (s5 : aI × (List Nat)) => gH Q slot_2 d_0_players d_0_Tree lucky_1 k s5.1 (lB lucky_1 lucky_1_bs s5.2)) (fun _ h => h) ((aI.mk 0 0 0 0 0), []) h (bK [1, 0, 2, 3, 4] rfl rfl (bF ⟨rfl, rfl, rfl, rfl, trivial⟩)) ?_
 rintro k7 ⟨o6_0_5, seen6⟩ h
 simp only [gH] at h
 refine aK ?_
 refine aH ?_
 refine cE rfl (aJd (kv := (fun a : aI => Value.agg ((aP a).map bQ).toArray)) (av := (fun v : Int => AV.d (.lit (.int .i64 v)))) (l := lucky_1) (mi := 4) (mm := 2) (aA rfl) rfl rfl rfl) ?_
 rintro _ (⟨h12, rfl⟩ | ⟨j9, b10, p8, h11, rfl⟩)
 ·have h := h.1 h12
  refine tr1 rfl (bX (aA rfl) rfl rfl) ?_
  refine aJ ?_
  refine aK ?_
  refine bY rfl (fun c13 => ?_) (fun c13 => ?_)
  ·exact absurd c13 (by decide)
  ·refine dB ?_
   refine .inl ⟨rfl, ?_⟩
   simp only [lJ] at h
   refine aK ?_
   refine aH ?_
   refine tr1 rfl (fN (aA rfl) aBs (zs := [.lit (.int .i64 0), .lit (.int .i64 0), .lit (.int .i64 0), .lit (.int .i64 0), .lit (.int .i64 0)]) rfl rfl rfl rfl (es := [.lit (.int .i64 0), .lit (.int .i64 0), .lit (.int .i64 0), .lit (.int .i64 0), .lit (.int .i64 0)]) rfl) ?_
   refine tr1 rfl (cO (i := 3) rfl rfl rfl rfl rfl Try.sizeOf32 rfl (aA rfl) (Nat.le_of_ble_eq_true rfl) (ds' := (aP (aI.mk 0 0 0 0 0))) rfl) ?_
   refine tr1 rfl (aL (v := .d (.lit (.bool false))) (aA rfl) rfl rfl) ?_
   refine aJ ?_
   refine cR (bK [1, 0, 2, 3, 4] rfl rfl (le_refl _)) ?_
   exact bV ⟨rfl, _, [.box d_0_b d_0_o [.lit (.int .i64 d_0_Tree.Rounds), .sl 1 (d_0_Tree.Slots.map aO), .lit d_0_players_v, .lit (.map (some d_0_won_r))], .arr d_0_players_v 3 1 (d_0_players.map aO), .map lucky_1_r (lucky_1.map fun p : aI × Int => ((fun a : aI => Value.agg ((aP a).map bQ).toArray) p.1, (fun v : Int => AV.d (.lit (.int .i64 v))) p.2)) lucky_1_bs lucky_1_ck], [.box b1 0 (aP (aI.mk 0 0 0 0 0)), .iter q2 lucky_1_r lucky_1_ck seen6 lucky_1_ck], _, .two (.cell 6 32 rfl (i := 3) rfl kC (es := (aP (aI.mk 0 0 0 0 0))) rfl rfl) (.tmp 7 (v := .d (.lit (.bool false))) rfl), .refl _, .same _, ((aI.mk 0 0 0 0 0), false), h, rfl, rfl⟩
 ·have h := zL h h11
  refine tr1 rfl (bX (aA rfl) rfl rfl) ?_
  refine aJ ?_
  refine aK ?_
  refine bY rfl (fun c21 => ?_) (fun c21 => ?_)
  ·refine bU ?_
   refine cF ?_
   refine aK ?_
   refine aH ?_
   refine tr1 rfl (aGh (kv := (fun a : aI => Value.agg ((aP a).map bQ).toArray)) (av := (fun v : Int => AV.d (.lit (.int .i64 v)))) (l := lucky_1) (mi := 4) (mm := 2) (ka := .agg (aP p8.1)) (aA rfl) rfl rfl rfl h11 (fun _ _ => .agg (yB rfl))) ?_
   refine tr1 rfl (bX (aA rfl) rfl rfl) ?_
   refine cE rfl (eD (zs := [.lit (.int .i64 0), .lit (.int .i64 0), .lit (.int .i64 0), .lit (.int .i64 0), .lit (.int .i64 0)]) (aA rfl) Try.zeroValue32 rfl rfl) ?_
   rintro _ ⟨b14, rfl⟩
   refine tr1 rfl (cO (i := 5) rfl rfl rfl rfl rfl Try.sizeOf32 rfl (aA rfl) (Nat.le_of_ble_eq_true rfl) (ds' := (aP p8.1)) rfl) ?_
   refine aJ ?_
   refine aK ?_
   obtain ⟨b15, h16, h⟩ := dM h
   refine dN mix 16 [0, 2, 6, 8, 10] [(30, .d (.lit (.bool b15)))] ?_ ?_
   ·refine bM (decide (p8.1.Place = slot_2)) (fun c17 => ?_) (fun c17 => ?_)
    ·have h16 := bD c17 h16
     obtain ⟨x18, h19, h16⟩ := bind_some h16
     have h16 := Option.some.inj h16
     subst h16
     refine ⟨[(15, 0, .bp b14 0 2), (16, 1, .d (.lit (.int .i64 p8.1.Place))), (17, 2, .d (.lit (.int .i64 slot_2))), (18, 3, .d (.lit (.bool ((decide (p8.1.Place = slot_2)))))), (19, 4, .d (.lit (.bool ((decide (p8.1.Place = slot_2)))))), (20, 5, .bp b14 0 4), (21, 6, .d (.lit (.int .i64 p8.1.Old))), (22, 7, .bp d_0_b d_0_o 0), (23, 8, .bp d_0_b d_0_o 0), (24, 9, .bp d_0_b d_0_o 2), (25, 10, .d (.lit d_0_players_v)), (26, 11, .d (.lit (.int .i64 slot_2))), (27, 12, .ep d_0_players_v 1 slot_2.toNat 0), (28, 13, .d (.lit (.int .i64 x18))), (29, 14, .d (.lit (.bool ((decide (p8.1.Old = x18)))))), (30, 15, .d (.lit (.bool ((decide (p8.1.Old = x18))))))], ?_, ?_⟩
     · exact ⟨by kernel_rfl, by kernel_rfl, by kernel_rfl, by kernel_rfl, by kernel_rfl, [([], []), ([0], []), ([], []), ([1, 2], []), ([3], []), ([4], []), ([4, 5], []), ([4], []), ([4, 7], []), ([4, 8], []), ([4, 9], []), ([4], []), ([4, 10, 11], []), ([4, 12], []), ([4, 6, 13], []), ([4, 14], [])], by kernel_rfl, ⟨fun S hS => aB rfl (aR rfl (aS (aA rfl) (aC hS rfl) iH)),
      fun S hS => aB rfl (aR rfl (aU (aA rfl) (aC hS rfl) (i := 5) rfl rfl aZ)),
      fun S hS => aB rfl (aR rfl (aE (v := .d (.lit (.int .i64 slot_2))) (aA rfl) (aC hS rfl) rfl)),
      fun S hS => aB rfl (aR rfl (bE (aA rfl) (aC hS rfl) (aC hS rfl) rfl)),
      fun S hS => aB rfl (aR rfl (aE (v := .d (.lit (.bool ((decide (p8.1.Place = slot_2)))))) (aA rfl) (aC hS rfl) rfl)),
      fun S hS => aB rfl (aG rfl rfl (aA rfl) (aD hS rfl) c17 (aS (aA rfl) (aC hS rfl) rV)),
      fun S hS => aB rfl (aG rfl rfl (aA rfl) (aD hS rfl) c17 (aU (aA rfl) (aC hS rfl) (i := 5) rfl rfl aZ)),
      fun S hS => aB rfl (aG rfl rfl (aA rfl) (aD hS rfl) c17 (aE (v := .bp d_0_b d_0_o 0) (aA rfl) (aC hS rfl) rfl)),
      fun S hS => aB rfl (aG rfl rfl (aA rfl) (aD hS rfl) c17 (kP (aA rfl) (aC hS rfl))),
      fun S hS => aB rfl (aG rfl rfl (aA rfl) (aD hS rfl) c17 (aS (aA rfl) (aC hS rfl) lF)),
      fun S hS => aB rfl (aG rfl rfl (aA rfl) (aD hS rfl) c17 (aU (aA rfl) (aC hS rfl) (i := 1) rfl rfl cU)),
      fun S hS => aB rfl (aG rfl rfl (aA rfl) (aD hS rfl) c17 (aE (v := .d (.lit (.int .i64 slot_2))) (aA rfl) (aC hS rfl) rfl)),
      fun S hS => aB rfl (aG rfl rfl (aA rfl) (aD hS rfl) c17 (jH (m := 0) (aA rfl) (aC hS rfl) rfl (aC hS rfl) bP.of (bJ aO h19))),
      fun S hS => aB rfl (aG rfl rfl (aA rfl) (aD hS rfl) c17 (nG (aA rfl) (aC hS rfl) (m := 0) rfl (sS aO h19) rfl aZ)),
      fun S hS => aB rfl (aG rfl rfl (aA rfl) (aD hS rfl) c17 (bE (aA rfl) (aC hS rfl) (aC hS rfl) rfl)),
      fun S hS => aB rfl (aR rfl (bO (v := .d (.lit (.bool ((decide (p8.1.Old = x18)))))) (aA rfl) (aC hS rfl) c17 (aC hS rfl) rfl)), trivial⟩⟩
     · exact cL (aX rfl (bF ⟨rfl, rfl, rfl, rfl, rfl, trivial⟩))
    ·have h16 := bB c17 h16
     have h16 := Option.some.inj h16
     subst h16
     refine ⟨[(15, 0, .bp b14 0 2), (16, 1, .d (.lit (.int .i64 p8.1.Place))), (17, 2, .d (.lit (.int .i64 slot_2))), (18, 3, .d (.lit (.bool ((decide (p8.1.Place = slot_2)))))), (19, 4, .d (.lit (.bool ((decide (p8.1.Place = slot_2)))))), (20, 5, .tup []), (21, 6, .tup []), (22, 7, .tup []), (23, 8, .tup []), (24, 9, .tup []), (25, 10, .tup []), (26, 11, .tup []), (27, 12, .tup []), (28, 13, .tup []), (29, 14, .tup []), (30, 15, .d (.lit (.bool false)))], ?_, ?_⟩
     · exact ⟨by kernel_rfl, by kernel_rfl, by kernel_rfl, by kernel_rfl, by kernel_rfl, [([], []), ([0], []), ([], []), ([1, 2], []), ([3], []), ([4], []), ([4, 5], []), ([4], []), ([4, 7], []), ([4, 8], []), ([4, 9], []), ([4], []), ([4, 10, 11], []), ([4, 12], []), ([4, 6, 13], []), ([4, 14], [])], by kernel_rfl, ⟨fun S hS => aB rfl (aR rfl (aS (aA rfl) (aC hS rfl) iH)),
      fun S hS => aB rfl (aR rfl (aU (aA rfl) (aC hS rfl) (i := 5) rfl rfl aZ)),
      fun S hS => aB rfl (aR rfl (aE (v := .d (.lit (.int .i64 slot_2))) (aA rfl) (aC hS rfl) rfl)),
      fun S hS => aB rfl (aR rfl (bE (aA rfl) (aC hS rfl) (aC hS rfl) rfl)),
      fun S hS => aB rfl (aR rfl (aE (v := .d (.lit (.bool ((decide (p8.1.Place = slot_2)))))) (aA rfl) (aC hS rfl) rfl)),
      fun S hS => aB rfl (aM rfl rfl (aA rfl) rfl (aA rfl) (aD hS rfl) c17),
      fun S hS => aB rfl (aM rfl rfl (aA rfl) rfl (aA rfl) (aD hS rfl) c17),
      fun S hS => aB rfl (aM rfl rfl (aA rfl) rfl (aA rfl) (aD hS rfl) c17),
      fun S hS => aB rfl (aM rfl rfl (aA rfl) rfl (aA rfl) (aD hS rfl) c17),
      fun S hS => aB rfl (aM rfl rfl (aA rfl) rfl (aA rfl) (aD hS rfl) c17),
      fun S hS => aB rfl (aM rfl rfl (aA rfl) rfl (aA rfl) (aD hS rfl) c17),
      fun S hS => aB rfl (aM rfl rfl (aA rfl) rfl (aA rfl) (aD hS rfl) c17),
      fun S hS => aB rfl (aM rfl rfl (aA rfl) rfl (aA rfl) (aD hS rfl) c17),
      fun S hS => aB rfl (aM rfl rfl (aA rfl) rfl (aA rfl) (aD hS rfl) c17),
      fun S hS => aB rfl (aM rfl rfl (aA rfl) rfl (aA rfl) (aD hS rfl) c17),
      fun S hS => aB rfl (aR rfl (bH (v := .d (.lit (.bool false))) (aA rfl) (aC hS rfl) c17 rfl rfl)), trivial⟩⟩
     · exact cL (aX rfl (bF ⟨rfl, rfl, rfl, rfl, rfl, trivial⟩))
   ·refine aJ ?_
    refine bY rfl (fun c20 => ?_) (fun c20 => ?_)
    ·have h := eN c20 h
     refine aK ?_
     refine aH ?_
     refine tr1 rfl (bW (aA rfl) rfl (i := 5) rfl kC (es := (aP p8.1)) rfl rfl) ?_
     refine tr1 rfl (cO (i := 3) rfl rfl rfl rfl rfl Try.sizeOf32 rfl (aA rfl) (Nat.le_of_ble_eq_true rfl) (ds' := (aP p8.1)) rfl) ?_
     refine tr1 rfl (aL (v := .d (.lit (.bool true))) (aA rfl) rfl rfl) ?_
     refine aJ ?_
     refine cR (bK [1, 0, 2, 3, 4, 5] rfl rfl (le_refl _)) ?_
     exact bV ⟨rfl, _, [.box d_0_b d_0_o [.lit (.int .i64 d_0_Tree.Rounds), .sl 1 (d_0_Tree.Slots.map aO), .lit d_0_players_v, .lit (.map (some d_0_won_r))], .arr d_0_players_v 3 1 (d_0_players.map aO), .map lucky_1_r (lucky_1.map fun p : aI × Int => ((fun a : aI => Value.agg ((aP a).map bQ).toArray) p.1, (fun v : Int => AV.d (.lit (.int .i64 v))) p.2)) lucky_1_bs lucky_1_ck], [.box b1 0 (aP p8.1), .iter q2 lucky_1_r lucky_1_ck (seen6 ++ [b10]) lucky_1_ck, .box b14 0 (aP p8.1)], _, .two (.cell 6 32 rfl (i := 3) rfl kC (es := (aP p8.1)) rfl rfl) (.tmp 7 (v := .d (.lit (.bool true))) rfl), .refl _, .same _, (p8.1, true), h, rfl, rfl⟩
    ·have h := eM c20 h
     refine eH ?_
     exact ⟨(o6_0_5, (seen6 ++ [b10])), h, bK [0, 1, 2, 3, 4] rfl rfl (bF ⟨rfl, rfl, rfl, rfl, trivial⟩)⟩
  ·exact absurd c21 (by decide)

theorem uX (d_0_Tree : aT) (d_0_players : List Int) (lucky_1 : List (aI × Int)) {Q : (Bool × (List Int) × (List (aI × Int))) → Prop} {d_0_b d_0_o : Nat} {d_0_players_v : Value} {d_0_won_r : Nat} {lucky_1_r : Nat} {lucky_1_bs : List Nat} {lucky_1_ck : Nat} (h : jL d_0_Tree d_0_players lucky_1 Q) : fE Try.prog 90 [.bp d_0_b d_0_o 0, .d (.lit (.map (some lucky_1_r)))] [.box d_0_b d_0_o [.lit (.int .i64 d_0_Tree.Rounds), .sl 1 (d_0_Tree.Slots.map aO), .lit d_0_players_v, .lit (.map (some d_0_won_r))], .arr d_0_players_v 3 1 (d_0_players.map aO), .map lucky_1_r (lucky_1.map fun p : aI × Int => ((fun a : aI => Value.agg ((aP a).map bQ).toArray) p.1, (fun v : Int => AV.d (.lit (.int .i64 v))) p.2)) lucky_1_bs lucky_1_ck] (fun r' o' => ∃ (r : Bool × (List Int) × (List (aI × Int))) (bs3 : List Nat) (ck3 : Nat), Q r ∧ r' = .d (.lit (.bool r.1)) ∧ o' = [.box d_0_b d_0_o [.lit (.int .i64 d_0_Tree.Rounds), .sl 1 (d_0_Tree.Slots.map aO), .lit d_0_players_v, .lit (.map (some d_0_won_r))], .arr d_0_players_v 3 1 (r.2.1.map aO), .map lucky_1_r (r.2.2.map fun p : aI × Int => ((fun a : aI => Value.agg ((aP a).map bQ).toArray) p.1, (fun v : Int => AV.d (.lit (.int .i64 v))) p.2)) bs3 ck3]) := by
 unfold jL at h
 refine gX Try.func90 rfl (rs := [.tmp 4]) Try.results90 Try.ntmps90 (Nat.le_of_ble_eq_true rfl) ?_
 refine aK ?_
 refine aH ?_
 refine tr1 rfl (aL (v := .d (.lit (.bool false))) (aA rfl) rfl rfl) ?_
 refine aJ ?_
 refine aK ?_
 refine aH ?_
 refine tr1 rfl (aE (v := .bp d_0_b d_0_o 0) (aA rfl) rfl rfl) ?_
 refine tr1 rfl (kP (aA rfl) rfl) ?_
 refine tr1 rfl (aS (aA rfl) rfl oV) ?_
 refine tr1 rfl (aS (aA rfl) rfl dZ) ?_
 refine tr1 rfl (aU (aA rfl) rfl (i := 0) rfl rfl cU) ?_
 obtain ⟨r1, h2, h⟩ := dM h
 refine cE rfl (aBo (aA rfl) (.func _ _ Try.call89) rfl rfl (rR _ h2)) ?_
 rintro _ ⟨v3, rfl⟩
 refine tr1 rfl (aL (v := .d (.lit v3)) (aA rfl) rfl rfl) ?_
 refine aJ ?_
 refine aK ?_
 refine aK ?_
 refine aH ?_
 refine tr1 rfl (aE (v := .bp d_0_b d_0_o 0) (aA rfl) rfl rfl) ?_
 refine tr1 rfl (kP (aA rfl) rfl) ?_
 refine tr1 rfl (aS (aA rfl) rfl lF) ?_
 refine tr1 rfl (aU (aA rfl) rfl (i := 0) rfl rfl cU) ?_
 refine tr1 rfl (pG (m := 1) (aA rfl) rfl rfl bP.of) ?_
 refine tr1 rfl (aE (v := .d (.lit (.int .i64 0))) (aA rfl) rfl rfl) ?_
 refine aJ ?_
 refine cF ?_
 refine oZ [0, 1, 19] (fun (s4 : Int × (List Int) × (List (aI × Int)) × (List Int) × (List Nat) × Nat × Value) => [(5, .d (.lit s4.2.2.2.2.2.2)), (20, .d (.lit (.int .i64 s4.1)))]) (fun (s4 : Int × (List Int) × (List (aI × Int)) × (List Int) × (List Nat) × Nat × Value) => [.arr d_0_players_v 3 1 (s4.2.1.map aO), .box d_0_b d_0_o [.lit (.int .i64 d_0_Tree.Rounds), .sl 1 (d_0_Tree.Slots.map aO), .lit d_0_players_v, .lit (.map (some d_0_won_r))], .map lucky_1_r (s4.2.2.1.map fun p : aI × Int => ((fun a : aI => Value.agg ((aP a).map bQ).toArray) p.1, (fun v : Int => AV.d (.lit (.int .i64 v))) p.2)) s4.2.2.2.2.1 s4.2.2.2.2.2.1, .arr s4.2.2.2.2.2.2 3 1 (s4.2.2.2.1.map aO)]) (fun (k : Nat) (s4 : Int × (List Int) × (List (aI × Int)) × (List Int) × (List Nat) × Nat × Value) => dC Q (d_0_players.length : Int) d_0_Tree k s4.1 s4.2.1 s4.2.2.1 s4.2.2.2.1) (fun _ h => h) (0, d_0_players, lucky_1, r1, lucky_1_bs, lucky_1_ck, v3) h (bK [1, 0, 2, 3] rfl rfl (aX rfl (aX rfl (bF ⟨rfl, rfl, rfl, trivial⟩)))) ?_
 rintro k8 ⟨t20_0_4, d_0_4, lucky_0_4, o14_0_4, bs5, ck6, w7⟩ h
 simp only [dC] at h
 refine aK ?_
 refine aH ?_
 refine tr1 rfl (bE (aA rfl) rfl rfl rfl) ?_
 refine aJ ?_
 refine aK ?_
 refine bY rfl (fun c9 => ?_) (fun c9 => ?_)
 ·have h := eN c9 h
  refine bU ?_
  refine aK ?_
  refine cF ?_
  refine aK ?_
  refine aH ?_
  refine tr1 rfl (aE (v := .d (.lit (.int .i64 t20_0_4))) (aA rfl) rfl rfl) ?_
  refine tr1 rfl (aL (v := .d (.lit (.int .i64 t20_0_4))) (aA rfl) rfl rfl) ?_
  refine aJ ?_
  refine aK ?_
  refine aH ?_
  refine tr1 rfl (aE (v := .bp d_0_b d_0_o 0) (aA rfl) rfl rfl) ?_
  refine tr1 rfl (aE (v := .d (.lit (.map (some lucky_1_r)))) (aA rfl) rfl rfl) ?_
  refine tr1 rfl (aE (v := .d (.lit (.int .i64 t20_0_4))) (aA rfl) rfl rfl) ?_
  refine lP (bK [1, 0, 2, 3] rfl rfl (le_refl _)) ?_
  refine cE rfl (tP (passed := [.box d_0_b d_0_o [.lit (.int .i64 d_0_Tree.Rounds), .sl 1 (d_0_Tree.Slots.map aO), .lit d_0_players_v, .lit (.map (some d_0_won_r))], .arr d_0_players_v 3 1 (d_0_4.map aO), .map lucky_1_r (lucky_0_4.map fun p : aI × Int => ((fun a : aI => Value.agg ((aP a).map bQ).toArray) p.1, (fun v : Int => AV.d (.lit (.int .i64 v))) p.2)) bs5 ck6]) (aA rfl) rfl (.func _ _ Try.call98) rfl rfl (rM d_0_Tree d_0_4 lucky_0_4 t20_0_4 h)) ?_
  rintro _ ⟨_, _, ⟨r10, h, rfl, rfl⟩, rfl⟩
  refine tr1 rfl (aE (v := .tup [.agg (aP r10.1), .d (.lit (.bool r10.2))]) (aA rfl) rfl rfl) ?_
  refine tr1 rfl (bX (aA rfl) rfl rfl) ?_
  refine tr1 rfl (bX (aA rfl) rfl rfl) ?_
  refine cE rfl (eD (zs := [.lit (.int .i64 0), .lit (.int .i64 0), .lit (.int .i64 0), .lit (.int .i64 0), .lit (.int .i64 0)]) (aA rfl) Try.zeroValue32 rfl rfl) ?_
  rintro _ ⟨b11, rfl⟩
  refine tr1 rfl (cO (i := 4) rfl rfl rfl rfl rfl Try.sizeOf32 rfl (aA rfl) (Nat.le_of_ble_eq_true rfl) (ds' := (aP r10.1)) rfl) ?_
  refine tr1 rfl (aL (v := .d (.lit (.bool r10.2))) (aA rfl) rfl rfl) ?_
  refine aJ ?_
  refine zA ?_
  refine oZ [0, 1, 6, 19, 20] (fun (s12 : Bool × (List Int) × (List (aI × Int)) × aI × (List Int) × (List Nat) × Nat × Nat × Value) => [(5, .d (.lit s12.2.2.2.2.2.2.2.2)), (7, .bp s12.2.2.2.2.2.2.2.1 0 0), (8, .d (.lit (.bool s12.1)))]) (fun (s12 : Bool × (List Int) × (List (aI × Int)) × aI × (List Int) × (List Nat) × Nat × Nat × Value) => [.arr d_0_players_v 3 1 (s12.2.1.map aO), .box d_0_b d_0_o [.lit (.int .i64 d_0_Tree.Rounds), .sl 1 (d_0_Tree.Slots.map aO), .lit d_0_players_v, .lit (.map (some d_0_won_r))], .map lucky_1_r (s12.2.2.1.map fun p : aI × Int => ((fun a : aI => Value.agg ((aP a).map bQ).toArray) p.1, (fun v : Int => AV.d (.lit (.int .i64 v))) p.2)) s12.2.2.2.2.2.1 s12.2.2.2.2.2.2.1, .box s12.2.2.2.2.2.2.2.1 0 (aP s12.2.2.2.1), .arr s12.2.2.2.2.2.2.2.2 3 1 (s12.2.2.2.2.1.map aO)]) (fun (k : Nat) (s12 : Bool × (List Int) × (List (aI × Int)) × aI × (List Int) × (List Nat) × Nat × Nat × Value) => dS Q (dC Q (d_0_players.length : Int) d_0_Tree k8) t20_0_4 (d_0_players.length : Int) t20_0_4 d_0_Tree k s12.1 s12.2.1 s12.2.2.1 s12.2.2.2.1 s12.2.2.2.2.1) (fun _ h => h) (r10.2, d_0_4, lucky_0_4, r10.1, o14_0_4, bs5, ck6, b11, w7) h (bK [1, 0, 2, 4, 3] rfl rfl (aX rfl (aX rfl (aX rfl (bF ⟨rfl, rfl, rfl, rfl, rfl, trivial⟩))))) ?_
  rintro k17 ⟨isv_2_12, d_2_12, lucky_2_12, s_2_12, o14_2_12, bs13, ck14, b15, w16⟩ h
  simp only [dS] at h
  refine aK ?_
  refine aK ?_
  refine aH ?_
  refine tr1 rfl (aE (v := .d (.lit (.bool isv_2_12))) (aA rfl) rfl rfl) ?_
  refine aJ ?_
  refine bY rfl (fun c18 => ?_) (fun c18 => ?_)
  ·have h := eN c18 h
   refine bU ?_
   refine aK ?_
   refine cF ?_
   refine aK ?_
   refine aK ?_
   refine aH ?_
   refine tr1 rfl (aE (v := .d (.lit w16)) (aA rfl) rfl rfl) ?_
   refine tr1 rfl (aS (aA rfl) rfl lT) ?_
   refine tr1 rfl (aU (aA rfl) rfl (i := 3) rfl rfl aZ) ?_
   obtain ⟨r19, h20, h⟩ := dM h
   refine tr1 rfl (cZ (aA rfl) (.func _ _ Try.call88) rfl rfl (.cons (.d (mH 4 rfl (dV (f := aO) fun _ => rfl))) (.cons (.same _) .nil)) (qN _ _ h20) rfl) ?_
   refine aJ ?_
   refine bY rfl (fun c21 => ?_) (fun c21 => ?_)
   ·have h := eN c21 h
    refine aK ?_
    refine aH ?_
    refine tr1 rfl (aL (v := .d (.lit (.bool false))) (aA rfl) rfl rfl) ?_
    refine aJ ?_
    refine cR (bK [1, 0, 2, 3, 4] rfl rfl (le_refl _)) ?_
    exact bV ⟨rfl, _, [.box d_0_b d_0_o [.lit (.int .i64 d_0_Tree.Rounds), .sl 1 (d_0_Tree.Slots.map aO), .lit d_0_players_v, .lit (.map (some d_0_won_r))], .arr d_0_players_v 3 1 (d_2_12.map aO), .map lucky_1_r (lucky_2_12.map fun p : aI × Int => ((fun a : aI => Value.agg ((aP a).map bQ).toArray) p.1, (fun v : Int => AV.d (.lit (.int .i64 v))) p.2)) bs13 ck14], [.box b15 0 (aP s_2_12), .arr w16 3 1 (o14_2_12.map aO)], _, .one (.tmp 4 (v := .d (.lit (.bool false))) rfl), .refl _, .same _, (false, d_2_12, lucky_2_12), bs13, ck14, h, rfl, rfl⟩
   ·have h := eM c21 h
    refine bU ?_
    refine aK ?_
    refine dN mix 7 [0, 1, 5, 6, 7, 19, 20] [(45, .d (.lit d_0_players_v)), (46, .d (.lit (.int .i64 t20_0_4))), (48, .d (.lit (.int .i64 s_2_12.Player)))] ?_ ?_
    ·refine ⟨[(42, 0, .bp d_0_b d_0_o 0), (43, 1, .bp d_0_b d_0_o 0), (44, 2, .bp d_0_b d_0_o 2), (45, 3, .d (.lit d_0_players_v)), (46, 4, .d (.lit (.int .i64 t20_0_4))), (47, 5, .bp b15 0 3), (48, 6, .d (.lit (.int .i64 s_2_12.Player)))], ?_, ?_⟩
     · exact ⟨by kernel_rfl, by kernel_rfl, by kernel_rfl, by kernel_rfl, by kernel_rfl, [([], []), ([0], []), ([1], []), ([2], []), ([], []), ([], []), ([5], [])], by kernel_rfl, ⟨fun S hS => aB rfl (aR rfl (aE (v := .bp d_0_b d_0_o 0) (aA rfl) (aC hS rfl) rfl)),
      fun S hS => aB rfl (aR rfl (kP (aA rfl) (aC hS rfl))),
      fun S hS => aB rfl (aR rfl (aS (aA rfl) (aC hS rfl) lF)),
      fun S hS => aB rfl (aR rfl (aU (aA rfl) (aC hS rfl) (i := 1) rfl rfl cU)),
      fun S hS => aB rfl (aR rfl (aE (v := .d (.lit (.int .i64 t20_0_4))) (aA rfl) (aC hS rfl) rfl)),
      fun S hS => aB rfl (aR rfl (aS (aA rfl) (aC hS rfl) lT)),
      fun S hS => aB rfl (aR rfl (aU (aA rfl) (aC hS rfl) (i := 3) rfl rfl aZ)), trivial⟩⟩
     · exact cL (aX rfl (aX rfl (aX rfl (bF ⟨rfl, rfl, rfl, rfl, rfl, rfl, rfl, trivial⟩))))
    ·obtain ⟨x22, h23, h⟩ := dM h
     refine tr1 rfl (jH (m := 0) (aA rfl) rfl rfl rfl bP.of (bJ aO h23)) ?_
     refine tr1 rfl (aBq (l := 0) rfl rfl (sS aO h23) rfl rfl rfl Try.sizeOf3 rfl (aA rfl) (Nat.le_of_ble_eq_true rfl) (rows' := ((d_2_12.set t20_0_4.toNat s_2_12.Player)).map aO) (aLv _ _ _ _ rfl)) ?_
     refine aJ ?_
     refine aK ?_
     refine aH ?_
     refine tr1 rfl (aE (v := .d (.lit w16)) (aA rfl) rfl rfl) ?_
     refine tr1 rfl (aS (aA rfl) rfl lT) ?_
     refine tr1 rfl (aU (aA rfl) rfl (i := 3) rfl rfl aZ) ?_
     refine tr1 rfl (gM (aA rfl) bP rfl rfl (rows := ([s_2_12.Player]).map aO) rfl (dV (f := aO) fun _ => rfl) rfl (by decide)) ?_
     obtain ⟨x24, h25, h⟩ := dM h
     refine cE rfl (gC (i := 4) (aA rfl) bP rfl rfl rfl (fun _ => rfl) h25 rfl) ?_
     rintro _ ⟨v26, rfl⟩
     refine tr1 rfl (aL (v := .d (.lit v26)) (aA rfl) rfl rfl) ?_
     refine aJ ?_
     refine aH ?_
     refine tr1 rfl (aE (v := .d (.lit (.map (some lucky_1_r)))) (aA rfl) rfl rfl) ?_
     refine tr1 rfl (bW (aA rfl) rfl (i := 3) rfl kC (es := (aP s_2_12)) rfl rfl) ?_
     refine tr1 rfl (aKo (av := (fun v : Int => AV.d (.lit (.int .i64 v)))) (l := lucky_2_12) (a := s_2_12) (m := 2) aEd Try.underlying123 rfl rfl rfl rfl (kU (enc := aP) s_2_12 rfl)) ?_
     refine eY ?_
     refine aK ?_
     refine aK ?_
     refine aH ?_
     refine tr1 rfl (bW (aA rfl) rfl (i := 3) rfl kC (es := (aP s_2_12)) rfl rfl) ?_
     refine aJ ?_
     refine aH ?_
     refine cE rfl (eD (zs := [.lit (.int .i64 0), .lit (.int .i64 0), .lit (.int .i64 0), .lit (.int .i64 0), .lit (.int .i64 0)]) (aA rfl) Try.zeroValue32 rfl rfl) ?_
     rintro _ ⟨b27, rfl⟩
     refine tr1 rfl (cO (i := 5) rfl rfl rfl rfl rfl Try.sizeOf32 rfl (aA rfl) (Nat.le_of_ble_eq_true rfl) (ds' := (aP s_2_12)) rfl) ?_
     refine aJ ?_
     refine aH ?_
     refine tr1 rfl (aE (v := .bp d_0_b d_0_o 0) (aA rfl) rfl rfl) ?_
     refine tr1 rfl (aE (v := .d (.lit (.map (some lucky_1_r)))) (aA rfl) rfl rfl) ?_
     refine tr1 rfl (aE (v := .d (.lit (.int .i64 t20_0_4))) (aA rfl) rfl rfl) ?_
     refine lP (bK [1, 0, 2, 3, 4, 5] rfl rfl (le_refl _)) ?_
     refine cE rfl (tP (passed := [.box d_0_b d_0_o [.lit (.int .i64 d_0_Tree.Rounds), .sl 1 (d_0_Tree.Slots.map aO), .lit d_0_players_v, .lit (.map (some d_0_won_r))], .arr d_0_players_v 3 1 ((d_2_12.set t20_0_4.toNat s_2_12.Player).map aO), .map lucky_1_r ((mQ s_2_12 lucky_2_12).map fun p : aI × Int => ((fun a : aI => Value.agg ((aP a).map bQ).toArray) p.1, (fun v : Int => AV.d (.lit (.int .i64 v))) p.2)) (vB s_2_12 lucky_2_12 bs13) ck14]) (aA rfl) rfl (.func _ _ Try.call98) rfl rfl (rM d_0_Tree (d_2_12.set t20_0_4.toNat s_2_12.Player) (mQ s_2_12 lucky_2_12) t20_0_4 h)) ?_
     rintro _ ⟨_, _, ⟨r28, h, rfl, rfl⟩, rfl⟩
     refine tr1 rfl (aE (v := .tup [.agg (aP r28.1), .d (.lit (.bool r28.2))]) (aA rfl) rfl rfl) ?_
     refine tr1 rfl (bX (aA rfl) rfl rfl) ?_
     refine tr1 rfl (bX (aA rfl) rfl rfl) ?_
     refine tr1 rfl (cO (i := 5) rfl rfl rfl rfl rfl Try.sizeOf32 rfl (aA rfl) (Nat.le_of_ble_eq_true rfl) (ds' := (aP r28.1)) rfl) ?_
     refine tr1 rfl (aL (v := .d (.lit (.bool r28.2))) (aA rfl) rfl rfl) ?_
     refine aJ ?_
     exact ⟨(r28.2, (d_2_12.set t20_0_4.toNat s_2_12.Player), (mQ s_2_12 lucky_2_12), r28.1, x24, (vB s_2_12 lucky_2_12 bs13), ck14, b27, v26), h, bK [1, 0, 2, 5, 4] rfl rfl (aX rfl (aX rfl (aX rfl (bF ⟨rfl, rfl, rfl, rfl, rfl, trivial⟩))))⟩
  ·have h := eM c18 h
   refine dB ?_
   refine .inl ⟨rfl, ?_⟩
   simp only [kA] at h
   simp only [jZ] at h
   refine aH ?_
   refine tr1 rfl (bL (aA rfl) rfl rfl rfl) ?_
   refine tr1 rfl (aE (v := .d (.lit (.int .i64 ((w64 (t20_0_4 + 1)))))) (aA rfl) rfl rfl) ?_
   refine aJ ?_
   exact ⟨(w64 (t20_0_4 + 1), d_2_12, lucky_2_12, o14_2_12, bs13, ck14, w16), h, bK [0, 1, 2, 4] rfl rfl (aX rfl (aX rfl (bF ⟨rfl, rfl, rfl, trivial⟩)))⟩
 ·have h := eM c9 h
  refine dB ?_
  refine .inl ⟨rfl, ?_⟩
  simp only [jY] at h
  refine aK ?_
  refine aH ?_
  refine tr1 rfl (aE (v := .d (.lit (.map (some lucky_1_r)))) (aA rfl) rfl rfl) ?_
  refine tr1 rfl (aKq (m := 2) (aA rfl) Try.underlying123 rfl rfl) ?_
  refine tr1 rfl (bE (aA rfl) rfl rfl rfl) ?_
  refine tr1 rfl (aL (v := .d (.lit (.bool ((decide ((lucky_0_4.length : Int) = 0)))))) (aA rfl) rfl rfl) ?_
  refine aJ ?_
  refine cR (bK [1, 0, 2, 3] rfl rfl (le_refl _)) ?_
  exact bV ⟨rfl, _, [.box d_0_b d_0_o [.lit (.int .i64 d_0_Tree.Rounds), .sl 1 (d_0_Tree.Slots.map aO), .lit d_0_players_v, .lit (.map (some d_0_won_r))], .arr d_0_players_v 3 1 (d_0_4.map aO), .map lucky_1_r (lucky_0_4.map fun p : aI × Int => ((fun a : aI => Value.agg ((aP a).map bQ).toArray) p.1, (fun v : Int => AV.d (.lit (.int .i64 v))) p.2)) bs5 ck6], [.arr w7 3 1 (o14_0_4.map aO)], _, .one (.tmp 4 (v := .d (.lit (.bool ((decide ((lucky_0_4.length : Int) = 0)))))) rfl), .refl _, .same _, (decide ((lucky_0_4.length : Int) = 0), d_0_4, lucky_0_4), bs5, ck6, h, rfl, rfl⟩

theorem lR (round_0 : Int) (slot_1 : Int) {r : aF} (h : kN round_0 slot_1 = some r) : Fn Try.prog 45 [.d (.lit (.int .i64 round_0)), .d (.lit (.int .i64 slot_1))] (.agg (aN r)) := by
 unfold kN at h
 refine sW Try.func45 rfl (rs := [.cell 4 70]) Try.results45 Try.ntmps45 (Nat.le_of_ble_eq_true rfl) ?_
 refine aK ?_
 refine aH ?_
 refine cE rfl (eD (zs := [.lit (.int .i64 0), .lit (.int .i64 0)]) (aA rfl) Try.zeroValue70 rfl rfl) ?_
 rintro _ ⟨b1, rfl⟩
 refine aJ ?_
 refine aK ?_
 refine aH ?_
 refine tr1 rfl (aE (v := .d (.lit (.int .i64 round_0))) (aA rfl) rfl rfl) ?_
 refine tr1 rfl (aE (v := .d (.lit (.int .i64 slot_1))) (aA rfl) rfl rfl) ?_
 refine tr1 rfl (aE (v := .d (.lit (.int .i64 round_0))) (aA rfl) rfl rfl) ?_
 refine tr1 rfl (bL (aA rfl) rfl rfl rfl) ?_
 obtain ⟨u2, h3, h⟩ := bind_some h
 refine tr1 rfl (yY (aA rfl) rfl rfl (tJ h3)) ?_
 refine tr1 rfl (fN (aA rfl) vT (zs := [.lit (.int .i64 0), .lit (.int .i64 0)]) rfl rfl rfl rfl (es := [.lit (.int .i64 round_0), .lit (.int .i64 ((slot_1.fdiv (2 ^ (min (w64 (round_0 + 1)).toNat 64)))))]) rfl) ?_
 refine tr1 rfl (cO (i := 0) rfl rfl rfl rfl rfl Try.sizeOf70 rfl (aA rfl) (Nat.le_of_ble_eq_true rfl) (ds' := (aN (aF.mk round_0 (slot_1.fdiv (2 ^ (min (w64 (round_0 + 1)).toNat 64)))))) rfl) ?_
 refine aJ ?_
 have h := Option.some.inj h
 subst h
 exact bV ⟨rfl, _, [.box b1 0 (aN (aF.mk round_0 (slot_1.fdiv (2 ^ (min (w64 (round_0 + 1)).toNat 64)))))], .one (.cell 4 70 rfl (i := 0) rfl jI (es := (aN (aF.mk round_0 (slot_1.fdiv (2 ^ (min (w64 (round_0 + 1)).toNat 64)))))) rfl rfl), .refl _, .same _⟩

theorem rO (d_0_Tree : aT) (d_0_players : List Int) (d_0_won : List (aF × Int)) (slot_1 : Int) (round_2 : Int) {r : Bool × (List (aF × Int))} {d_0_b d_0_o : Nat} {d_0_players_v : Value} {d_0_won_r : Nat} {d_0_won_bs : List Nat} {d_0_won_ck : Nat} (h : jS d_0_Tree d_0_players d_0_won slot_1 round_2 = some r) : fE Try.prog 91 [.bp d_0_b d_0_o 0, .d (.lit (.int .i64 slot_1)), .d (.lit (.int .i64 round_2))] [.box d_0_b d_0_o [.lit (.int .i64 d_0_Tree.Rounds), .sl 1 (d_0_Tree.Slots.map aO), .lit d_0_players_v, .lit (.map (some d_0_won_r))], .arr d_0_players_v 3 1 (d_0_players.map aO), .map d_0_won_r (d_0_won.map fun p : aF × Int => ((fun a : aF => Value.agg ((aN a).map bQ).toArray) p.1, (fun v : Int => AV.d (.lit (.int .i64 v))) p.2)) d_0_won_bs d_0_won_ck] (fun r' o' => ∃ (bs2 : List Nat) (ck2 : Nat), r' = .d (.lit (.bool r.1)) ∧ o' = [.box d_0_b d_0_o [.lit (.int .i64 d_0_Tree.Rounds), .sl 1 (d_0_Tree.Slots.map aO), .lit d_0_players_v, .lit (.map (some d_0_won_r))], .arr d_0_players_v 3 1 (d_0_players.map aO), .map d_0_won_r (r.2.map fun p : aF × Int => ((fun a : aF => Value.agg ((aN a).map bQ).toArray) p.1, (fun v : Int => AV.d (.lit (.int .i64 v))) p.2)) bs2 ck2]) := by
 unfold jS at h
 refine gX Try.func91 rfl (rs := [.tmp 6]) Try.results91 Try.ntmps91 (Nat.le_of_ble_eq_true rfl) ?_
 refine aK ?_
 refine aH ?_
 refine tr1 rfl (aL (v := .d (.lit (.bool false))) (aA rfl) rfl rfl) ?_
 refine aJ ?_
 refine aK ?_
 refine aK ?_
 refine aH ?_
 refine tr1 rfl (aE (v := .d (.lit (.int .i64 round_2))) (aA rfl) rfl rfl) ?_
 refine tr1 rfl (bL (aA rfl) rfl rfl rfl) ?_
 refine tr1 rfl (aE (v := .d (.lit (.int .i64 0))) (aA rfl) rfl rfl) ?_
 refine aJ ?_
 refine cF ?_
 refine dJ [0, 1, 12] (fun (s1 : Int × (List (aF × Int)) × (List Nat) × Nat) => [(13, .d (.lit (.int .i64 s1.1)))]) (fun (s1 : Int × (List (aF × Int)) × (List Nat) × Nat) => [.arr d_0_players_v 3 1 (d_0_players.map aO), .map d_0_won_r (s1.2.1.map fun p : aF × Int => ((fun a : aF => Value.agg ((aN a).map bQ).toArray) p.1, (fun v : Int => AV.d (.lit (.int .i64 v))) p.2)) s1.2.2.1 s1.2.2.2, .box d_0_b d_0_o [.lit (.int .i64 d_0_Tree.Rounds), .sl 1 (d_0_Tree.Slots.map aO), .lit d_0_players_v, .lit (.map (some d_0_won_r))]]) (fun (k : Nat) (s1 : Int × (List (aF × Int)) × (List Nat) × Nat) => gI slot_1 (w64 (round_2 + 1)) d_0_players d_0_Tree k s1.1 s1.2.1) (fun _ => rfl) (0, d_0_won, d_0_won_bs, d_0_won_ck) h (bK [1, 2, 0] rfl rfl (aX rfl (bF ⟨rfl, rfl, rfl, trivial⟩))) ?_
 rintro k4 ⟨t13_0_1, d_0_1_2, bs2, ck3⟩ h
 simp only [gI] at h
 refine aK ?_
 refine aH ?_
 refine tr1 rfl (bE (aA rfl) rfl rfl rfl) ?_
 refine aJ ?_
 refine aK ?_
 refine bY rfl (fun c5 => ?_) (fun c5 => ?_)
 ·have h := bD c5 h
  refine bU ?_
  refine aK ?_
  refine cF ?_
  refine aK ?_
  refine aH ?_
  refine tr1 rfl (aE (v := .d (.lit (.int .i64 t13_0_1))) (aA rfl) rfl rfl) ?_
  refine tr1 rfl (aL (v := .d (.lit (.int .i64 t13_0_1))) (aA rfl) rfl rfl) ?_
  refine aJ ?_
  refine aK ?_
  refine aH ?_
  refine tr1 rfl (aE (v := .d (.lit (.int .i64 t13_0_1))) (aA rfl) rfl rfl) ?_
  refine tr1 rfl (aE (v := .d (.lit (.int .i64 slot_1))) (aA rfl) rfl rfl) ?_
  obtain ⟨r6, h7, h⟩ := bind_some h
  refine tr1 rfl (gN (aA rfl) (.func _ _ Try.call45) rfl rfl (lR _ _ h7)) ?_
  refine cE rfl (eD (zs := [.lit (.int .i64 0), .lit (.int .i64 0)]) (aA rfl) Try.zeroValue70 rfl rfl) ?_
  rintro _ ⟨b8, rfl⟩
  refine tr1 rfl (cO (i := 3) rfl rfl rfl rfl rfl Try.sizeOf70 rfl (aA rfl) (Nat.le_of_ble_eq_true rfl) (ds' := (aN r6)) rfl) ?_
  refine aJ ?_
  refine aK ?_
  refine aK ?_
  refine dN mix 10 [0, 1, 8, 12, 13] [(9, .d (.lit (.int .i64 ((cN r6 0 d_0_1_2))))), (27, .d (.lit (.bool ((cY r6 d_0_1_2)))))] ?_ ?_
  ·refine ⟨[(20, 0, .bp d_0_b d_0_o 0), (21, 1, .bp d_0_b d_0_o 0), (22, 2, .bp d_0_b d_0_o 3), (23, 3, .d (.lit (.map (some d_0_won_r)))), (24, 4, .agg (aN r6)), (25, 5, .tup [.d (.lit (.int .i64 ((cN r6 0 d_0_1_2)))), .d (.lit (.bool ((cY r6 d_0_1_2))))]), (19, 6, .tup [.d (.lit (.int .i64 ((cN r6 0 d_0_1_2)))), .d (.lit (.bool ((cY r6 d_0_1_2))))]), (26, 7, .d (.lit (.int .i64 ((cN r6 0 d_0_1_2))))), (27, 8, .d (.lit (.bool ((cY r6 d_0_1_2))))), (9, 9, .d (.lit (.int .i64 ((cN r6 0 d_0_1_2)))))], ?_, ?_⟩
   · exact ⟨by kernel_rfl, by kernel_rfl, by kernel_rfl, by kernel_rfl, by kernel_rfl, [([], []), ([0], []), ([1], []), ([2], []), ([], []), ([3, 4], []), ([5], []), ([6], []), ([6], []), ([7], [])], by kernel_rfl, ⟨fun S hS => aB rfl (aR rfl (aE (v := .bp d_0_b d_0_o 0) (aA rfl) (aC hS rfl) rfl)),
      fun S hS => aB rfl (aR rfl (kP (aA rfl) (aC hS rfl))),
      fun S hS => aB rfl (aR rfl (aS (aA rfl) (aC hS rfl) qG)),
      fun S hS => aB rfl (aR rfl (aU (aA rfl) (aC hS rfl) (i := 2) rfl rfl uB)),
      fun S hS => aB rfl (aR rfl (bW (aA rfl) (aC hS rfl) (i := 3) rfl jI (es := (aN r6)) rfl rfl)),
      fun S hS => aB rfl (aR rfl (aBp (av := (fun v : Int => AV.d (.lit (.int .i64 v)))) (l := d_0_1_2) (z := 0) (a := r6) (m := 1) (aA rfl) sP Try.underlying73 Try.zeroValue3 (fun _ _ => .d (.lit _ rfl)) (aC hS rfl) rfl rfl (aC hS rfl) (kU (enc := aN) r6 rfl))),
      fun S hS => aB rfl (aR rfl (aE (v := .tup [.d (.lit (.int .i64 ((cN r6 0 d_0_1_2)))), .d (.lit (.bool ((cY r6 d_0_1_2))))]) (aA rfl) (aC hS rfl) rfl)),
      fun S hS => aB rfl (aR rfl (bX (aA rfl) (aC hS rfl) rfl)),
      fun S hS => aB rfl (aR rfl (bX (aA rfl) (aC hS rfl) rfl)),
      fun S hS => aB rfl (aR rfl (aL (v := .d (.lit (.int .i64 ((cN r6 0 d_0_1_2))))) (aA rfl) (aC hS rfl) rfl)), trivial⟩⟩
   · exact cL (aX rfl (aX rfl (bF ⟨rfl, rfl, rfl, rfl, rfl, trivial⟩)))
  ·refine tr1 rfl (aL (v := .d (.lit (.bool ((cY r6 d_0_1_2))))) (aA rfl) rfl rfl) ?_
   refine aJ ?_
   refine aK ?_
   refine aH ?_
   refine tr1 rfl (aE (v := .d (.lit (.bool ((cY r6 d_0_1_2))))) (aA rfl) rfl rfl) ?_
   refine tr1 rfl (aE (v := .d (.lit (.bool ((cY r6 d_0_1_2))))) (aA rfl) rfl rfl) ?_
   obtain ⟨b9, h10, h⟩ := bind_some h
   refine cK 10 [0, 1, 8, 12, 13] 39 b9 ?_ ?_
   ·refine bM (cY r6 d_0_1_2) (fun c14 => ?_) (fun c14 => ?_)
    ·have h10 := bD c14 h10
     refine aQ rfl rfl (aA rfl) rfl c14 (aE (v := .d (.lit (.int .i64 ((cN r6 0 d_0_1_2))))) (aA rfl) rfl rfl) ?_
     refine aQ rfl rfl (aA rfl) rfl c14 (aE (v := .bp d_0_b d_0_o 0) (aA rfl) rfl rfl) ?_
     refine aQ rfl rfl (aA rfl) rfl c14 (kP (aA rfl) rfl) ?_
     refine aQ rfl rfl (aA rfl) rfl c14 (aS (aA rfl) rfl lF) ?_
     refine aQ rfl rfl (aA rfl) rfl c14 (aU (aA rfl) rfl (i := 2) rfl rfl cU) ?_
     refine aQ rfl rfl (aA rfl) rfl c14 (aE (v := .d (.lit (.int .i64 slot_1))) (aA rfl) rfl rfl) ?_
     obtain ⟨x15, h16, h10⟩ := bind_some h10
     refine aQ rfl rfl (aA rfl) rfl c14 (jH (m := 0) (aA rfl) rfl rfl rfl bP.of (bJ aO h16)) ?_
     refine aQ rfl rfl (aA rfl) rfl c14 (nG (aA rfl) rfl (m := 0) rfl (sS aO h16) rfl aZ) ?_
     refine aQ rfl rfl (aA rfl) rfl c14 (bE (aA rfl) rfl rfl rfl) ?_
     refine tr1 rfl (bO (v := .d (.lit (.bool ((!decide ((cN r6 0 d_0_1_2) = x15)))))) (aA rfl) rfl c14 rfl rfl) ?_
     have h10 := Option.some.inj h10
     subst h10
     refine aJ (bN rfl ⟨rfl, rfl, rfl, rfl, rfl, trivial⟩ rfl)
    ·have h10 := bB c14 h10
     refine aV rfl rfl (aA rfl) rfl (aA rfl) rfl c14 ?_
     refine aV rfl rfl (aA rfl) rfl (aA rfl) rfl c14 ?_
     refine aV rfl rfl (aA rfl) rfl (aA rfl) rfl c14 ?_
     refine aV rfl rfl (aA rfl) rfl (aA rfl) rfl c14 ?_
     refine aV rfl rfl (aA rfl) rfl (aA rfl) rfl c14 ?_
     refine aV rfl rfl (aA rfl) rfl (aA rfl) rfl c14 ?_
     refine aV rfl rfl (aA rfl) rfl (aA rfl) rfl c14 ?_
     refine aV rfl rfl (aA rfl) rfl (aA rfl) rfl c14 ?_
     refine aV rfl rfl (aA rfl) rfl (aA rfl) rfl c14 ?_
     refine tr1 rfl (bH (v := .d (.lit (.bool false))) (aA rfl) rfl c14 rfl rfl) ?_
     have h10 := Option.some.inj h10
     subst h10
     refine aJ (bN rfl ⟨rfl, rfl, rfl, rfl, rfl, trivial⟩ rfl)
   ·refine aJ ?_
    refine bY rfl (fun c11 => ?_) (fun c11 => ?_)
    ·have h := bD c11 h
     refine aK ?_
     refine aH ?_
     refine tr1 rfl (aL (v := .d (.lit (.bool false))) (aA rfl) rfl rfl) ?_
     refine aJ ?_
     have h := Option.some.inj h
     subst h
     refine cR (bK [2, 0, 1, 3] rfl rfl (le_refl _)) ?_
     exact bV ⟨rfl, _, [.box d_0_b d_0_o [.lit (.int .i64 d_0_Tree.Rounds), .sl 1 (d_0_Tree.Slots.map aO), .lit d_0_players_v, .lit (.map (some d_0_won_r))], .arr d_0_players_v 3 1 (d_0_players.map aO), .map d_0_won_r (d_0_1_2.map fun p : aF × Int => ((fun a : aF => Value.agg ((aN a).map bQ).toArray) p.1, (fun v : Int => AV.d (.lit (.int .i64 v))) p.2)) bs2 ck3], [.box b8 0 (aN r6)], _, .one (.tmp 6 (v := .d (.lit (.bool false))) rfl), .refl _, .same _, bs2, ck3, rfl, rfl⟩
    ·have h := bB c11 h
     refine bU ?_
     obtain ⟨x12, h13, h⟩ := bind_some h
     refine dN mix 12 [0, 1, 12, 13] [(43, .d (.lit (.map (some d_0_won_r)))), (44, .agg (aN r6)), (51, .d (.lit (.int .i64 x12)))] ?_ ?_
     ·refine ⟨[(40, 0, .bp d_0_b d_0_o 0), (41, 1, .bp d_0_b d_0_o 0), (42, 2, .bp d_0_b d_0_o 3), (43, 3, .d (.lit (.map (some d_0_won_r)))), (44, 4, .agg (aN r6)), (45, 5, .bp d_0_b d_0_o 0), (46, 6, .bp d_0_b d_0_o 0), (47, 7, .bp d_0_b d_0_o 2), (48, 8, .d (.lit d_0_players_v)), (49, 9, .d (.lit (.int .i64 slot_1))), (50, 10, .ep d_0_players_v 1 slot_1.toNat 0), (51, 11, .d (.lit (.int .i64 x12)))], ?_, ?_⟩
      · exact ⟨by kernel_rfl, by kernel_rfl, by kernel_rfl, by kernel_rfl, by kernel_rfl, [([], []), ([0], []), ([1], []), ([2], []), ([], []), ([], []), ([5], []), ([6], []), ([7], []), ([], []), ([8, 9], []), ([10], [])], by kernel_rfl, ⟨fun S hS => aB rfl (aR rfl (aE (v := .bp d_0_b d_0_o 0) (aA rfl) (aC hS rfl) rfl)),
      fun S hS => aB rfl (aR rfl (kP (aA rfl) (aC hS rfl))),
      fun S hS => aB rfl (aR rfl (aS (aA rfl) (aC hS rfl) qG)),
      fun S hS => aB rfl (aR rfl (aU (aA rfl) (aC hS rfl) (i := 2) rfl rfl uB)),
      fun S hS => aB rfl (aR rfl (bW (aA rfl) (aC hS rfl) (i := 3) rfl jI (es := (aN r6)) rfl rfl)),
      fun S hS => aB rfl (aR rfl (aE (v := .bp d_0_b d_0_o 0) (aA rfl) (aC hS rfl) rfl)),
      fun S hS => aB rfl (aR rfl (kP (aA rfl) (aC hS rfl))),
      fun S hS => aB rfl (aR rfl (aS (aA rfl) (aC hS rfl) lF)),
      fun S hS => aB rfl (aR rfl (aU (aA rfl) (aC hS rfl) (i := 2) rfl rfl cU)),
      fun S hS => aB rfl (aR rfl (aE (v := .d (.lit (.int .i64 slot_1))) (aA rfl) (aC hS rfl) rfl)),
      fun S hS => aB rfl (aR rfl (jH (m := 0) (aA rfl) (aC hS rfl) rfl (aC hS rfl) bP.of (bJ aO h13))),
      fun S hS => aB rfl (aR rfl (nG (aA rfl) (aC hS rfl) (m := 0) rfl (sS aO h13) rfl aZ)), trivial⟩⟩
      · exact cL (aX rfl (aX rfl (aX rfl (bF ⟨rfl, rfl, rfl, rfl, trivial⟩))))
     ·refine tr1 rfl (vE (av := (fun v : Int => AV.d (.lit (.int .i64 v)))) (l := d_0_1_2) (v := x12) (a := r6) (m := 1) sP Try.underlying73 rfl rfl rfl rfl (kU (enc := aN) r6 rfl) rfl rfl) ?_
      refine eY ?_
      refine aH ?_
      refine tr1 rfl (bL (aA rfl) rfl rfl rfl) ?_
      refine tr1 rfl (aE (v := .d (.lit (.int .i64 ((w64 (t13_0_1 + 1)))))) (aA rfl) rfl rfl) ?_
      refine aJ ?_
      exact ⟨(w64 (t13_0_1 + 1), (eZ r6 x12 d_0_1_2), (mbs r6 d_0_1_2 bs2 ck3), (mck r6 d_0_1_2 ck3)), h, bK [0, 1, 2] rfl rfl (aX rfl (bF ⟨rfl, rfl, rfl, trivial⟩))⟩
 ·have h := bB c5 h
  refine dB ?_
  refine .inl ⟨rfl, ?_⟩
  simp only [nL] at h
  refine aK ?_
  refine aH ?_
  refine tr1 rfl (aL (v := .d (.lit (.bool true))) (aA rfl) rfl rfl) ?_
  refine aJ ?_
  have h := Option.some.inj h
  subst h
  refine cR (bK [2, 0, 1] rfl rfl (le_refl _)) ?_
  exact bV ⟨rfl, _, [.box d_0_b d_0_o [.lit (.int .i64 d_0_Tree.Rounds), .sl 1 (d_0_Tree.Slots.map aO), .lit d_0_players_v, .lit (.map (some d_0_won_r))], .arr d_0_players_v 3 1 (d_0_players.map aO), .map d_0_won_r (d_0_1_2.map fun p : aF × Int => ((fun a : aF => Value.agg ((aN a).map bQ).toArray) p.1, (fun v : Int => AV.d (.lit (.int .i64 v))) p.2)) bs2 ck3], [], _, .one (.tmp 6 (v := .d (.lit (.bool true))) rfl), .refl _, .same _, bs2, ck3, rfl, rfl⟩

theorem aAs (t_0 : aT) (l_1 : List aI) {Q : ((Option bI) × Bool) → Prop} (h : nU t_0 l_1 Q) : fE Try.prog 71 [.agg (aY t_0), .d (.sl 5 (l_1.map aP))] [] (fun r' o' => ∃ (r : (Option bI) × Bool), Q r ∧ r' = .tup [cV bG r.1, .d (.lit (.bool r.2))] ∧ o' = []) := by
 unfold nU at h
 refine gX Try.func71 rfl (rs := [.tmp 4, .tmp 5]) Try.results71 Try.ntmps71 (Nat.le_of_ble_eq_true rfl) ?_
 refine aK ?_
 refine aH ?_
 refine cE rfl (gL (v := .agg (aY t_0)) (aA rfl) rfl rfl rfl) ?_
 rintro _ ⟨b1, rfl⟩
 refine tr1 rfl (aL (v := cV bG (none : Option bI)) (aA rfl) rfl rfl) ?_
 refine tr1 rfl (aL (v := .d (.lit (.bool false))) (aA rfl) rfl rfl) ?_
 refine aJ ?_
 refine aK ?_
 obtain ⟨r3, h4, h⟩ := dM h
 refine sU mix 5 [1] (fun X2 => [(19, .agg (aY t_0)), (22, .d (.lit (X2 3).v)), (23, .d (.lit (.map (some (X2 4).b))))]) (fun X2 => [.box b1 0 (aY t_0), .arr (X2 3).v 3 1 (r3.map aO), .map (X2 4).b (([] : List (aF × Int)).map fun p : aF × Int => ((fun a : aF => Value.agg ((aN a).map bQ).toArray) p.1, (fun v : Int => AV.d (.lit (.int .i64 v))) p.2)) ([]) 0]) ?_ ?_
 ·refine ⟨2, fun X2 => [(19, 0, .agg (aY t_0)), (20, 1, .bp b1 0 1), (21, 2, .d (.sl 1 (t_0.Slots.map aO))), (22, 3, .d (.lit (X2 3).v)), (23, 4, .d (.lit (.map (some (X2 4).b))))], fun X2 => [([], .box b1 0 (aY t_0)), ([(3, .arr (X2 3).v 3 1 (r3.map aO))], nob), ([(4, .map (X2 4).b (([] : List (aF × Int)).map fun p : aF × Int => ((fun a : aF => Value.agg ((aN a).map bQ).toArray) p.1, (fun v : Int => AV.d (.lit (.int .i64 v))) p.2)) ([]) 0)], nob)], ?_, ?_⟩
  · exact ⟨by kernel_rfl, by kernel_rfl, by kernel_rfl, fun _ => by kernel_rfl, fun _ => by kernel_rfl, fun _ => by kernel_rfl, fun _ => rfl, [([], []), ([], [3]), ([1], [3]), ([2], []), ([], [])], by kernel_rfl, ⟨fun X2 S hw hi hS => gD (X := X2) rfl (hw X2) rfl (aR rfl (bW (aA rfl) (aC hS rfl) (i := 0) (og hS rfl rfl) dX (es := (aY t_0)) rfl rfl)),
      fun X2 S hw hi hS => gD (X := X2) rfl (hw X2) rfl (aR rfl (aS (aA rfl) (aC hS rfl) dZ)),
      fun X2 S hw hi hS => gD (X := X2) rfl (hw X2) rfl (aR rfl (aU (aA rfl) (aC hS rfl) (i := 0) (og hS rfl rfl) rfl cU)),
      fun X2 S hw hi hS => aFb (X := X2) (p := 1) (v := fun x => .d (.lit x.v)) (mo := fun x => .arr x.v 3 1 (r3.map aO)) hS hi rfl rfl (fun _ => rfl) hw (fun _ => rfl) (fun _ => rfl) (fun _ => rfl) (fun _ => ⟨rfl, rfl, .inr rfl, ⟨rfl, rfl, .inr rfl, ⟨rfl, rfl, .inr rfl, ⟨rfl, rfl, .inl rfl, ⟨rfl, rfl, .inr rfl, trivial⟩⟩⟩⟩⟩) (fun _ => ⟨trivial, rfl, ⟨⟨rfl, .inl rfl, trivial⟩, rfl, ⟨⟨rfl, .inr rfl, trivial⟩, rfl, trivial⟩⟩⟩) (uU (aBo (aA rfl) (.func _ _ Try.call89) (ev2 (aC hS rfl) evn) rfl (rR _ h4)) (by rintro _ ⟨w, rfl⟩; exact ⟨⟨0, w⟩, bK [0, 3, 2] rfl rfl (le_refl _)⟩)),
      fun X2 S hw hi hS => aFb (X := X2) (p := 2) (v := fun x => .d (.lit (.map (some x.b)))) (mo := fun x => .map x.b (([] : List (aF × Int)).map fun p : aF × Int => ((fun a : aF => Value.agg ((aN a).map bQ).toArray) p.1, (fun v : Int => AV.d (.lit (.int .i64 v))) p.2)) ([]) 0) hS hi rfl rfl (fun _ => rfl) hw (fun _ => rfl) (fun _ => rfl) (fun _ => rfl) (fun _ => ⟨rfl, rfl, .inr rfl, ⟨rfl, rfl, .inr rfl, ⟨rfl, rfl, .inr rfl, ⟨rfl, rfl, .inr rfl, ⟨rfl, rfl, .inl rfl, trivial⟩⟩⟩⟩⟩) (fun _ => ⟨trivial, rfl, ⟨⟨rfl, .inr rfl, trivial⟩, rfl, ⟨⟨rfl, .inl rfl, trivial⟩, rfl, trivial⟩⟩⟩) (uU (uT (aA rfl)) (by rintro _ ⟨w, rfl⟩; exact ⟨⟨w, undef⟩, bK [0, 1, 3] rfl rfl (le_refl _)⟩)), trivial⟩⟩
  · exact fun X2 => cL (aX rfl (aX rfl (aX rfl (bF ⟨rfl, trivial⟩))))
 ·intro X2
  refine tr1 rfl (fN (aA rfl) aMt (zs := [.lit (.int .i64 0), .sl 1 ((([] : List Int)).map aO), .sl 1 ((([] : List Int)).map aO), .lit (.map none)]) rfl rfl rfl rfl (es := [.lit (.int .i64 t_0.Rounds), .sl 1 (t_0.Slots.map aO), .lit (X2 3).v, .lit (.map (some (X2 4).b))]) rfl) ?_
  refine cE rfl (gL (v := .agg [.lit (.int .i64 t_0.Rounds), .sl 1 (t_0.Slots.map aO), .lit (X2 3).v, .lit (.map (some (X2 4).b))]) (aA rfl) rfl rfl rfl) ?_
  rintro _ ⟨b5, rfl⟩
  refine tr1 rfl (aL (v := .bp b5 0 0) (aA rfl) rfl rfl) ?_
  refine aJ ?_
  refine aK ?_
  refine aH ?_
  refine cE rfl (uT (aA rfl)) ?_
  rintro _ ⟨r6, rfl⟩
  refine cE rfl (uT (aA rfl)) ?_
  rintro _ ⟨r7, rfl⟩
  refine tr1 rfl (aL (v := .d (.lit (.map (some r6)))) (aA rfl) rfl rfl) ?_
  refine tr1 rfl (aL (v := .d (.lit (.map (some r7)))) (aA rfl) rfl rfl) ?_
  refine aJ ?_
  refine aK ?_
  refine aK ?_
  refine aH ?_
  refine tr1 rfl (aE (v := .d (.sl 5 (l_1.map aP))) (aA rfl) rfl rfl) ?_
  refine tr1 rfl (dR (aA rfl) rfl fT.of) ?_
  refine tr1 rfl (aE (v := .d (.lit (.int .i64 0))) (aA rfl) rfl rfl) ?_
  refine aJ ?_
  refine cF ?_
  refine oZ [6, 7, 8, 28, 29] (fun (s8 : Int × (List (aI × Int)) × (List (aF × aI)) × (List Nat) × Nat × (List Nat) × Nat) => [(30, .d (.lit (.int .i64 s8.1)))]) (fun (s8 : Int × (List (aI × Int)) × (List (aF × aI)) × (List Nat) × Nat × (List Nat) × Nat) => [.arr (X2 3).v 3 1 (r3.map aO), .map (X2 4).b (([] : List (aF × Int)).map fun p : aF × Int => ((fun a : aF => Value.agg ((aN a).map bQ).toArray) p.1, (fun v : Int => AV.d (.lit (.int .i64 v))) p.2)) ([]) 0, .box b5 0 [.lit (.int .i64 t_0.Rounds), .sl 1 (t_0.Slots.map aO), .lit (X2 3).v, .lit (.map (some (X2 4).b))], .map r6 (s8.2.1.map fun p : aI × Int => ((fun a : aI => Value.agg ((aP a).map bQ).toArray) p.1, (fun v : Int => AV.d (.lit (.int .i64 v))) p.2)) s8.2.2.2.1 s8.2.2.2.2.1, .map r7 (s8.2.2.1.map fun p : aF × aI => ((fun a : aF => Value.agg ((aN a).map bQ).toArray) p.1, (fun v : aI => AV.agg (aP v)) p.2)) s8.2.2.2.2.2.1 s8.2.2.2.2.2.2]) (fun (k : Nat) (s8 : Int × (List (aI × Int)) × (List (aF × aI)) × (List Nat) × Nat × (List Nat) × Nat) => gF Q l_1 (l_1.length : Int) r3 ([] : List (aF × Int)) t_0 k s8.1 s8.2.1 s8.2.2.1) (fun _ h => h) (0, ([] : List (aI × Int)), ([] : List (aF × aI)), [], 0, [], 0) h (bK [1, 2, 3, 4, 5] rfl rfl (aX rfl (bF ⟨rfl, rfl, rfl, rfl, rfl, trivial⟩))) ?_
  rintro k13 ⟨t30_0_8, o26_0_8, o27_0_8, bs9, ck10, bs11, ck12⟩ h
  simp only [gF] at h
  refine aK ?_
  refine aH ?_
  refine tr1 rfl (bE (aA rfl) rfl rfl rfl) ?_
  refine aJ ?_
  refine aK ?_
  refine bY rfl (fun c14 => ?_) (fun c14 => ?_)
  ·have h := eN c14 h
   refine bU ?_
   refine aK ?_
   refine cF ?_
   refine aK ?_
   refine aH ?_
   obtain ⟨x15, h16, h⟩ := dM h
   refine tr1 rfl (bA (aA rfl) rfl rfl fT.of (bJ aP h16)) ?_
   refine tr1 rfl (jP (aA rfl) rfl kC (es := (aP x15)) rfl rfl) ?_
   refine cE rfl (eD (zs := [.lit (.int .i64 0), .lit (.int .i64 0), .lit (.int .i64 0), .lit (.int .i64 0), .lit (.int .i64 0)]) (aA rfl) Try.zeroValue32 rfl rfl) ?_
   rintro _ ⟨b17, rfl⟩
   refine tr1 rfl (cO (i := 5) rfl rfl rfl rfl rfl Try.sizeOf32 rfl (aA rfl) (Nat.le_of_ble_eq_true rfl) (ds' := (aP x15)) rfl) ?_
   refine aJ ?_
   refine aK ?_
   refine aK ?_
   refine aH ?_
   refine tr1 rfl (aS (aA rfl) rfl lS) ?_
   refine tr1 rfl (aU (aA rfl) rfl (i := 5) rfl rfl aZ) ?_
   refine tr1 rfl (bE (aA rfl) rfl rfl rfl) ?_
   refine aJ ?_
   refine bY rfl (fun c18 => ?_) (fun c18 => ?_)
   ·have h := eN c18 h
    refine aK ?_
    refine sU mix 6 [6, 7, 8, 28, 29, 30] (fun X19 => [(37, .d (.lit (.map (some r6)))), (40, .d (.lit (.int .i64 ((w64 ((cN x15 0 o26_0_8) + 1)))))), (42, .d (.lit (.int .i64 (nW x15 o26_0_8 bs9 ck10))))]) (fun X19 => [.arr (X2 3).v 3 1 (r3.map aO), .map (X2 4).b (([] : List (aF × Int)).map fun p : aF × Int => ((fun a : aF => Value.agg ((aN a).map bQ).toArray) p.1, (fun v : Int => AV.d (.lit (.int .i64 v))) p.2)) ([]) 0, .box b5 0 [.lit (.int .i64 t_0.Rounds), .sl 1 (t_0.Slots.map aO), .lit (X2 3).v, .lit (.map (some (X2 4).b))], .map r6 ((mR x15 0 o26_0_8).map fun p : aI × Int => ((fun a : aI => Value.agg ((aP a).map bQ).toArray) p.1, (fun v : Int => AV.d (.lit (.int .i64 v))) p.2)) (mbs x15 o26_0_8 bs9 ck10) (mck x15 o26_0_8 ck10), .map r7 (o27_0_8.map fun p : aF × aI => ((fun a : aF => Value.agg ((aN a).map bQ).toArray) p.1, (fun v : aI => AV.agg (aP v)) p.2)) bs11 ck12, .box b17 0 (aP x15)]) ?_ ?_
    ·refine ⟨0, fun X19 => [(37, 0, .d (.lit (.map (some r6)))), (38, 1, .agg (aP x15)), (39, 2, .d (.lit (.int .i64 ((cN x15 0 o26_0_8))))), (40, 3, .d (.lit (.int .i64 ((w64 ((cN x15 0 o26_0_8) + 1)))))), (41, 4, .tup [.d (.lit (.int .i64 ((cN x15 0 o26_0_8)))), .d (.lit (.int .i64 (nW x15 o26_0_8 bs9 ck10)))]), (42, 5, .d (.lit (.int .i64 (nW x15 o26_0_8 bs9 ck10))))], fun X19 => [([], .arr (X2 3).v 3 1 (r3.map aO)), ([], .map (X2 4).b (([] : List (aF × Int)).map fun p : aF × Int => ((fun a : aF => Value.agg ((aN a).map bQ).toArray) p.1, (fun v : Int => AV.d (.lit (.int .i64 v))) p.2)) ([]) 0), ([], .box b5 0 [.lit (.int .i64 t_0.Rounds), .sl 1 (t_0.Slots.map aO), .lit (X2 3).v, .lit (.map (some (X2 4).b))]), ([(4, .map r6 ((mR x15 0 o26_0_8).map fun p : aI × Int => ((fun a : aI => Value.agg ((aP a).map bQ).toArray) p.1, (fun v : Int => AV.d (.lit (.int .i64 v))) p.2)) (mbs x15 o26_0_8 bs9 ck10) (mck x15 o26_0_8 ck10))], .map r6 (o26_0_8.map fun p : aI × Int => ((fun a : aI => Value.agg ((aP a).map bQ).toArray) p.1, (fun v : Int => AV.d (.lit (.int .i64 v))) p.2)) bs9 ck10), ([], .map r7 (o27_0_8.map fun p : aF × aI => ((fun a : aF => Value.agg ((aN a).map bQ).toArray) p.1, (fun v : aI => AV.agg (aP v)) p.2)) bs11 ck12), ([], .box b17 0 (aP x15))], ?_, ?_⟩
     · exact ⟨by kernel_rfl, by kernel_rfl, by kernel_rfl, fun _ => by kernel_rfl, fun _ => by kernel_rfl, fun _ => by kernel_rfl, fun _ => rfl, [([], [4]), ([], [4]), ([0, 1], []), ([2], []), ([0, 1], []), ([4], [])], by kernel_rfl, ⟨fun X19 S hw hi hS => gD (X := X19) rfl (hw X19) rfl (aR rfl (aE (v := .d (.lit (.map (some r6)))) (aA rfl) (aC hS rfl) rfl)),
      fun X19 S hw hi hS => gD (X := X19) rfl (hw X19) rfl (aR rfl (bW (aA rfl) (aC hS rfl) (i := 5) (og hS rfl rfl) kC (es := (aP x15)) rfl rfl)),
      fun X19 S hw hi hS => gD (X := X19) rfl (hw X19) rfl (aR rfl (aJc (av := (fun v : Int => AV.d (.lit (.int .i64 v)))) (l := o26_0_8) (z := 0) (a := x15) (m := 3) (aA rfl) aEd Try.underlying123 Try.zeroValue3 (fun _ _ => .d (.lit _ rfl)) (aC hS rfl) (og2 rfl) rfl (aC hS rfl) (kU (enc := aP) x15 rfl))),
      fun X19 S hw hi hS => gD (X := X19) rfl (hw X19) rfl (aR rfl (bL (aA rfl) (aC hS rfl) rfl rfl)),
      fun X19 S hw hi hS => aMv (X := X19) (p := 3) hS rfl rfl rfl (hw X19) rfl rfl rfl (uU (aHo (av := (fun v : Int => AV.d (.lit (.int .i64 v)))) (l := o26_0_8) (z := 0) (a := x15) (m := 3) (aA rfl) aEd Try.underlying123 Try.zeroValue3 (fun _ _ => .d (.lit _ rfl)) (aC hS rfl) (og hS rfl rfl) rfl (aC hS rfl) (kU (enc := aP) x15 rfl)) (by rintro _ rfl; exact Ent.refl _)),
      fun X19 S hw hi hS => gD (X := X19) rfl (hw X19) rfl (aR rfl (bX (aA rfl) (aC hS rfl) rfl)), trivial⟩⟩
     · exact fun X19 => cL (aX rfl (aX rfl (aX rfl (bF ⟨rfl, rfl, rfl, rfl, rfl, rfl, trivial⟩))))
    ·intro X19
     refine tr1 rfl (aDd (kv := (fun a : aI => Value.agg ((aP a).map bQ).toArray)) (av := (fun v : Int => AV.d (.lit (.int .i64 v)))) (l := o26_0_8) (z := 0) (v := w64 ((cN x15 0 o26_0_8) + 1)) (a := x15) (m := 3) rfl rfl rfl rfl rfl) ?_
     refine aJ ?_
     refine dB ?_
     refine .inl ⟨rfl, ?_⟩
     refine aH ?_
     refine tr1 rfl (bL (aA rfl) rfl rfl rfl) ?_
     refine tr1 rfl (aE (v := .d (.lit (.int .i64 ((w64 (t30_0_8 + 1)))))) (aA rfl) rfl rfl) ?_
     refine aJ ?_
     exact ⟨(w64 (t30_0_8 + 1), (eZ x15 (w64 ((cN x15 0 o26_0_8) + 1)) o26_0_8), o27_0_8, (mbs x15 o26_0_8 bs9 ck10), (mck x15 o26_0_8 ck10), bs11, ck12), h, bK [0, 1, 2, 3, 4] rfl rfl (aX rfl (bF ⟨rfl, rfl, rfl, rfl, rfl, trivial⟩))⟩
   ·have h := eM c18 h
    refine bU ?_
    refine aK ?_
    refine aH ?_
    refine tr1 rfl (aS (aA rfl) rfl lE) ?_
    refine tr1 rfl (aU (aA rfl) rfl (i := 5) rfl rfl aZ) ?_
    refine tr1 rfl (aS (aA rfl) rfl iH) ?_
    refine tr1 rfl (aU (aA rfl) rfl (i := 5) rfl rfl aZ) ?_
    refine tr1 rfl (fN (aA rfl) vT (zs := [.lit (.int .i64 0), .lit (.int .i64 0)]) rfl rfl rfl rfl (es := [.lit (.int .i64 x15.Round), .lit (.int .i64 x15.Place)]) rfl) ?_
    refine cE rfl (eD (zs := [.lit (.int .i64 0), .lit (.int .i64 0)]) (aA rfl) Try.zeroValue70 rfl rfl) ?_
    rintro _ ⟨b20, rfl⟩
    refine tr1 rfl (cO (i := 6) rfl rfl rfl rfl rfl Try.sizeOf70 rfl (aA rfl) (Nat.le_of_ble_eq_true rfl) (ds' := (aN (aF.mk x15.Round x15.Place))) rfl) ?_
    refine aJ ?_
    refine aK ?_
    refine aK ?_
    refine aH ?_
    refine tr1 rfl (aE (v := .d (.lit (.map (some r7)))) (aA rfl) rfl rfl) ?_
    refine tr1 rfl (bW (aA rfl) rfl (i := 6) rfl jI (es := (aN (aF.mk x15.Round x15.Place))) rfl rfl) ?_
    refine tr1 rfl (aBp (av := (fun v : aI => AV.agg (aP v))) (l := o27_0_8) (z := (aI.mk 0 0 0 0 0)) (a := (aF.mk x15.Round x15.Place)) (m := 4) (aA rfl) sP Try.underlying124 Try.zeroValue32 (fun _ _ => .agg (yB rfl)) rfl rfl rfl rfl (kU (enc := aN) (aF.mk x15.Round x15.Place) rfl)) ?_
    refine tr1 rfl (aE (v := .tup [.agg (aP (cN (aF.mk x15.Round x15.Place) (aI.mk 0 0 0 0 0) o27_0_8)), .d (.lit (.bool ((cY (aF.mk x15.Round x15.Place) o27_0_8))))]) (aA rfl) rfl rfl) ?_
    refine tr1 rfl (bX (aA rfl) rfl rfl) ?_
    refine tr1 rfl (bX (aA rfl) rfl rfl) ?_
    refine cE rfl (eD (zs := [.lit (.int .i64 0), .lit (.int .i64 0), .lit (.int .i64 0), .lit (.int .i64 0), .lit (.int .i64 0)]) (aA rfl) Try.zeroValue32 rfl rfl) ?_
    rintro _ ⟨b21, rfl⟩
    refine tr1 rfl (cO (i := 7) rfl rfl rfl rfl rfl Try.sizeOf32 rfl (aA rfl) (Nat.le_of_ble_eq_true rfl) (ds' := (aP (cN (aF.mk x15.Round x15.Place) (aI.mk 0 0 0 0 0) o27_0_8))) rfl) ?_
    refine tr1 rfl (aL (v := .d (.lit (.bool ((cY (aF.mk x15.Round x15.Place) o27_0_8))))) (aA rfl) rfl rfl) ?_
    refine aJ ?_
    refine aK ?_
    refine aH ?_
    refine tr1 rfl (aE (v := .d (.lit (.bool ((cY (aF.mk x15.Round x15.Place) o27_0_8))))) (aA rfl) rfl rfl) ?_
    refine tr1 rfl (aE (v := .d (.lit (.bool ((cY (aF.mk x15.Round x15.Place) o27_0_8))))) (aA rfl) rfl rfl) ?_
    obtain ⟨b22, h23, h⟩ := dM h
    refine cK 4 [6, 7, 8, 10, 11, 28, 29, 30] 59 b22 ?_ ?_
    ·refine bM (cY (aF.mk x15.Round x15.Place) o27_0_8) (fun c25 => ?_) (fun c25 => ?_)
     ·have h23 := bD c25 h23
      refine aQ rfl rfl (aA rfl) rfl c25 (bW (aA rfl) rfl (i := 7) rfl kC (es := (aP (cN (aF.mk x15.Round x15.Place) (aI.mk 0 0 0 0 0) o27_0_8))) rfl rfl) ?_
      refine aQ rfl rfl (aA rfl) rfl c25 (bW (aA rfl) rfl (i := 5) rfl kC (es := (aP x15)) rfl rfl) ?_
      refine aQ rfl rfl (aA rfl) rfl c25 (aHp (a := (cN (aF.mk x15.Round x15.Place) (aI.mk 0 0 0 0 0) o27_0_8)) (b := x15) (aA rfl) rfl rfl rfl rfl Try.eqGuardType32 aDw) ?_
      refine tr1 rfl (bO (v := .d (.lit (.bool ((!decide ((cN (aF.mk x15.Round x15.Place) (aI.mk 0 0 0 0 0) o27_0_8) = x15)))))) (aA rfl) rfl c25 rfl rfl) ?_
      have h23 := Option.some.inj h23
      subst h23
      refine aJ (bN rfl ⟨rfl, rfl, rfl, rfl, rfl, rfl, rfl, rfl, trivial⟩ rfl)
     ·have h23 := bB c25 h23
      refine aV rfl rfl (aA rfl) rfl (aA rfl) rfl c25 ?_
      refine aV rfl rfl (aA rfl) rfl (aA rfl) rfl c25 ?_
      refine aV rfl rfl (aA rfl) rfl (aA rfl) rfl c25 ?_
      refine tr1 rfl (bH (v := .d (.lit (.bool false))) (aA rfl) rfl c25 rfl rfl) ?_
      have h23 := Option.some.inj h23
      subst h23
      refine aJ (bN rfl ⟨rfl, rfl, rfl, rfl, rfl, rfl, rfl, rfl, trivial⟩ rfl)
    ·refine aJ ?_
     refine bY rfl (fun c24 => ?_) (fun c24 => ?_)
     ·have h := eN c24 h
      refine aK ?_
      refine aH ?_
      refine tr1 rfl (aL (v := cV bG (none : Option bI)) (aA rfl) rfl rfl) ?_
      refine tr1 rfl (aL (v := .d (.lit (.bool false))) (aA rfl) rfl rfl) ?_
      refine aJ ?_
      exact bV ⟨rfl, _, [], [.arr (X2 3).v 3 1 (r3.map aO), .map (X2 4).b (([] : List (aF × Int)).map fun p : aF × Int => ((fun a : aF => Value.agg ((aN a).map bQ).toArray) p.1, (fun v : Int => AV.d (.lit (.int .i64 v))) p.2)) ([]) 0, .box b5 0 [.lit (.int .i64 t_0.Rounds), .sl 1 (t_0.Slots.map aO), .lit (X2 3).v, .lit (.map (some (X2 4).b))], .map r6 (o26_0_8.map fun p : aI × Int => ((fun a : aI => Value.agg ((aP a).map bQ).toArray) p.1, (fun v : Int => AV.d (.lit (.int .i64 v))) p.2)) bs9 ck10, .map r7 (o27_0_8.map fun p : aF × aI => ((fun a : aF => Value.agg ((aN a).map bQ).toArray) p.1, (fun v : aI => AV.agg (aP v)) p.2)) bs11 ck12, .box b17 0 (aP x15), .box b20 0 (aN (aF.mk x15.Round x15.Place)), .box b21 0 (aP (cN (aF.mk x15.Round x15.Place) (aI.mk 0 0 0 0 0) o27_0_8))], _, .two (.tmp 4 (v := cV bG (none : Option bI)) rfl) (.tmp 5 (v := .d (.lit (.bool false))) rfl), .refl _, .same _, ((none : Option bI), false), h, rfl, rfl⟩
     ·have h := eM c24 h
      refine bU ?_
      refine aH ?_
      refine tr1 rfl (aE (v := .d (.lit (.map (some r7)))) (aA rfl) rfl rfl) ?_
      refine tr1 rfl (bW (aA rfl) rfl (i := 6) rfl jI (es := (aN (aF.mk x15.Round x15.Place))) rfl rfl) ?_
      refine tr1 rfl (bW (aA rfl) rfl (i := 5) rfl kC (es := (aP x15)) rfl rfl) ?_
      refine tr1 rfl (vE (av := (fun v : aI => AV.agg (aP v))) (l := o27_0_8) (v := x15) (a := (aF.mk x15.Round x15.Place)) (m := 4) sP Try.underlying124 rfl rfl rfl rfl (kU (enc := aN) (aF.mk x15.Round x15.Place) rfl) rfl rfl) ?_
      refine eY ?_
      refine aH ?_
      refine tr1 rfl (bL (aA rfl) rfl rfl rfl) ?_
      refine tr1 rfl (aE (v := .d (.lit (.int .i64 ((w64 (t30_0_8 + 1)))))) (aA rfl) rfl rfl) ?_
      refine aJ ?_
      exact ⟨(w64 (t30_0_8 + 1), o26_0_8, (eZ (aF.mk x15.Round x15.Place) x15 o27_0_8), bs9, ck10, (mbs (aF.mk x15.Round x15.Place) o27_0_8 bs11 ck12), (mck (aF.mk x15.Round x15.Place) o27_0_8 ck12)), h, bK [0, 1, 2, 3, 4] rfl rfl (aX rfl (bF ⟨rfl, rfl, rfl, rfl, rfl, trivial⟩))⟩
  ·have h := eM c14 h
   refine dB ?_
   refine .inl ⟨rfl, ?_⟩
   simp only [nJ] at h
   refine aK ?_
   refine aK ?_
   refine aH ?_
   refine tr1 rfl (aE (v := .bp b5 0 0) (aA rfl) rfl rfl) ?_
   refine tr1 rfl (aE (v := .d (.lit (.map (some r6)))) (aA rfl) rfl rfl) ?_
   refine lP (bK [2, 0, 3, 1, 4] rfl rfl (le_refl _)) ?_
   refine cE rfl (tP (passed := [.box b5 0 [.lit (.int .i64 t_0.Rounds), .sl 1 (t_0.Slots.map aO), .lit (X2 3).v, .lit (.map (some (X2 4).b))], .arr (X2 3).v 3 1 (r3.map aO), .map r6 (o26_0_8.map fun p : aI × Int => ((fun a : aI => Value.agg ((aP a).map bQ).toArray) p.1, (fun v : Int => AV.d (.lit (.int .i64 v))) p.2)) bs9 ck10]) (aA rfl) rfl (.func _ _ Try.call90) rfl rfl (uX t_0 r3 o26_0_8 h)) ?_
   rintro _ ⟨_, _, ⟨r26, bs27, ck28, h, rfl, rfl⟩, rfl⟩
   refine tr1 rfl (fJ (aA rfl) rfl) ?_
   refine aJ ?_
   refine bY rfl (fun c29 => ?_) (fun c29 => ?_)
   ·have h := eN c29 h
    refine aK ?_
    refine aH ?_
    refine tr1 rfl (aL (v := cV bG (none : Option bI)) (aA rfl) rfl rfl) ?_
    refine tr1 rfl (aL (v := .d (.lit (.bool false))) (aA rfl) rfl rfl) ?_
    refine aJ ?_
    exact bV ⟨rfl, _, [], [.box b5 0 [.lit (.int .i64 t_0.Rounds), .sl 1 (t_0.Slots.map aO), .lit (X2 3).v, .lit (.map (some (X2 4).b))], .arr (X2 3).v 3 1 (r26.2.1.map aO), .map r6 (r26.2.2.map fun p : aI × Int => ((fun a : aI => Value.agg ((aP a).map bQ).toArray) p.1, (fun v : Int => AV.d (.lit (.int .i64 v))) p.2)) bs27 ck28, .map (X2 4).b (([] : List (aF × Int)).map fun p : aF × Int => ((fun a : aF => Value.agg ((aN a).map bQ).toArray) p.1, (fun v : Int => AV.d (.lit (.int .i64 v))) p.2)) ([]) 0, .map r7 (o27_0_8.map fun p : aF × aI => ((fun a : aF => Value.agg ((aN a).map bQ).toArray) p.1, (fun v : aI => AV.agg (aP v)) p.2)) bs11 ck12], _, .two (.tmp 4 (v := cV bG (none : Option bI)) rfl) (.tmp 5 (v := .d (.lit (.bool false))) rfl), .refl _, .same _, ((none : Option bI), false), h, rfl, rfl⟩
   ·have h := eM c29 h
    refine bU ?_
    refine aK ?_
    refine aK ?_
    refine aH ?_
    refine tr1 rfl (aE (v := .bp b5 0 0) (aA rfl) rfl rfl) ?_
    refine tr1 rfl (kP (aA rfl) rfl) ?_
    refine tr1 rfl (aS (aA rfl) rfl lF) ?_
    refine tr1 rfl (aU (aA rfl) rfl (i := 0) rfl rfl cU) ?_
    refine tr1 rfl (pG (m := 1) (aA rfl) rfl rfl bP.of) ?_
    refine tr1 rfl (aE (v := .d (.lit (.int .i64 0))) (aA rfl) rfl rfl) ?_
    refine aJ ?_
    refine cF ?_
    refine oZ [6, 8, 71, 72] (fun (s30 : Int × (List (aF × Int)) × (List Nat) × Nat) => [(73, .d (.lit (.int .i64 s30.1)))]) (fun (s30 : Int × (List (aF × Int)) × (List Nat) × Nat) => [.arr (X2 3).v 3 1 (r26.2.1.map aO), .map (X2 4).b (s30.2.1.map fun p : aF × Int => ((fun a : aF => Value.agg ((aN a).map bQ).toArray) p.1, (fun v : Int => AV.d (.lit (.int .i64 v))) p.2)) s30.2.2.1 s30.2.2.2, .box b5 0 [.lit (.int .i64 t_0.Rounds), .sl 1 (t_0.Slots.map aO), .lit (X2 3).v, .lit (.map (some (X2 4).b))], .map r7 (o27_0_8.map fun p : aF × aI => ((fun a : aF => Value.agg ((aN a).map bQ).toArray) p.1, (fun v : aI => AV.agg (aP v)) p.2)) bs11 ck12]) (fun (k : Nat) (s30 : Int × (List (aF × Int)) × (List Nat) × Nat) => gG Q (r26.2.1.length : Int) r26.2.1 t_0 o27_0_8 k s30.1 s30.2.1) (fun _ h => h) (0, ([] : List (aF × Int)), [], 0) h (bK [1, 3, 0, 4] rfl rfl (aX rfl (bF ⟨rfl, rfl, rfl, rfl, trivial⟩))) ?_
    rintro k33 ⟨t73_2_30, o23_2_30, bs31, ck32⟩ h
    simp only [gG] at h
    refine aK ?_
    refine aH ?_
    refine tr1 rfl (bE (aA rfl) rfl rfl rfl) ?_
    refine aJ ?_
    refine aK ?_
    refine bY rfl (fun c34 => ?_) (fun c34 => ?_)
    ·have h := eN c34 h
     refine bU ?_
     refine aK ?_
     refine cF ?_
     refine aK ?_
     refine aH ?_
     refine tr1 rfl (aE (v := .d (.lit (.int .i64 t73_2_30))) (aA rfl) rfl rfl) ?_
     obtain ⟨x35, h36, h⟩ := dM h
     refine tr1 rfl (jH (m := 0) (aA rfl) rfl rfl rfl bP.of (bJ aO h36)) ?_
     refine tr1 rfl (nG (aA rfl) rfl (m := 0) rfl (sS aO h36) rfl aZ) ?_
     refine tr1 rfl (aL (v := .d (.lit (.int .i64 t73_2_30))) (aA rfl) rfl rfl) ?_
     refine tr1 rfl (aL (v := .d (.lit (.int .i64 x35))) (aA rfl) rfl rfl) ?_
     refine aJ ?_
     refine aK ?_
     refine aH ?_
     refine tr1 rfl (aE (v := .d (.lit (.int .i64 x35))) (aA rfl) rfl rfl) ?_
     refine tr1 rfl (bE (aA rfl) rfl rfl rfl) ?_
     refine aJ ?_
     refine bY rfl (fun c37 => ?_) (fun c37 => ?_)
     ·have h := eN c37 h
      refine aH ?_
      refine tr1 rfl (aE (v := .bp b5 0 0) (aA rfl) rfl rfl) ?_
      refine tr1 rfl (aE (v := .d (.lit (.int .i64 t73_2_30))) (aA rfl) rfl rfl) ?_
      refine tr1 rfl (aIz (aA rfl) rfl rfl (.inr (.inr ⟨rfl, rfl⟩))) ?_
      obtain ⟨r38, h39, h⟩ := dM h
      refine lP (bK [2, 0, 1, 3] rfl rfl (le_refl _)) ?_
      refine cE rfl (tP (passed := [.box b5 0 [.lit (.int .i64 t_0.Rounds), .sl 1 (t_0.Slots.map aO), .lit (X2 3).v, .lit (.map (some (X2 4).b))], .arr (X2 3).v 3 1 (r26.2.1.map aO), .map (X2 4).b (o23_2_30.map fun p : aF × Int => ((fun a : aF => Value.agg ((aN a).map bQ).toArray) p.1, (fun v : Int => AV.d (.lit (.int .i64 v))) p.2)) bs31 ck32]) (aA rfl) rfl (.func _ _ Try.call91) rfl rfl (rO t_0 r26.2.1 o23_2_30 (aDl t73_2_30 1) 0 h39)) ?_
      rintro _ ⟨_, _, ⟨bs40, ck41, rfl, rfl⟩, rfl⟩
      refine eY ?_
      refine aH ?_
      refine tr1 rfl (bL (aA rfl) rfl rfl rfl) ?_
      refine tr1 rfl (aE (v := .d (.lit (.int .i64 ((w64 (t73_2_30 + 1)))))) (aA rfl) rfl rfl) ?_
      refine aJ ?_
      exact ⟨(w64 (t73_2_30 + 1), r38.2, bs40, ck41), h, bK [1, 2, 0, 3] rfl rfl (aX rfl (bF ⟨rfl, rfl, rfl, rfl, trivial⟩))⟩
     ·have h := eM c37 h
      refine eH ?_
      refine aH ?_
      refine tr1 rfl (bL (aA rfl) rfl rfl rfl) ?_
      refine tr1 rfl (aE (v := .d (.lit (.int .i64 ((w64 (t73_2_30 + 1)))))) (aA rfl) rfl rfl) ?_
      refine aJ ?_
      exact ⟨(w64 (t73_2_30 + 1), o23_2_30, bs31, ck32), h, bK [0, 1, 2, 3] rfl rfl (aX rfl (bF ⟨rfl, rfl, rfl, rfl, trivial⟩))⟩
    ·have h := eM c34 h
     refine dB ?_
     refine .inl ⟨rfl, ?_⟩
     simp only [nK] at h
     refine aK ?_
     refine aK ?_
     refine aH ?_
     refine tr1 rfl (aE (v := .d (.lit (.map (some r7)))) (aA rfl) rfl rfl) ?_
     refine cE rfl (aGi (m := 3) (aA rfl) Try.underlying124 rfl rfl) ?_
     rintro _ ⟨q42, h44, rfl⟩
     have h := yF h h44
     refine aJ ?_
     refine cF ?_
     refine oZ [6, 86] (fun (s45 : (List (aF × Int)) × (List Nat) × Nat × (List Nat)) => []) (fun (s45 : (List (aF × Int)) × (List Nat) × Nat × (List Nat)) => [.arr (X2 3).v 3 1 (r26.2.1.map aO), .map (X2 4).b (s45.1.map fun p : aF × Int => ((fun a : aF => Value.agg ((aN a).map bQ).toArray) p.1, (fun v : Int => AV.d (.lit (.int .i64 v))) p.2)) s45.2.1 s45.2.2.1, .box b5 0 [.lit (.int .i64 t_0.Rounds), .sl 1 (t_0.Slots.map aO), .lit (X2 3).v, .lit (.map (some (X2 4).b))], .map r7 (o27_0_8.map fun p : aF × aI => ((fun a : aF => Value.agg ((aN a).map bQ).toArray) p.1, (fun v : aI => AV.agg (aP v)) p.2)) bs11 ck12, .iter q42 r7 ck12 s45.2.2.2 ck12]) (fun (k : Nat) (s45 : (List (aF × Int)) × (List Nat) × Nat × (List Nat)) => iR Q r26.2.1 t_0 o27_0_8 k s45.1 (lB o27_0_8 bs11 s45.2.2.2)) (fun _ h => h) (o23_2_30, bs31, ck32, []) h (bK [0, 1, 2, 3, 4] rfl rfl (bF ⟨rfl, rfl, trivial⟩)) ?_
     rintro k49 ⟨o23_4_45, bs46, ck47, seen48⟩ h
     simp only [iR] at h
     refine aK ?_
     refine aH ?_
     refine cE rfl (aJd (kv := (fun a : aF => Value.agg ((aN a).map bQ).toArray)) (av := (fun v : aI => AV.agg (aP v))) (l := o27_0_8) (mi := 4) (mm := 3) (aA rfl) rfl rfl rfl) ?_
     rintro _ (⟨h54, rfl⟩ | ⟨j51, b52, p50, h53, rfl⟩)
     ·have h := h.1 h54
      refine tr1 rfl (bX (aA rfl) rfl rfl) ?_
      refine aJ ?_
      refine aK ?_
      refine bY rfl (fun c55 => ?_) (fun c55 => ?_)
      ·exact absurd c55 (by decide)
      ·refine dB ?_
       refine .inl ⟨rfl, ?_⟩
       simp only [pZ] at h
       refine aK ?_
       refine aH ?_
       refine tr1 rfl (aE (v := .bp b5 0 0) (aA rfl) rfl rfl) ?_
       refine tr1 rfl (aL (v := .bp b5 0 0) (aA rfl) rfl rfl) ?_
       refine tr1 rfl (aL (v := .d (.lit (.bool true))) (aA rfl) rfl rfl) ?_
       refine aJ ?_
       exact bV ⟨rfl, _, [], [.arr (X2 3).v 3 1 (r26.2.1.map aO), .map (X2 4).b (o23_4_45.map fun p : aF × Int => ((fun a : aF => Value.agg ((aN a).map bQ).toArray) p.1, (fun v : Int => AV.d (.lit (.int .i64 v))) p.2)) bs46 ck47, .box b5 0 [.lit (.int .i64 t_0.Rounds), .sl 1 (t_0.Slots.map aO), .lit (X2 3).v, .lit (.map (some (X2 4).b))], .map r7 (o27_0_8.map fun p : aF × aI => ((fun a : aF => Value.agg ((aN a).map bQ).toArray) p.1, (fun v : aI => AV.agg (aP v)) p.2)) bs11 ck12, .iter q42 r7 ck12 seen48 ck12], _, .two (.tmp 4 (v := .bp b5 0 0) rfl) (.tmp 5 (v := .d (.lit (.bool true))) rfl), .refl _, tR (.cons ((aLa 2 rfl rfl (dvc (.same _) (dvc (.same _) (dvc (mH 0 rfl (dV (f := aO) fun _ => rfl)) (dvc (aMy (kv := (fun a : aF => Value.agg ((aN a).map bQ).toArray)) (av := (fun v : Int => AV.d (.lit (.int .i64 v)))) (l := o23_4_45) (enc := aO) (agg := false) 1 rfl (fun _ _ => rfl) (fun _ => rfl)) dvn)))))) (.cons (.same _) .nil)), ((some (bI.mk t_0 r26.2.1 o23_4_45)), true), h, rfl, rfl⟩
     ·have h := zL h h53
      refine tr1 rfl (bX (aA rfl) rfl rfl) ?_
      refine aJ ?_
      refine aK ?_
      refine bY rfl (fun c72 => ?_) (fun c72 => ?_)
      ·refine bU ?_
       refine cF ?_
       refine aK ?_
       refine aH ?_
       refine tr1 rfl (aGh (kv := (fun a : aF => Value.agg ((aN a).map bQ).toArray)) (av := (fun v : aI => AV.agg (aP v))) (l := o27_0_8) (mi := 4) (mm := 3) (ka := .agg (aN p50.1)) (aA rfl) rfl rfl rfl h53 (fun _ _ => .agg (yB rfl))) ?_
       refine tr1 rfl (bX (aA rfl) rfl rfl) ?_
       refine tr1 rfl (bX (aA rfl) rfl rfl) ?_
       refine cE rfl (eD (zs := [.lit (.int .i64 0), .lit (.int .i64 0)]) (aA rfl) Try.zeroValue70 rfl rfl) ?_
       rintro _ ⟨b56, rfl⟩
       refine cE rfl (eD (zs := [.lit (.int .i64 0), .lit (.int .i64 0), .lit (.int .i64 0), .lit (.int .i64 0), .lit (.int .i64 0)]) (aA rfl) Try.zeroValue32 rfl rfl) ?_
       rintro _ ⟨b57, rfl⟩
       refine tr1 rfl (cO (i := 5) rfl rfl rfl rfl rfl Try.sizeOf70 rfl (aA rfl) (Nat.le_of_ble_eq_true rfl) (ds' := (aN p50.1)) rfl) ?_
       refine tr1 rfl (cO (i := 6) rfl rfl rfl rfl rfl Try.sizeOf32 rfl (aA rfl) (Nat.le_of_ble_eq_true rfl) (ds' := (aP p50.2)) rfl) ?_
       refine aJ ?_
       refine aK ?_
       refine dN mix 6 [6, 16, 86] [(95, .d (.lit (X2 3).v)), (97, .d (.lit (.int .i64 p50.2.Player)))] ?_ ?_
       ·refine ⟨[(92, 0, .bp b5 0 0), (93, 1, .bp b5 0 0), (94, 2, .bp b5 0 2), (95, 3, .d (.lit (X2 3).v)), (96, 4, .bp b57 0 3), (97, 5, .d (.lit (.int .i64 p50.2.Player)))], ?_, ?_⟩
        · exact ⟨by kernel_rfl, by kernel_rfl, by kernel_rfl, by kernel_rfl, by kernel_rfl, [([], []), ([0], []), ([1], []), ([2], []), ([], []), ([4], [])], by kernel_rfl, ⟨fun S hS => aB rfl (aR rfl (aE (v := .bp b5 0 0) (aA rfl) (aC hS rfl) rfl)),
      fun S hS => aB rfl (aR rfl (kP (aA rfl) (aC hS rfl))),
      fun S hS => aB rfl (aR rfl (aS (aA rfl) (aC hS rfl) lF)),
      fun S hS => aB rfl (aR rfl (aU (aA rfl) (aC hS rfl) (i := 2) rfl rfl cU)),
      fun S hS => aB rfl (aR rfl (aS (aA rfl) (aC hS rfl) lT)),
      fun S hS => aB rfl (aR rfl (aU (aA rfl) (aC hS rfl) (i := 6) rfl rfl aZ)), trivial⟩⟩
        · exact cL (aX rfl (aX rfl (bF ⟨rfl, rfl, rfl, trivial⟩)))
       ·obtain ⟨r58, h59, h⟩ := dM h
        refine tr1 rfl (cZ (aA rfl) (.func _ _ Try.call73) rfl rfl (.cons (.d (mH 0 rfl (dV (f := aO) fun _ => rfl))) (.cons (.same _) .nil)) (oY _ _ h59) rfl) ?_
        refine tr1 rfl (aL (v := .d (.lit (.int .i64 r58))) (aA rfl) rfl rfl) ?_
        refine aJ ?_
        refine aK ?_
        obtain ⟨b60, h61, h⟩ := dM h
        refine bM (b60) (fun c65 => ?_) (fun c65 => ?_)
        ·have h := eN c65 h
         refine dN mix 15 [6, 86] [(109, .d (.lit (.bool b60)))] ?_ ?_
         ·refine bM (decide (r58 < 0)) (fun c62 => ?_) (fun c62 => ?_)
          ·have h61 := bD c62 h61
           have h61 := Option.some.inj h61
           subst h61
           refine ⟨[(99, 0, .d (.lit (.int .i64 r58))), (100, 1, .d (.lit (.bool ((decide (r58 < 0)))))), (101, 2, .d (.lit (.bool ((decide (r58 < 0)))))), (102, 3, .tup []), (103, 4, .tup []), (104, 5, .tup []), (105, 6, .tup []), (106, 7, .tup []), (107, 8, .tup []), (108, 9, .d (.lit (.bool true))), (109, 10, .d (.lit (.bool (true)))), (110, 11, .tup []), (111, 12, .tup []), (112, 13, .tup []), (113, 14, .tup [])], ?_, ?_⟩
           · exact ⟨by kernel_rfl, by kernel_rfl, by kernel_rfl, by kernel_rfl, by kernel_rfl, [([], []), ([0], []), ([1], []), ([2], []), ([2, 3], []), ([2], []), ([2, 4, 5], []), ([2], []), ([2, 6, 7], []), ([2, 8], []), ([9], []), ([10], []), ([10], []), ([10], []), ([10, 13], [])], by kernel_rfl, ⟨fun S hS => aB rfl (aR rfl (aE (v := .d (.lit (.int .i64 r58))) (aA rfl) (aC hS rfl) rfl)),
      fun S hS => aB rfl (aR rfl (bE (aA rfl) (aC hS rfl) rfl rfl)),
      fun S hS => aB rfl (aR rfl (aE (v := .d (.lit (.bool ((decide (r58 < 0)))))) (aA rfl) (aC hS rfl) rfl)),
      fun S hS => aB rfl (aM rfl rfl (aA rfl) rfl (aA rfl) (aD hS rfl) c62),
      fun S hS => aB rfl (aM rfl rfl (aA rfl) rfl (aA rfl) (aD hS rfl) c62),
      fun S hS => aB rfl (aM rfl rfl (aA rfl) rfl (aA rfl) (aD hS rfl) c62),
      fun S hS => aB rfl (aM rfl rfl (aA rfl) rfl (aA rfl) (aD hS rfl) c62),
      fun S hS => aB rfl (aM rfl rfl (aA rfl) rfl (aA rfl) (aD hS rfl) c62),
      fun S hS => aB rfl (aM rfl rfl (aA rfl) rfl (aA rfl) (aD hS rfl) c62),
      fun S hS => aB rfl (aR rfl (bO (v := .d (.lit (.bool true))) (aA rfl) (aC hS rfl) c62 rfl rfl)),
      fun S hS => aB rfl (aR rfl (aE (v := .d (.lit (.bool (true)))) (aA rfl) (aC hS rfl) rfl)),
      fun S hS => aB rfl (aM rfl rfl (aA rfl) rfl (aA rfl) (aD hS rfl) c65),
      fun S hS => aB rfl (aM rfl rfl (aA rfl) rfl (aA rfl) (aD hS rfl) c65),
      fun S hS => aB rfl (aM rfl rfl (aA rfl) rfl (aA rfl) (aD hS rfl) c65),
      fun S hS => aB rfl (aM rfl rfl (aA rfl) rfl (aA rfl) (aD hS rfl) c65), trivial⟩⟩
           · exact cL (aX rfl (bF ⟨rfl, rfl, trivial⟩))
          ·have h61 := bB c62 h61
           obtain ⟨r63, h64, h61⟩ := bind_some h61
           have h61 := Option.some.inj h61
           subst h61
           refine ⟨[(99, 0, .d (.lit (.int .i64 r58))), (100, 1, .d (.lit (.bool ((decide (r58 < 0)))))), (101, 2, .d (.lit (.bool ((decide (r58 < 0)))))), (102, 3, .bp b56 0 0), (103, 4, .d (.lit (.int .i64 p50.1.round))), (104, 5, .d (.lit (.int .i64 r58))), (105, 6, .agg (aN r63)), (106, 7, .agg (aN p50.1)), (107, 8, .d (.lit (.bool ((!decide (r63 = p50.1)))))), (108, 9, .d (.lit (.bool ((!decide (r63 = p50.1)))))), (109, 10, .d (.lit (.bool (!decide (r63 = p50.1))))), (110, 11, .tup []), (111, 12, .tup []), (112, 13, .tup []), (113, 14, .tup [])], ?_, ?_⟩
           · exact ⟨by kernel_rfl, by kernel_rfl, by kernel_rfl, by kernel_rfl, by kernel_rfl, [([], []), ([0], []), ([1], []), ([2], []), ([2, 3], []), ([2], []), ([2, 4, 5], []), ([2], []), ([2, 6, 7], []), ([2, 8], []), ([9], []), ([10], []), ([10], []), ([10], []), ([10, 13], [])], by kernel_rfl, ⟨fun S hS => aB rfl (aR rfl (aE (v := .d (.lit (.int .i64 r58))) (aA rfl) (aC hS rfl) rfl)),
      fun S hS => aB rfl (aR rfl (bE (aA rfl) (aC hS rfl) rfl rfl)),
      fun S hS => aB rfl (aR rfl (aE (v := .d (.lit (.bool ((decide (r58 < 0)))))) (aA rfl) (aC hS rfl) rfl)),
      fun S hS => aB rfl (aG rfl rfl (aA rfl) (aD hS rfl) c62 (aS (aA rfl) (aC hS rfl) nS)),
      fun S hS => aB rfl (aG rfl rfl (aA rfl) (aD hS rfl) c62 (aU (aA rfl) (aC hS rfl) (i := 5) rfl rfl aZ)),
      fun S hS => aB rfl (aG rfl rfl (aA rfl) (aD hS rfl) c62 (aE (v := .d (.lit (.int .i64 r58))) (aA rfl) (aC hS rfl) rfl)),
      fun S hS => aB rfl (aG rfl rfl (aA rfl) (aD hS rfl) c62 (gN (aA rfl) (.func _ _ Try.call45) (ev2 (aC hS rfl) (ev2 (aC hS rfl) evn)) rfl (lR _ _ h64))),
      fun S hS => aB rfl (aG rfl rfl (aA rfl) (aD hS rfl) c62 (bW (aA rfl) (aC hS rfl) (i := 5) rfl jI (es := (aN p50.1)) rfl rfl)),
      fun S hS => aB rfl (aG rfl rfl (aA rfl) (aD hS rfl) c62 (aHp (a := r63) (b := p50.1) (aA rfl) (aC hS rfl) (aC hS rfl) rfl rfl Try.eqGuardType70 xT)),
      fun S hS => aB rfl (aR rfl (bH (v := .d (.lit (.bool ((!decide (r63 = p50.1)))))) (aA rfl) (aC hS rfl) c62 (aC hS rfl) rfl)),
      fun S hS => aB rfl (aR rfl (aE (v := .d (.lit (.bool (!decide (r63 = p50.1))))) (aA rfl) (aC hS rfl) rfl)),
      fun S hS => aB rfl (aM rfl rfl (aA rfl) rfl (aA rfl) (aD hS rfl) c65),
      fun S hS => aB rfl (aM rfl rfl (aA rfl) rfl (aA rfl) (aD hS rfl) c65),
      fun S hS => aB rfl (aM rfl rfl (aA rfl) rfl (aA rfl) (aD hS rfl) c65),
      fun S hS => aB rfl (aM rfl rfl (aA rfl) rfl (aA rfl) (aD hS rfl) c65), trivial⟩⟩
           · exact cL (aX rfl (bF ⟨rfl, rfl, trivial⟩))
         ·refine aV rfl rfl (aA rfl) rfl (aA rfl) rfl c65 ?_
          refine aV rfl rfl (aA rfl) rfl (aA rfl) rfl c65 ?_
          refine tr1 rfl (bO (v := .d (.lit (.bool true))) (aA rfl) rfl c65 rfl rfl) ?_
          refine aJ ?_
          refine bY rfl (fun c71 => ?_) (fun c71 => ?_)
          ·refine aK ?_
           refine aH ?_
           refine tr1 rfl (aL (v := cV bG (none : Option bI)) (aA rfl) rfl rfl) ?_
           refine tr1 rfl (aL (v := .d (.lit (.bool false))) (aA rfl) rfl rfl) ?_
           refine aJ ?_
           exact bV ⟨rfl, _, [], [.arr (X2 3).v 3 1 (r26.2.1.map aO), .map (X2 4).b (o23_4_45.map fun p : aF × Int => ((fun a : aF => Value.agg ((aN a).map bQ).toArray) p.1, (fun v : Int => AV.d (.lit (.int .i64 v))) p.2)) bs46 ck47, .box b5 0 [.lit (.int .i64 t_0.Rounds), .sl 1 (t_0.Slots.map aO), .lit (X2 3).v, .lit (.map (some (X2 4).b))], .map r7 (o27_0_8.map fun p : aF × aI => ((fun a : aF => Value.agg ((aN a).map bQ).toArray) p.1, (fun v : aI => AV.agg (aP v)) p.2)) bs11 ck12, .iter q42 r7 ck12 (seen48 ++ [b52]) ck12, .box b56 0 (aN p50.1), .box b57 0 (aP p50.2)], _, .two (.tmp 4 (v := cV bG (none : Option bI)) rfl) (.tmp 5 (v := .d (.lit (.bool false))) rfl), .refl _, .same _, ((none : Option bI), false), h, rfl, rfl⟩
          ·exact absurd c71 (by decide)
        ·have h := eM c65 h
         refine dN mix 15 [6, 86] [(109, .d (.lit (.bool b60))), (110, .bp b5 0 0), (111, .d (.lit (.int .i64 r58))), (112, .bp b56 0 0), (113, .d (.lit (.int .i64 p50.1.round)))] ?_ ?_
         ·refine bM (decide (r58 < 0)) (fun c62 => ?_) (fun c62 => ?_)
          ·have h61 := bD c62 h61
           have h61 := Option.some.inj h61
           subst h61
           refine ⟨[(99, 0, .d (.lit (.int .i64 r58))), (100, 1, .d (.lit (.bool ((decide (r58 < 0)))))), (101, 2, .d (.lit (.bool ((decide (r58 < 0)))))), (102, 3, .tup []), (103, 4, .tup []), (104, 5, .tup []), (105, 6, .tup []), (106, 7, .tup []), (107, 8, .tup []), (108, 9, .d (.lit (.bool true))), (109, 10, .d (.lit (.bool (true)))), (110, 11, .bp b5 0 0), (111, 12, .d (.lit (.int .i64 r58))), (112, 13, .bp b56 0 0), (113, 14, .d (.lit (.int .i64 p50.1.round)))], ?_, ?_⟩
           · exact ⟨by kernel_rfl, by kernel_rfl, by kernel_rfl, by kernel_rfl, by kernel_rfl, [([], []), ([0], []), ([1], []), ([2], []), ([2, 3], []), ([2], []), ([2, 4, 5], []), ([2], []), ([2, 6, 7], []), ([2, 8], []), ([9], []), ([10], []), ([10], []), ([10], []), ([10, 13], [])], by kernel_rfl, ⟨fun S hS => aB rfl (aR rfl (aE (v := .d (.lit (.int .i64 r58))) (aA rfl) (aC hS rfl) rfl)),
      fun S hS => aB rfl (aR rfl (bE (aA rfl) (aC hS rfl) rfl rfl)),
      fun S hS => aB rfl (aR rfl (aE (v := .d (.lit (.bool ((decide (r58 < 0)))))) (aA rfl) (aC hS rfl) rfl)),
      fun S hS => aB rfl (aM rfl rfl (aA rfl) rfl (aA rfl) (aD hS rfl) c62),
      fun S hS => aB rfl (aM rfl rfl (aA rfl) rfl (aA rfl) (aD hS rfl) c62),
      fun S hS => aB rfl (aM rfl rfl (aA rfl) rfl (aA rfl) (aD hS rfl) c62),
      fun S hS => aB rfl (aM rfl rfl (aA rfl) rfl (aA rfl) (aD hS rfl) c62),
      fun S hS => aB rfl (aM rfl rfl (aA rfl) rfl (aA rfl) (aD hS rfl) c62),
      fun S hS => aB rfl (aM rfl rfl (aA rfl) rfl (aA rfl) (aD hS rfl) c62),
      fun S hS => aB rfl (aR rfl (bO (v := .d (.lit (.bool true))) (aA rfl) (aC hS rfl) c62 rfl rfl)),
      fun S hS => aB rfl (aR rfl (aE (v := .d (.lit (.bool (true)))) (aA rfl) (aC hS rfl) rfl)),
      fun S hS => aB rfl (aG rfl rfl (aA rfl) (aD hS rfl) c65 (aE (v := .bp b5 0 0) (aA rfl) (aC hS rfl) rfl)),
      fun S hS => aB rfl (aG rfl rfl (aA rfl) (aD hS rfl) c65 (aE (v := .d (.lit (.int .i64 r58))) (aA rfl) (aC hS rfl) rfl)),
      fun S hS => aB rfl (aG rfl rfl (aA rfl) (aD hS rfl) c65 (aS (aA rfl) (aC hS rfl) nS)),
      fun S hS => aB rfl (aG rfl rfl (aA rfl) (aD hS rfl) c65 (aU (aA rfl) (aC hS rfl) (i := 5) rfl rfl aZ)), trivial⟩⟩
           · exact cL (aX rfl (aX rfl (aX rfl (aX rfl (aX rfl (bF ⟨rfl, rfl, trivial⟩))))))
          ·have h61 := bB c62 h61
           obtain ⟨r63, h64, h61⟩ := bind_some h61
           have h61 := Option.some.inj h61
           subst h61
           refine ⟨[(99, 0, .d (.lit (.int .i64 r58))), (100, 1, .d (.lit (.bool ((decide (r58 < 0)))))), (101, 2, .d (.lit (.bool ((decide (r58 < 0)))))), (102, 3, .bp b56 0 0), (103, 4, .d (.lit (.int .i64 p50.1.round))), (104, 5, .d (.lit (.int .i64 r58))), (105, 6, .agg (aN r63)), (106, 7, .agg (aN p50.1)), (107, 8, .d (.lit (.bool ((!decide (r63 = p50.1)))))), (108, 9, .d (.lit (.bool ((!decide (r63 = p50.1)))))), (109, 10, .d (.lit (.bool (!decide (r63 = p50.1))))), (110, 11, .bp b5 0 0), (111, 12, .d (.lit (.int .i64 r58))), (112, 13, .bp b56 0 0), (113, 14, .d (.lit (.int .i64 p50.1.round)))], ?_, ?_⟩
           · exact ⟨by kernel_rfl, by kernel_rfl, by kernel_rfl, by kernel_rfl, by kernel_rfl, [([], []), ([0], []), ([1], []), ([2], []), ([2, 3], []), ([2], []), ([2, 4, 5], []), ([2], []), ([2, 6, 7], []), ([2, 8], []), ([9], []), ([10], []), ([10], []), ([10], []), ([10, 13], [])], by kernel_rfl, ⟨fun S hS => aB rfl (aR rfl (aE (v := .d (.lit (.int .i64 r58))) (aA rfl) (aC hS rfl) rfl)),
      fun S hS => aB rfl (aR rfl (bE (aA rfl) (aC hS rfl) rfl rfl)),
      fun S hS => aB rfl (aR rfl (aE (v := .d (.lit (.bool ((decide (r58 < 0)))))) (aA rfl) (aC hS rfl) rfl)),
      fun S hS => aB rfl (aG rfl rfl (aA rfl) (aD hS rfl) c62 (aS (aA rfl) (aC hS rfl) nS)),
      fun S hS => aB rfl (aG rfl rfl (aA rfl) (aD hS rfl) c62 (aU (aA rfl) (aC hS rfl) (i := 5) rfl rfl aZ)),
      fun S hS => aB rfl (aG rfl rfl (aA rfl) (aD hS rfl) c62 (aE (v := .d (.lit (.int .i64 r58))) (aA rfl) (aC hS rfl) rfl)),
      fun S hS => aB rfl (aG rfl rfl (aA rfl) (aD hS rfl) c62 (gN (aA rfl) (.func _ _ Try.call45) (ev2 (aC hS rfl) (ev2 (aC hS rfl) evn)) rfl (lR _ _ h64))),
      fun S hS => aB rfl (aG rfl rfl (aA rfl) (aD hS rfl) c62 (bW (aA rfl) (aC hS rfl) (i := 5) rfl jI (es := (aN p50.1)) rfl rfl)),
      fun S hS => aB rfl (aG rfl rfl (aA rfl) (aD hS rfl) c62 (aHp (a := r63) (b := p50.1) (aA rfl) (aC hS rfl) (aC hS rfl) rfl rfl Try.eqGuardType70 xT)),
      fun S hS => aB rfl (aR rfl (bH (v := .d (.lit (.bool ((!decide (r63 = p50.1)))))) (aA rfl) (aC hS rfl) c62 (aC hS rfl) rfl)),
      fun S hS => aB rfl (aR rfl (aE (v := .d (.lit (.bool (!decide (r63 = p50.1))))) (aA rfl) (aC hS rfl) rfl)),
      fun S hS => aB rfl (aG rfl rfl (aA rfl) (aD hS rfl) c65 (aE (v := .bp b5 0 0) (aA rfl) (aC hS rfl) rfl)),
      fun S hS => aB rfl (aG rfl rfl (aA rfl) (aD hS rfl) c65 (aE (v := .d (.lit (.int .i64 r58))) (aA rfl) (aC hS rfl) rfl)),
      fun S hS => aB rfl (aG rfl rfl (aA rfl) (aD hS rfl) c65 (aS (aA rfl) (aC hS rfl) nS)),
      fun S hS => aB rfl (aG rfl rfl (aA rfl) (aD hS rfl) c65 (aU (aA rfl) (aC hS rfl) (i := 5) rfl rfl aZ)), trivial⟩⟩
           · exact cL (aX rfl (aX rfl (aX rfl (aX rfl (aX rfl (bF ⟨rfl, rfl, trivial⟩))))))
         ·obtain ⟨r66, h67, h⟩ := dM h
          refine lP (bK [2, 0, 1, 3, 4, 5, 6] rfl rfl (le_refl _)) ?_
          refine aGl rfl rfl (aA rfl) rfl c65 (tP (passed := [.box b5 0 [.lit (.int .i64 t_0.Rounds), .sl 1 (t_0.Slots.map aO), .lit (X2 3).v, .lit (.map (some (X2 4).b))], .arr (X2 3).v 3 1 (r26.2.1.map aO), .map (X2 4).b (o23_4_45.map fun p : aF × Int => ((fun a : aF => Value.agg ((aN a).map bQ).toArray) p.1, (fun v : Int => AV.d (.lit (.int .i64 v))) p.2)) bs46 ck47]) (aA rfl) rfl (.func _ _ Try.call91) rfl rfl (rO t_0 r26.2.1 o23_4_45 r58 p50.1.round h67)) ?_
          rintro _ ⟨_, _, ⟨bs68, ck69, rfl, rfl⟩, rfl⟩
          refine aQ rfl rfl (aA rfl) rfl c65 (fJ (aA rfl) rfl) ?_
          refine tr1 rfl (bH (v := .d (.lit (.bool (!r66.1)))) (aA rfl) rfl c65 rfl rfl) ?_
          refine aJ ?_
          refine bY rfl (fun c70 => ?_) (fun c70 => ?_)
          ·have h := eN c70 h
           refine aK ?_
           refine aH ?_
           refine tr1 rfl (aL (v := cV bG (none : Option bI)) (aA rfl) rfl rfl) ?_
           refine tr1 rfl (aL (v := .d (.lit (.bool false))) (aA rfl) rfl rfl) ?_
           refine aJ ?_
           exact bV ⟨rfl, _, [], [.box b5 0 [.lit (.int .i64 t_0.Rounds), .sl 1 (t_0.Slots.map aO), .lit (X2 3).v, .lit (.map (some (X2 4).b))], .arr (X2 3).v 3 1 (r26.2.1.map aO), .map (X2 4).b (r66.2.map fun p : aF × Int => ((fun a : aF => Value.agg ((aN a).map bQ).toArray) p.1, (fun v : Int => AV.d (.lit (.int .i64 v))) p.2)) bs68 ck69, .map r7 (o27_0_8.map fun p : aF × aI => ((fun a : aF => Value.agg ((aN a).map bQ).toArray) p.1, (fun v : aI => AV.agg (aP v)) p.2)) bs11 ck12, .iter q42 r7 ck12 (seen48 ++ [b52]) ck12, .box b56 0 (aN p50.1), .box b57 0 (aP p50.2)], _, .two (.tmp 4 (v := cV bG (none : Option bI)) rfl) (.tmp 5 (v := .d (.lit (.bool false))) rfl), .refl _, .same _, ((none : Option bI), false), h, rfl, rfl⟩
          ·have h := eM c70 h
           refine eH ?_
           exact ⟨(r66.2, bs68, ck69, (seen48 ++ [b52])), h, bK [1, 2, 0, 3, 4] rfl rfl (bF ⟨rfl, rfl, trivial⟩)⟩
      ·exact absurd c72 (by decide)

theorem pE (t_0 : aT) (l_1 : List aI) {Q : ((Option bI) × Int) → Prop} (h : iQ t_0 l_1 Q) : fE Try.prog 48 [.agg (aY t_0), .d (.sl 5 (l_1.map aP))] [] (fun r' o' => ∃ (r : (Option bI) × Int), Q r ∧ r' = .tup [cV bG r.1, .d (.lit (.int .i64 r.2))] ∧ o' = []) := by
 unfold iQ at h
 refine gX Try.func48 rfl (rs := [.tmp 4, .tmp 5]) Try.results48 Try.ntmps48 (Nat.le_of_ble_eq_true rfl) ?_
 refine aK ?_
 refine aH ?_
 refine cE rfl (gL (v := .agg (aY t_0)) (aA rfl) rfl rfl rfl) ?_
 rintro _ ⟨b1, rfl⟩
 refine tr1 rfl (aL (v := cV bG (none : Option bI)) (aA rfl) rfl rfl) ?_
 refine tr1 rfl (aL (v := .d (.lit (.int .i64 0))) (aA rfl) rfl rfl) ?_
 refine aJ ?_
 refine aK ?_
 refine aK ?_
 refine aH ?_
 refine tr1 rfl (bW (aA rfl) rfl (i := 0) rfl dX (es := (aY t_0)) rfl rfl) ?_
 obtain ⟨r2, h3, h⟩ := dM h
 refine tr1 rfl (cZ (aA rfl) (.func _ _ Try.call67) rfl rfl (BVs.refl _ _) (zW _ h3) rfl) ?_
 refine tr1 rfl (fJ (aA rfl) rfl) ?_
 refine aJ ?_
 refine bY rfl (fun c4 => ?_) (fun c4 => ?_)
 ·have h := eN c4 h
  refine aK ?_
  refine aH ?_
  refine tr1 rfl (aL (v := cV bG (none : Option bI)) (aA rfl) rfl rfl) ?_
  refine tr1 rfl (aL (v := .d (.lit (.int .i64 70))) (aA rfl) rfl rfl) ?_
  refine aJ ?_
  exact bV ⟨rfl, _, [], [.box b1 0 (aY t_0)], _, .two (.tmp 4 (v := cV bG (none : Option bI)) rfl) (.tmp 5 (v := .d (.lit (.int .i64 70))) rfl), .refl _, .same _, ((none : Option bI), 70), h, rfl, rfl⟩
 ·have h := eM c4 h
  refine bU ?_
  refine aK ?_
  refine aK ?_
  refine aH ?_
  refine tr1 rfl (aE (v := .d (.sl 5 (l_1.map aP))) (aA rfl) rfl rfl) ?_
  refine tr1 rfl (dR (aA rfl) rfl fT.of) ?_
  refine tr1 rfl (bE (aA rfl) rfl rfl rfl) ?_
  refine tr1 rfl (aE (v := .d (.lit (.bool ((decide (60 < (l_1.length : Int))))))) (aA rfl) rfl rfl) ?_
  obtain ⟨b5, h6, h⟩ := dM h
  refine cK 4 [1, 2] 18 b5 ?_ ?_
  ·refine bM (decide (60 < (l_1.length : Int))) (fun c10 => ?_) (fun c10 => ?_)
   ·have h6 := bD c10 h6
    refine aV rfl rfl (aA rfl) rfl (aA rfl) rfl c10 ?_
    refine aV rfl rfl (aA rfl) rfl (aA rfl) rfl c10 ?_
    refine aV rfl rfl (aA rfl) rfl (aA rfl) rfl c10 ?_
    refine tr1 rfl (bO (v := .d (.lit (.bool true))) (aA rfl) rfl c10 rfl rfl) ?_
    have h6 := Option.some.inj h6
    subst h6
    refine aJ (bN rfl ⟨rfl, rfl, trivial⟩ rfl)
   ·have h6 := bB c10 h6
    refine aQ rfl rfl (aA rfl) rfl c10 (aE (v := .d (.sl 5 (l_1.map aP))) (aA rfl) rfl rfl) ?_
    refine aQ rfl rfl (aA rfl) rfl c10 (aMq (aA rfl) rfl rfl) ?_
    obtain ⟨r12, h13, h6⟩ := bind_some h6
    refine aQ rfl rfl (aA rfl) rfl c10 (cZ (aA rfl) (.func _ _ Try.call68) rfl rfl (.cons (.same _) (.cons ((aMx (.cons ((aLa 0 rfl rfl (dvc (.same _) (dvc (.same _) dvn)))) .nil))) .nil)) (rJ _ _ 69 [.cp [.lit (.int .i64 t_0.Rounds), .sl 1 (t_0.Slots.map aO)]] Try.call69 (fun _ _ h6 => zX _ _ h6) h13) rfl) ?_
    refine tr1 rfl (bH (v := .d (.lit (.bool r12))) (aA rfl) rfl c10 rfl rfl) ?_
    have h6 := Option.some.inj h6
    subst h6
    refine aJ (bN rfl ⟨rfl, rfl, trivial⟩ rfl)
  ·refine aJ ?_
   refine bY rfl (fun c7 => ?_) (fun c7 => ?_)
   ·have h := eN c7 h
    refine aK ?_
    refine aH ?_
    refine tr1 rfl (aL (v := cV bG (none : Option bI)) (aA rfl) rfl rfl) ?_
    refine tr1 rfl (aL (v := .d (.lit (.int .i64 71))) (aA rfl) rfl rfl) ?_
    refine aJ ?_
    exact bV ⟨rfl, _, [], [.box b1 0 (aY t_0)], _, .two (.tmp 4 (v := cV bG (none : Option bI)) rfl) (.tmp 5 (v := .d (.lit (.int .i64 71))) rfl), .refl _, .same _, ((none : Option bI), 71), h, rfl, rfl⟩
   ·have h := eM c7 h
    refine bU ?_
    refine aK ?_
    refine aH ?_
    refine tr1 rfl (bW (aA rfl) rfl (i := 0) rfl dX (es := (aY t_0)) rfl rfl) ?_
    refine tr1 rfl (aE (v := .d (.sl 5 (l_1.map aP))) (aA rfl) rfl rfl) ?_
    refine cE rfl (nY (aA rfl) (.func _ _ Try.call71) rfl rfl (aAs _ _ h)) ?_
    rintro _ ⟨_, _, ⟨r8, h, rfl, rfl⟩, rfl⟩
    refine tr1 rfl (aE (v := .tup [cV bG r8.1, .d (.lit (.bool r8.2))]) (aA rfl) rfl rfl) ?_
    refine tr1 rfl (bX (aA rfl) rfl rfl) ?_
    refine tr1 rfl (bX (aA rfl) rfl rfl) ?_
    refine tr1 rfl (aL (v := cV bG r8.1) (aA rfl) rfl rfl) ?_
    refine tr1 rfl (aL (v := .d (.lit (.bool r8.2))) (aA rfl) rfl rfl) ?_
    refine aJ ?_
    refine aK ?_
    refine aK ?_
    refine aH ?_
    refine tr1 rfl (aE (v := .d (.lit (.bool r8.2))) (aA rfl) rfl rfl) ?_
    refine tr1 rfl (fJ (aA rfl) rfl) ?_
    refine aJ ?_
    refine bY rfl (fun c9 => ?_) (fun c9 => ?_)
    ·have h := eN c9 h
     refine aK ?_
     refine aH ?_
     refine tr1 rfl (aL (v := cV bG (none : Option bI)) (aA rfl) rfl rfl) ?_
     refine tr1 rfl (aL (v := .d (.lit (.int .i64 72))) (aA rfl) rfl rfl) ?_
     refine aJ ?_
     exact bV ⟨rfl, _, [], [.box b1 0 (aY t_0)], _, .two (.tmp 4 (v := cV bG (none : Option bI)) rfl) (.tmp 5 (v := .d (.lit (.int .i64 72))) rfl), .refl _, .same _, ((none : Option bI), 72), h, rfl, rfl⟩
    ·have h := eM c9 h
     refine bU ?_
     refine aK ?_
     refine aH ?_
     refine tr1 rfl (aE (v := cV bG r8.1) (aA rfl) rfl rfl) ?_
     refine tr1 rfl (aL (v := cV bG r8.1) (aA rfl) rfl rfl) ?_
     refine tr1 rfl (aL (v := .d (.lit (.int .i64 0))) (aA rfl) rfl rfl) ?_
     refine aJ ?_
     exact bV ⟨rfl, _, [], [.box b1 0 (aY t_0)], _, .two (.tmp 4 (v := cV bG r8.1) rfl) (.tmp 5 (v := .d (.lit (.int .i64 0))) rfl), .refl _, .same _, (r8.1, 0), h, rfl, rfl⟩

theorem rN (d_0 : bI) (m_1 : aF) (side_2 : Int) {r : Int} (h : jR d_0 m_1 side_2 = some r) : Fn Try.prog 74 [.cp (bG d_0), .agg (aN m_1), .d (.lit (.int .i64 side_2))] (.d (.lit (.int .i64 r))) := by
 unfold jR at h
 refine Fn.of_tr Try.func74 rfl (rs := [.tmp 6]) Try.results74 Try.ntmps74 (Nat.le_of_ble_eq_true rfl) ?_
 refine aK ?_
 refine aH ?_
 refine cE rfl (gL (v := .agg (aN m_1)) (aA rfl) rfl rfl rfl) ?_
 rintro _ ⟨b1, rfl⟩
 refine tr1 rfl (aL (v := .d (.lit (.int .i64 0))) (aA rfl) rfl rfl) ?_
 refine aJ ?_
 refine aK ?_
 refine aH ?_
 refine tr1 rfl (aS (aA rfl) rfl aEa) ?_
 refine tr1 rfl (aU (aA rfl) rfl (i := 0) rfl rfl aZ) ?_
 refine tr1 rfl (bL (aA rfl) rfl rfl rfl) ?_
 refine tr1 rfl (aE (v := .d (.lit (.int .i64 side_2))) (aA rfl) rfl rfl) ?_
 refine tr1 rfl (bL (aA rfl) rfl rfl rfl) ?_
 refine tr1 rfl (aL (v := .d (.lit (.int .i64 ((w64 ((w64 (2 * m_1.place)) + side_2)))))) (aA rfl) rfl rfl) ?_
 refine aJ ?_
 refine aK ?_
 refine aK ?_
 refine aH ?_
 refine tr1 rfl (aS (aA rfl) rfl nS) ?_
 refine tr1 rfl (aU (aA rfl) rfl (i := 0) rfl rfl aZ) ?_
 refine tr1 rfl (bE (aA rfl) rfl rfl rfl) ?_
 refine aJ ?_
 refine bY rfl (fun c2 => ?_) (fun c2 => ?_)
 ·have h := bD c2 h
  refine aK ?_
  refine aH ?_
  refine tr1 rfl (aE (v := .cp [.lit (.int .i64 d_0.Tree.Rounds), .sl 1 (d_0.Tree.Slots.map aO), .sl 1 (d_0.players.map aO), .mp false (d_0.won.map fun p : aF × Int => ((fun a : aF => Value.agg ((aN a).map bQ).toArray) p.1, aO p.2))]) (aA rfl) rfl rfl) ?_
  refine tr1 rfl (iF (aA rfl) rfl) ?_
  refine tr1 rfl (cW (aA rfl) rfl lF (es := [.sl 1 (d_0.players.map aO)]) rfl) ?_
  refine tr1 rfl (bC (aA rfl) rfl cU) ?_
  refine tr1 rfl (aE (v := .d (.lit (.int .i64 ((w64 ((w64 (2 * m_1.place)) + side_2)))))) (aA rfl) rfl rfl) ?_
  obtain ⟨x3, h4, h⟩ := bind_some h
  refine tr1 rfl (bA (aA rfl) rfl rfl bP.of (bJ aO h4)) ?_
  refine tr1 rfl (bC (aA rfl) rfl aZ) ?_
  refine tr1 rfl (aL (v := .d (.lit (.int .i64 x3))) (aA rfl) rfl rfl) ?_
  refine aJ ?_
  have h := Option.some.inj h
  subst h
  refine cR (cQ (cX (l := [6]) ⟨rfl, trivial⟩)) ?_
  exact bV ⟨rfl, _, .one _, rfl, rfl⟩
 ·have h := bB c2 h
  refine bU ?_
  refine aK ?_
  refine aK ?_
  refine dN mix 14 [] [(8, .d (.lit (.int .i64 ((cN (aF.mk (w64 (m_1.round - 1)) (w64 ((w64 (2 * m_1.place)) + side_2))) 0 d_0.won))))), (37, .d (.lit (.bool ((cY (aF.mk (w64 (m_1.round - 1)) (w64 ((w64 (2 * m_1.place)) + side_2))) d_0.won)))))] ?_ ?_
  ·refine ⟨[(26, 0, .cp [.lit (.int .i64 d_0.Tree.Rounds), .sl 1 (d_0.Tree.Slots.map aO), .sl 1 (d_0.players.map aO), .mp false (d_0.won.map fun p : aF × Int => ((fun a : aF => Value.agg ((aN a).map bQ).toArray) p.1, aO p.2))]), (27, 1, .cp [.lit (.int .i64 d_0.Tree.Rounds), .sl 1 (d_0.Tree.Slots.map aO), .sl 1 (d_0.players.map aO), .mp false (d_0.won.map fun p : aF × Int => ((fun a : aF => Value.agg ((aN a).map bQ).toArray) p.1, aO p.2))]), (28, 2, .cp [.mp false (d_0.won.map fun p : aF × Int => ((fun a : aF => Value.agg ((aN a).map bQ).toArray) p.1, aO p.2))]), (29, 3, .d (.mp false (d_0.won.map fun p : aF × Int => ((fun a : aF => Value.agg ((aN a).map bQ).toArray) p.1, aO p.2)))), (30, 4, .bp b1 0 0), (31, 5, .d (.lit (.int .i64 m_1.round))), (32, 6, .d (.lit (.int .i64 ((w64 (m_1.round - 1)))))), (33, 7, .d (.lit (.int .i64 ((w64 ((w64 (2 * m_1.place)) + side_2)))))), (34, 8, .agg (aN (aF.mk (w64 (m_1.round - 1)) (w64 ((w64 (2 * m_1.place)) + side_2))))), (35, 9, .tup [.d (.lit (.int .i64 ((cN (aF.mk (w64 (m_1.round - 1)) (w64 ((w64 (2 * m_1.place)) + side_2))) 0 d_0.won)))), .d (.lit (.bool ((cY (aF.mk (w64 (m_1.round - 1)) (w64 ((w64 (2 * m_1.place)) + side_2))) d_0.won))))]), (25, 10, .tup [.d (.lit (.int .i64 ((cN (aF.mk (w64 (m_1.round - 1)) (w64 ((w64 (2 * m_1.place)) + side_2))) 0 d_0.won)))), .d (.lit (.bool ((cY (aF.mk (w64 (m_1.round - 1)) (w64 ((w64 (2 * m_1.place)) + side_2))) d_0.won))))]), (36, 11, .d (.lit (.int .i64 ((cN (aF.mk (w64 (m_1.round - 1)) (w64 ((w64 (2 * m_1.place)) + side_2))) 0 d_0.won))))), (37, 12, .d (.lit (.bool ((cY (aF.mk (w64 (m_1.round - 1)) (w64 ((w64 (2 * m_1.place)) + side_2))) d_0.won))))), (8, 13, .d (.lit (.int .i64 ((cN (aF.mk (w64 (m_1.round - 1)) (w64 ((w64 (2 * m_1.place)) + side_2))) 0 d_0.won)))))], ?_, ?_⟩
   · exact ⟨by kernel_rfl, by kernel_rfl, by kernel_rfl, by kernel_rfl, by kernel_rfl, [([], []), ([0], []), ([1], []), ([2], []), ([], []), ([4], []), ([5], []), ([], []), ([6, 7], []), ([3, 8], []), ([9], []), ([10], []), ([10], []), ([11], [])], by kernel_rfl, ⟨fun S hS => aB rfl (aR rfl (aE (v := .cp [.lit (.int .i64 d_0.Tree.Rounds), .sl 1 (d_0.Tree.Slots.map aO), .sl 1 (d_0.players.map aO), .mp false (d_0.won.map fun p : aF × Int => ((fun a : aF => Value.agg ((aN a).map bQ).toArray) p.1, aO p.2))]) (aA rfl) (aC hS rfl) rfl)),
      fun S hS => aB rfl (aR rfl (iF (aA rfl) (aC hS rfl))),
      fun S hS => aB rfl (aR rfl (cW (aA rfl) (aC hS rfl) qG (es := [.mp false (d_0.won.map fun p : aF × Int => ((fun a : aF => Value.agg ((aN a).map bQ).toArray) p.1, aO p.2))]) rfl)),
      fun S hS => aB rfl (aR rfl (bC (aA rfl) (aC hS rfl) uB)),
      fun S hS => aB rfl (aR rfl (aS (aA rfl) (aC hS rfl) nS)),
      fun S hS => aB rfl (aR rfl (aU (aA rfl) (aC hS rfl) (i := 0) rfl rfl aZ)),
      fun S hS => aB rfl (aR rfl (bL (aA rfl) (aC hS rfl) rfl rfl)),
      fun S hS => aB rfl (aR rfl (aE (v := .d (.lit (.int .i64 ((w64 ((w64 (2 * m_1.place)) + side_2)))))) (aA rfl) (aC hS rfl) rfl)),
      fun S hS => aB rfl (aR rfl (fN (aA rfl) vT (zs := [.lit (.int .i64 0), .lit (.int .i64 0)]) rfl rfl rfl (pa2 (aC hS rfl) (pa2 (aC hS rfl) pan)) (es := [.lit (.int .i64 ((w64 (m_1.round - 1)))), .lit (.int .i64 ((w64 ((w64 (2 * m_1.place)) + side_2))))]) rfl)),
      fun S hS => aB rfl (aR rfl (pW (enc := aO) (agg := false) (l := d_0.won) (z := 0) (a := (aF.mk (w64 (m_1.round - 1)) (w64 ((w64 (2 * m_1.place)) + side_2)))) (aA rfl) sP Try.underlying73 Try.zeroValue3 (fun _ _ => .d (.lit _ rfl)) (aC hS rfl) rfl rfl (aC hS rfl) (kU (enc := aN) (aF.mk (w64 (m_1.round - 1)) (w64 ((w64 (2 * m_1.place)) + side_2))) rfl))),
      fun S hS => aB rfl (aR rfl (aE (v := .tup [.d (.lit (.int .i64 ((cN (aF.mk (w64 (m_1.round - 1)) (w64 ((w64 (2 * m_1.place)) + side_2))) 0 d_0.won)))), .d (.lit (.bool ((cY (aF.mk (w64 (m_1.round - 1)) (w64 ((w64 (2 * m_1.place)) + side_2))) d_0.won))))]) (aA rfl) (aC hS rfl) rfl)),
      fun S hS => aB rfl (aR rfl (bX (aA rfl) (aC hS rfl) rfl)),
      fun S hS => aB rfl (aR rfl (bX (aA rfl) (aC hS rfl) rfl)),
      fun S hS => aB rfl (aR rfl (aL (v := .d (.lit (.int .i64 ((cN (aF.mk (w64 (m_1.round - 1)) (w64 ((w64 (2 * m_1.place)) + side_2))) 0 d_0.won))))) (aA rfl) (aC hS rfl) rfl)), trivial⟩⟩
   · exact cL (aX rfl (aX rfl (bF trivial)))
  ·refine tr1 rfl (aL (v := .d (.lit (.bool ((cY (aF.mk (w64 (m_1.round - 1)) (w64 ((w64 (2 * m_1.place)) + side_2))) d_0.won))))) (aA rfl) rfl rfl) ?_
   refine aJ ?_
   refine aK ?_
   refine aH ?_
   refine tr1 rfl (aE (v := .d (.lit (.bool ((cY (aF.mk (w64 (m_1.round - 1)) (w64 ((w64 (2 * m_1.place)) + side_2))) d_0.won))))) (aA rfl) rfl rfl) ?_
   refine aJ ?_
   refine bY rfl (fun c5 => ?_) (fun c5 => ?_)
   ·have h := bD c5 h
    refine aK ?_
    refine aH ?_
    refine tr1 rfl (aE (v := .d (.lit (.int .i64 ((cN (aF.mk (w64 (m_1.round - 1)) (w64 ((w64 (2 * m_1.place)) + side_2))) 0 d_0.won))))) (aA rfl) rfl rfl) ?_
    refine tr1 rfl (aL (v := .d (.lit (.int .i64 ((cN (aF.mk (w64 (m_1.round - 1)) (w64 ((w64 (2 * m_1.place)) + side_2))) 0 d_0.won))))) (aA rfl) rfl rfl) ?_
    refine aJ ?_
    have h := Option.some.inj h
    subst h
    refine cR (cQ (cX (l := [6]) ⟨rfl, trivial⟩)) ?_
    exact bV ⟨rfl, _, .one _, rfl, rfl⟩
   ·have h := bB c5 h
    refine bU ?_
    refine aK ?_
    refine aH ?_
    refine tr1 rfl (aL (v := .d (.lit (.int .i64 (-2)))) (aA rfl) rfl rfl) ?_
    refine aJ ?_
    have h := Option.some.inj h
    subst h
    refine cR (cQ (cX (l := [6]) ⟨rfl, trivial⟩)) ?_
    exact bV ⟨rfl, _, .one _, rfl, rfl⟩

theorem uW {S : Type} (J : S → MO → Prop) (ly : Nat) (yield_1 : S → aF → bS → Option S) (hy : ∀ (s : S) (m : MO) (x0 : aF) (x1 : bS) (s' : S), J s m → yield_1 s x0 x1 = some s' → xJ Try.prog ly [.agg (aN x0), .agg (cC x1)] m (J s')) (d_0 : bI) (sy : S) (m0 : MO) (hj : J sy m0) {r : S} (h : jK d_0 yield_1 sy = some r) : fE Try.prog 56 [.cp (bG d_0), .d (.lit (yv ly))] [m0] (fun _ o' => ∃ m', J r m' ∧ o' = [m']) := by
 unfold jK at h
 refine aFg Try.func56 rfl (rs := []) Try.results56 Try.ntmps56 (Nat.le_of_ble_eq_true rfl) ?_
 refine aK ?_
 refine aH ?_
 refine tr1 rfl (aE (v := .cp [.lit (.int .i64 d_0.Tree.Rounds), .sl 1 (d_0.Tree.Slots.map aO), .sl 1 (d_0.players.map aO), .mp false (d_0.won.map fun p : aF × Int => ((fun a : aF => Value.agg ((aN a).map bQ).toArray) p.1, aO p.2))]) (aA rfl) rfl rfl) ?_
 refine tr1 rfl (iF (aA rfl) rfl) ?_
 refine tr1 rfl (cW (aA rfl) rfl oV (es := [.lit (.int .i64 d_0.Tree.Rounds), .sl 1 (d_0.Tree.Slots.map aO)]) rfl) ?_
 refine tr1 rfl (cW (aA rfl) rfl gK (es := [.lit (.int .i64 d_0.Tree.Rounds)]) rfl) ?_
 refine tr1 rfl (bC (aA rfl) rfl aZ) ?_
 refine tr1 rfl (aE (v := .d (.lit (.int .i64 0))) (aA rfl) rfl rfl) ?_
 refine aJ ?_
 refine cF ?_
 refine dJ [0, 1, 11] (fun (s1 : Int × ({x : S × MO // J x.1 x.2})) => [(12, .d (.lit (.int .i64 s1.1)))]) (fun (s1 : Int × ({x : S × MO // J x.1 x.2})) => [s1.2.1.2]) (fun (k : Nat) (s1 : Int × ({x : S × MO // J x.1 x.2})) => dF yield_1 d_0 d_0.Tree.Rounds k s1.1 s1.2.1.1) (fun _ => rfl) (0, ⟨(sy, m0), hj⟩) h (bK [0] rfl rfl (aX rfl (bF ⟨rfl, rfl, rfl, trivial⟩))) ?_
 rintro k3 ⟨t12_0_1, y2⟩ h
 simp only [dF] at h
 refine aK ?_
 refine aH ?_
 refine tr1 rfl (bE (aA rfl) rfl rfl rfl) ?_
 refine aJ ?_
 refine aK ?_
 refine bY rfl (fun c4 => ?_) (fun c4 => ?_)
 ·have h := bD c4 h
  refine bU ?_
  refine aK ?_
  refine cF ?_
  refine aK ?_
  refine aH ?_
  refine tr1 rfl (aE (v := .d (.lit (.int .i64 t12_0_1))) (aA rfl) rfl rfl) ?_
  refine tr1 rfl (aL (v := .d (.lit (.int .i64 t12_0_1))) (aA rfl) rfl rfl) ?_
  refine aJ ?_
  refine aK ?_
  refine aH ?_
  refine tr1 rfl (aE (v := .cp [.lit (.int .i64 d_0.Tree.Rounds), .sl 1 (d_0.Tree.Slots.map aO), .sl 1 (d_0.players.map aO), .mp false (d_0.won.map fun p : aF × Int => ((fun a : aF => Value.agg ((aN a).map bQ).toArray) p.1, aO p.2))]) (aA rfl) rfl rfl) ?_
  refine tr1 rfl (iF (aA rfl) rfl) ?_
  refine tr1 rfl (cW (aA rfl) rfl oV (es := [.lit (.int .i64 d_0.Tree.Rounds), .sl 1 (d_0.Tree.Slots.map aO)]) rfl) ?_
  refine tr1 rfl (cW (aA rfl) rfl dZ (es := [.sl 1 (d_0.Tree.Slots.map aO)]) rfl) ?_
  refine tr1 rfl (bC (aA rfl) rfl cU) ?_
  refine tr1 rfl (dR (aA rfl) rfl bP.of) ?_
  refine tr1 rfl (aE (v := .d (.lit (.int .i64 t12_0_1))) (aA rfl) rfl rfl) ?_
  refine tr1 rfl (bL (aA rfl) rfl rfl rfl) ?_
  obtain ⟨u5, h6, h⟩ := bind_some h
  refine tr1 rfl (yY (aA rfl) rfl rfl (tJ h6)) ?_
  refine tr1 rfl (aE (v := .d (.lit (.int .i64 0))) (aA rfl) rfl rfl) ?_
  refine aJ ?_
  refine zA ?_
  refine dJ [0, 1, 4, 11, 12, 23] (fun (s7 : Int × ({x : S × MO // J x.1 x.2})) => [(24, .d (.lit (.int .i64 s7.1)))]) (fun (s7 : Int × ({x : S × MO // J x.1 x.2})) => [s7.2.1.2]) (fun (k : Nat) (s7 : Int × ({x : S × MO // J x.1 x.2})) => eL yield_1 (dF yield_1 d_0 d_0.Tree.Rounds k3) d_0 t12_0_1 d_0.Tree.Rounds t12_0_1 ((d_0.Tree.Slots.length : Int).fdiv (2 ^ (min (w64 (t12_0_1 + 1)).toNat 64))) k s7.1 s7.2.1.1) (fun _ => rfl) (0, ⟨(y2.1.1, y2.1.2), y2.2⟩) h (bK [0] rfl rfl (aX rfl (bF ⟨rfl, rfl, rfl, rfl, rfl, rfl, trivial⟩))) ?_
  rintro k9 ⟨t24_2_7, y8⟩ h
  simp only [eL] at h
  refine aK ?_
  refine aH ?_
  refine tr1 rfl (bE (aA rfl) rfl rfl rfl) ?_
  refine aJ ?_
  refine aK ?_
  refine bY rfl (fun c10 => ?_) (fun c10 => ?_)
  ·have h := bD c10 h
   refine bU ?_
   refine aK ?_
   refine cF ?_
   refine aK ?_
   refine aH ?_
   refine tr1 rfl (aE (v := .d (.lit (.int .i64 t24_2_7))) (aA rfl) rfl rfl) ?_
   refine tr1 rfl (aL (v := .d (.lit (.int .i64 t24_2_7))) (aA rfl) rfl rfl) ?_
   refine aJ ?_
   refine aK ?_
   refine aH ?_
   refine tr1 rfl (aE (v := .d (.lit (.int .i64 t12_0_1))) (aA rfl) rfl rfl) ?_
   refine tr1 rfl (aE (v := .d (.lit (.int .i64 t24_2_7))) (aA rfl) rfl rfl) ?_
   refine tr1 rfl (fN (aA rfl) vT (zs := [.lit (.int .i64 0), .lit (.int .i64 0)]) rfl rfl rfl rfl (es := [.lit (.int .i64 t12_0_1), .lit (.int .i64 t24_2_7)]) rfl) ?_
   refine cE rfl (eD (zs := [.lit (.int .i64 0), .lit (.int .i64 0)]) (aA rfl) Try.zeroValue70 rfl rfl) ?_
   rintro _ ⟨b11, rfl⟩
   refine tr1 rfl (cO (i := 1) rfl rfl rfl rfl rfl Try.sizeOf70 rfl (aA rfl) (Nat.le_of_ble_eq_true rfl) (ds' := (aN (aF.mk t12_0_1 t24_2_7))) rfl) ?_
   refine aJ ?_
   refine aK ?_
   obtain ⟨r12, h13, h⟩ := bind_some h
   obtain ⟨r14, h15, h⟩ := bind_some h
   refine dN mix 11 [0, 1, 4, 11, 12, 23, 24] [(30, .d (.lit (yv ly))), (31, .agg (aN (aF.mk t12_0_1 t24_2_7))), (40, .agg (cC (bS.mk t12_0_1 t24_2_7 r12 r14)))] ?_ ?_
   ·refine ⟨[(30, 0, .d (.lit (yv ly))), (31, 1, .agg (aN (aF.mk t12_0_1 t24_2_7))), (32, 2, .d (.lit (.int .i64 t12_0_1))), (33, 3, .d (.lit (.int .i64 t24_2_7))), (34, 4, .cp [.lit (.int .i64 d_0.Tree.Rounds), .sl 1 (d_0.Tree.Slots.map aO), .sl 1 (d_0.players.map aO), .mp false (d_0.won.map fun p : aF × Int => ((fun a : aF => Value.agg ((aN a).map bQ).toArray) p.1, aO p.2))]), (35, 5, .agg (aN (aF.mk t12_0_1 t24_2_7))), (36, 6, .d (.lit (.int .i64 r12))), (37, 7, .cp [.lit (.int .i64 d_0.Tree.Rounds), .sl 1 (d_0.Tree.Slots.map aO), .sl 1 (d_0.players.map aO), .mp false (d_0.won.map fun p : aF × Int => ((fun a : aF => Value.agg ((aN a).map bQ).toArray) p.1, aO p.2))]), (38, 8, .agg (aN (aF.mk t12_0_1 t24_2_7))), (39, 9, .d (.lit (.int .i64 r14))), (40, 10, .agg (cC (bS.mk t12_0_1 t24_2_7 r12 r14)))], ?_, ?_⟩
    · exact ⟨by kernel_rfl, by kernel_rfl, by kernel_rfl, by kernel_rfl, by kernel_rfl, [([], []), ([], []), ([], []), ([], []), ([], []), ([], []), ([4, 5], []), ([], []), ([], []), ([7, 8], []), ([2, 3, 6, 9], [])], by kernel_rfl, ⟨fun S hS => aB rfl (aR rfl (aE (v := .d (.lit (yv ly))) (aA rfl) (aC hS rfl) rfl)),
      fun S hS => aB rfl (aR rfl (bW (aA rfl) (aC hS rfl) (i := 1) rfl jI (es := (aN (aF.mk t12_0_1 t24_2_7))) rfl rfl)),
      fun S hS => aB rfl (aR rfl (aE (v := .d (.lit (.int .i64 t12_0_1))) (aA rfl) (aC hS rfl) rfl)),
      fun S hS => aB rfl (aR rfl (aE (v := .d (.lit (.int .i64 t24_2_7))) (aA rfl) (aC hS rfl) rfl)),
      fun S hS => aB rfl (aR rfl (aE (v := .cp [.lit (.int .i64 d_0.Tree.Rounds), .sl 1 (d_0.Tree.Slots.map aO), .sl 1 (d_0.players.map aO), .mp false (d_0.won.map fun p : aF × Int => ((fun a : aF => Value.agg ((aN a).map bQ).toArray) p.1, aO p.2))]) (aA rfl) (aC hS rfl) rfl)),
      fun S hS => aB rfl (aR rfl (bW (aA rfl) (aC hS rfl) (i := 1) rfl jI (es := (aN (aF.mk t12_0_1 t24_2_7))) rfl rfl)),
      fun S hS => aB rfl (aR rfl (cZ (aA rfl) (.func _ _ Try.call74) (ev2 (aC hS rfl) (ev2 (aC hS rfl) (ev2 rfl evn))) rfl (BVs.refl _ _) (rN _ _ _ h13) rfl)),
      fun S hS => aB rfl (aR rfl (aE (v := .cp [.lit (.int .i64 d_0.Tree.Rounds), .sl 1 (d_0.Tree.Slots.map aO), .sl 1 (d_0.players.map aO), .mp false (d_0.won.map fun p : aF × Int => ((fun a : aF => Value.agg ((aN a).map bQ).toArray) p.1, aO p.2))]) (aA rfl) (aC hS rfl) rfl)),
      fun S hS => aB rfl (aR rfl (bW (aA rfl) (aC hS rfl) (i := 1) rfl jI (es := (aN (aF.mk t12_0_1 t24_2_7))) rfl rfl)),
      fun S hS => aB rfl (aR rfl (cZ (aA rfl) (.func _ _ Try.call74) (ev2 (aC hS rfl) (ev2 (aC hS rfl) (ev2 rfl evn))) rfl (BVs.refl _ _) (rN _ _ _ h15) rfl)),
      fun S hS => aB rfl (aR rfl (fN (aA rfl) aEu (zs := [.lit (.int .i64 0), .lit (.int .i64 0), .lit (.int .i64 0), .lit (.int .i64 0)]) rfl rfl rfl (pa2 (aC hS rfl) (pa2 (aC hS rfl) (pa2 (aC hS rfl) (pa2 (aC hS rfl) pan)))) (es := [.lit (.int .i64 t12_0_1), .lit (.int .i64 t24_2_7), .lit (.int .i64 r12), .lit (.int .i64 r14)]) rfl)), trivial⟩⟩
    · exact cL (aX rfl (aX rfl (aX rfl (bF ⟨rfl, rfl, rfl, rfl, rfl, rfl, rfl, trivial⟩))))
   ·obtain ⟨y16, h17, h⟩ := bind_some h
    refine aJj rfl (aLu (aA rfl) rfl rfl rfl rfl (hy _ _ _ _ _ y8.2 h17)) ?_
    rintro _ ⟨m18, hj19, rfl⟩
    refine tr1 rfl (fJ (aA rfl) rfl) ?_
    refine aJ ?_
    refine bY rfl (fun c20 => ?_) (fun c20 => ?_)
    ·exact absurd c20 (by decide)
    ·refine eH ?_
     refine aH ?_
     refine tr1 rfl (bL (aA rfl) rfl rfl rfl) ?_
     refine tr1 rfl (aE (v := .d (.lit (.int .i64 ((w64 (t24_2_7 + 1)))))) (aA rfl) rfl rfl) ?_
     refine aJ ?_
     exact ⟨(w64 (t24_2_7 + 1), ⟨(y16, m18), hj19⟩), h, bK [0] rfl rfl (aX rfl (bF ⟨rfl, rfl, rfl, rfl, rfl, rfl, trivial⟩))⟩
  ·have h := bB c10 h
   refine dB ?_
   refine .inl ⟨rfl, ?_⟩
   simp only [iG] at h
   simp only [mB] at h
   refine aH ?_
   refine tr1 rfl (bL (aA rfl) rfl rfl rfl) ?_
   refine tr1 rfl (aE (v := .d (.lit (.int .i64 ((w64 (t12_0_1 + 1)))))) (aA rfl) rfl rfl) ?_
   refine aJ ?_
   exact ⟨(w64 (t12_0_1 + 1), ⟨(y8.1.1, y8.1.2), y8.2⟩), h, bK [0] rfl rfl (aX rfl (bF ⟨rfl, rfl, rfl, trivial⟩))⟩
 ·have h := bB c4 h
  refine dB ?_
  refine .inl ⟨rfl, ?_⟩
  simp only [mA] at h
  have h := Option.some.inj h
  subst h
  exact ⟨_, [y2.1.2], [], _, .none, .refl _, .same _, y2.1.2, y2.2, rfl⟩

theorem aAq (t_0 : aT) (l_1 : List aI) {Q : ((List bS) × Int) → Prop} (h : nT t_0 l_1 Q) : fE Try.prog 30 [.agg (aY t_0), .d (.sl 5 (l_1.map aP))] [] (fun r' o' => ∃ (r : (List bS) × Int), Q r ∧ r' = .tup [.d (.sl 4 (r.1.map cC)), .d (.lit (.int .i64 r.2))] ∧ o' = []) := by
 unfold nT at h
 refine gX Try.func30 rfl (rs := [.tmp 4, .tmp 5]) Try.results30 Try.ntmps30 (Nat.le_of_ble_eq_true rfl) ?_
 refine aK ?_
 refine aH ?_
 refine cE rfl (gL (v := .agg (aY t_0)) (aA rfl) rfl rfl rfl) ?_
 rintro _ ⟨b1, rfl⟩
 refine tr1 rfl (rH 4 (aA rfl)) ?_
 refine tr1 rfl (aL (v := .d (.lit (.int .i64 0))) (aA rfl) rfl rfl) ?_
 refine aJ ?_
 refine aK ?_
 refine aH ?_
 refine tr1 rfl (bW (aA rfl) rfl (i := 0) rfl dX (es := (aY t_0)) rfl rfl) ?_
 refine tr1 rfl (aE (v := .d (.sl 5 (l_1.map aP))) (aA rfl) rfl rfl) ?_
 refine cE rfl (nY (aA rfl) (.func _ _ Try.call48) rfl rfl (pE _ _ h)) ?_
 rintro _ ⟨_, _, ⟨r2, h, rfl, rfl⟩, rfl⟩
 refine tr1 rfl (aE (v := .tup [cV bG r2.1, .d (.lit (.int .i64 r2.2))]) (aA rfl) rfl rfl) ?_
 refine tr1 rfl (bX (aA rfl) rfl rfl) ?_
 refine tr1 rfl (bX (aA rfl) rfl rfl) ?_
 refine tr1 rfl (aL (v := cV bG r2.1) (aA rfl) rfl rfl) ?_
 refine tr1 rfl (aL (v := .d (.lit (.int .i64 r2.2))) (aA rfl) rfl rfl) ?_
 refine aJ ?_
 refine aK ?_
 refine aK ?_
 refine aH ?_
 refine tr1 rfl (aE (v := .d (.lit (.int .i64 r2.2))) (aA rfl) rfl rfl) ?_
 refine tr1 rfl (bE (aA rfl) rfl rfl rfl) ?_
 refine aJ ?_
 refine bY rfl (fun c3 => ?_) (fun c3 => ?_)
 ·have h := eN c3 h
  refine aK ?_
  refine aH ?_
  refine tr1 rfl (aE (v := .d (.lit (.int .i64 r2.2))) (aA rfl) rfl rfl) ?_
  refine tr1 rfl (rH 4 (aA rfl)) ?_
  refine tr1 rfl (aL (v := .d (.lit (.int .i64 r2.2))) (aA rfl) rfl rfl) ?_
  refine aJ ?_
  exact bV ⟨rfl, _, [], [.box b1 0 (aY t_0)], _, .two (.tmp 4 (v := .d (.sl 4 ((([] : List bS)).map cC))) rfl) (.tmp 5 (v := .d (.lit (.int .i64 r2.2))) rfl), .refl _, .same _, (([] : List bS), r2.2), h, rfl, rfl⟩
 ·have h := eM c3 h
  refine bU ?_
  refine aK ?_
  refine aH ?_
  refine cE rfl (eD (zs := [.lit (.slice none 0 0)]) (aA rfl) Try.zeroValue48 rfl rfl) ?_
  rintro _ ⟨b4, rfl⟩
  refine lP (aAw 57 4) ?_
  refine aJ ?_
  refine aK ?_
  refine aK ?_
  refine aH ?_
  refine tr1 rfl (aE (v := cV bG r2.1) (aA rfl) rfl rfl) ?_
  obtain ⟨x5, h6, h⟩ := dM h
  refine lP (aBy (enc := bG) (k := 20) rfl h6) ?_
  refine tr1 rfl (aMr (aA rfl) rfl rfl) ?_
  refine aJ ?_
  refine cF ?_
  obtain ⟨s7, h8, h⟩ := dM h
  refine vU ?_ aMo
  refine aKw (S := (List bS) × Value) (S0 := (List bS)) (f := 56) (ps := [22, 23]) (fun z11 => z11.1) (fun z11 => [.box b1 0 (aY t_0), .box b4 0 [.lit z11.2], .arr z11.2 57 4 (z11.1.map cC)]) (aNb (fun x12 : aF => .agg (aN x12)) (fun x13 : bS => .agg (cC x13)) _) (([] : List bS), (.slice none 0 0)) ([] : List bS) s7 (bK [0, 1, 2] rfl rfl (le_refl _)) rfl Try.call56 rfl (by decide) rfl rfl (fun l J hy m0 h0 => uW (S := (List bS)) J l _ (fun _ _ _ _ _ hJ hq => hy _ _ _ _ hJ ⟨_, _, rfl, hq⟩) x5 _ m0 h0 h8) ?_ ?_
  ·rintro ⟨e9, w10⟩ _ _ ⟨x12, x13, rfl, h⟩
   refine ⟨rfl, ?_⟩
   refine aH ?_
   refine cE rfl (eD (zs := [.lit (.int .i64 0), .lit (.int .i64 0), .lit (.int .i64 0), .lit (.int .i64 0)]) (aA rfl) Try.zeroValue57 rfl rfl) ?_
   rintro _ ⟨b14, rfl⟩
   refine tr1 rfl (cO (i := 3) rfl rfl rfl rfl rfl Try.sizeOf57 rfl (aA rfl) (Nat.le_of_ble_eq_true rfl) (ds' := (cC x13)) rfl) ?_
   refine aJ ?_
   refine cF ?_
   refine aH ?_
   refine tr1 rfl (aU (aA rfl) rfl (i := 1) rfl rfl aIw) ?_
   refine tr1 rfl (bW (aA rfl) rfl (i := 3) rfl aAo (es := (cC x13)) rfl rfl) ?_
   refine tr1 rfl (gM (aA rfl) rI rfl rfl (rows := ([x13]).map cC) rfl (dV (f := cC) fun _ => rfl) rfl (by decide)) ?_
   obtain ⟨x15, h16, h⟩ := bind_some h
   refine cE rfl (gC (i := 2) (aA rfl) rI rfl rfl rfl (fun _ => rfl) h16 rfl) ?_
   rintro _ ⟨v17, rfl⟩
   refine tr1 rfl (cO (i := 1) rfl rfl rfl rfl rfl Try.sizeOf48 rfl (aA rfl) (Nat.le_of_ble_eq_true rfl) (ds' := [.lit v17]) rfl) ?_
   refine eY ?_
   have h := Option.some.inj h
   subst h
   exact ⟨(x15, v17), rfl, bK [0, 1, 2] rfl rfl aMn⟩
  ·rintro ⟨e9, w10⟩ h18
   subst h18
   refine aK ?_
   refine aH ?_
   refine tr1 rfl (aU (aA rfl) rfl (i := 1) rfl rfl aIw) ?_
   refine tr1 rfl (aL (v := .d (.lit w10)) (aA rfl) rfl rfl) ?_
   refine tr1 rfl (aL (v := .d (.lit (.int .i64 0))) (aA rfl) rfl rfl) ?_
   refine aJ ?_
   exact bV ⟨rfl, _, [], [.box b1 0 (aY t_0), .box b4 0 [.lit w10], .arr w10 57 4 (e9.map cC)], _, .two (.tmp 4 (v := .d (.lit w10)) rfl) (.tmp 5 (v := .d (.lit (.int .i64 0))) rfl), .refl _, tR (.cons (.d (mH 2 rfl (dV (f := cC) fun _ => rfl))) (.cons (.same _) .nil)), (e9, 0), h, rfl, rfl⟩

theorem xN (t_0 : aT) (l_1 : List aI) (round_2 : Int) (place_3 : Int) {Q : ((Option bI) × aF × Int) → Prop} (h : mE t_0 l_1 round_2 place_3 Q) : fE Try.prog 44 [.agg (aY t_0), .d (.sl 5 (l_1.map aP)), .d (.lit (.int .i64 round_2)), .d (.lit (.int .i64 place_3))] [] (fun r' o' => ∃ (r : (Option bI) × aF × Int), Q r ∧ r' = .tup [cV bG r.1, .agg (aN r.2.1), .d (.lit (.int .i64 r.2.2))] ∧ o' = []) := by
 unfold mE at h
 refine gX Try.func44 rfl (rs := [.tmp 8, .cell 9 70, .tmp 10]) Try.results44 Try.ntmps44 (Nat.le_of_ble_eq_true rfl) ?_
 refine aK ?_
 refine aH ?_
 refine cE rfl (gL (v := .agg (aY t_0)) (aA rfl) rfl rfl rfl) ?_
 rintro _ ⟨b1, rfl⟩
 refine tr1 rfl (aL (v := cV bG (none : Option bI)) (aA rfl) rfl rfl) ?_
 refine cE rfl (eD (zs := [.lit (.int .i64 0), .lit (.int .i64 0)]) (aA rfl) Try.zeroValue70 rfl rfl) ?_
 rintro _ ⟨b2, rfl⟩
 refine tr1 rfl (aL (v := .d (.lit (.int .i64 0))) (aA rfl) rfl rfl) ?_
 refine aJ ?_
 refine aK ?_
 refine aH ?_
 refine tr1 rfl (bW (aA rfl) rfl (i := 0) rfl dX (es := (aY t_0)) rfl rfl) ?_
 refine tr1 rfl (aE (v := .d (.sl 5 (l_1.map aP))) (aA rfl) rfl rfl) ?_
 refine cE rfl (nY (aA rfl) (.func _ _ Try.call48) rfl rfl (pE _ _ h)) ?_
 rintro _ ⟨_, _, ⟨r3, h, rfl, rfl⟩, rfl⟩
 refine tr1 rfl (aE (v := .tup [cV bG r3.1, .d (.lit (.int .i64 r3.2))]) (aA rfl) rfl rfl) ?_
 refine tr1 rfl (bX (aA rfl) rfl rfl) ?_
 refine tr1 rfl (bX (aA rfl) rfl rfl) ?_
 refine tr1 rfl (aL (v := cV bG r3.1) (aA rfl) rfl rfl) ?_
 refine tr1 rfl (aL (v := .d (.lit (.int .i64 r3.2))) (aA rfl) rfl rfl) ?_
 refine aJ ?_
 refine aK ?_
 refine aH ?_
 refine tr1 rfl (aE (v := .d (.lit (.int .i64 round_2))) (aA rfl) rfl rfl) ?_
 refine tr1 rfl (aE (v := .d (.lit (.int .i64 place_3))) (aA rfl) rfl rfl) ?_
 refine tr1 rfl (fN (aA rfl) vT (zs := [.lit (.int .i64 0), .lit (.int .i64 0)]) rfl rfl rfl rfl (es := [.lit (.int .i64 round_2), .lit (.int .i64 place_3)]) rfl) ?_
 refine cE rfl (eD (zs := [.lit (.int .i64 0), .lit (.int .i64 0)]) (aA rfl) Try.zeroValue70 rfl rfl) ?_
 rintro _ ⟨b4, rfl⟩
 refine tr1 rfl (cO (i := 2) rfl rfl rfl rfl rfl Try.sizeOf70 rfl (aA rfl) (Nat.le_of_ble_eq_true rfl) (ds' := (aN (aF.mk round_2 place_3))) rfl) ?_
 refine aJ ?_
 refine aK ?_
 refine aK ?_
 refine aH ?_
 refine tr1 rfl (aE (v := .d (.lit (.int .i64 r3.2))) (aA rfl) rfl rfl) ?_
 refine tr1 rfl (bE (aA rfl) rfl rfl rfl) ?_
 refine tr1 rfl (aE (v := .d (.lit (.bool ((decide (r3.2 = 0)))))) (aA rfl) rfl rfl) ?_
 obtain ⟨b5, h6, h⟩ := dM h
 refine cK 5 [9, 11, 12, 13] 30 b5 ?_ ?_
 ·refine bM (decide (r3.2 = 0)) (fun c10 => ?_) (fun c10 => ?_)
  ·have h6 := bD c10 h6
   refine aQ rfl rfl (aA rfl) rfl c10 (bW (aA rfl) rfl (i := 2) rfl jI (es := (aN (aF.mk round_2 place_3))) rfl rfl) ?_
   refine aQ rfl rfl (aA rfl) rfl c10 (bW (aA rfl) rfl (i := 0) rfl dX (es := (aY t_0)) rfl rfl) ?_
   obtain ⟨r11, h12, h6⟩ := bind_some h6
   refine aQ rfl rfl (aA rfl) rfl c10 (cZ (aA rfl) (.func _ _ Try.call64) rfl rfl (BVs.refl _ _) (sK _ _ h12) rfl) ?_
   refine aQ rfl rfl (aA rfl) rfl c10 (fJ (aA rfl) rfl) ?_
   refine tr1 rfl (bO (v := .d (.lit (.bool (!r11)))) (aA rfl) rfl c10 rfl rfl) ?_
   have h6 := Option.some.inj h6
   subst h6
   refine aJ (bN rfl ⟨rfl, rfl, rfl, rfl, trivial⟩ rfl)
  ·have h6 := bB c10 h6
   refine aV rfl rfl (aA rfl) rfl (aA rfl) rfl c10 ?_
   refine aV rfl rfl (aA rfl) rfl (aA rfl) rfl c10 ?_
   refine aV rfl rfl (aA rfl) rfl (aA rfl) rfl c10 ?_
   refine aV rfl rfl (aA rfl) rfl (aA rfl) rfl c10 ?_
   refine tr1 rfl (bH (v := .d (.lit (.bool false))) (aA rfl) rfl c10 rfl rfl) ?_
   have h6 := Option.some.inj h6
   subst h6
   refine aJ (bN rfl ⟨rfl, rfl, rfl, rfl, trivial⟩ rfl)
 ·refine aJ ?_
  refine bY rfl (fun c7 => ?_) (fun c7 => ?_)
  ·have h := eN c7 h
   refine aH ?_
   refine tr1 rfl (aL (v := .d (.lit (.int .i64 1))) (aA rfl) rfl rfl) ?_
   refine aJ ?_
   refine aK ?_
   refine sU mix 5 [9] (fun X8 => [(8, cV bG r3.1), (33, .d (.lit (.int .i64 1)))]) (fun X8 => [.box b1 0 (aY t_0), .box b2 0 (aN (aF.mk round_2 place_3)), .box b4 0 (aN (aF.mk round_2 place_3))]) ?_ ?_
   ·refine ⟨0, fun X8 => [(31, 0, cV bG r3.1), (32, 1, .agg (aN (aF.mk round_2 place_3))), (33, 2, .d (.lit (.int .i64 1))), (8, 3, cV bG r3.1)], fun X8 => [([], .box b1 0 (aY t_0)), ([(4, .box b2 0 (aN (aF.mk round_2 place_3)))], .box b2 0 (aN (aF.mk 0 0))), ([], .box b4 0 (aN (aF.mk round_2 place_3)))], ?_, ?_⟩
    · exact ⟨by kernel_rfl, by kernel_rfl, by kernel_rfl, fun _ => by kernel_rfl, fun _ => by kernel_rfl, fun _ => by kernel_rfl, fun _ => rfl, [([], [4]), ([], [4]), ([], []), ([0], [4]), ([1], [])], by kernel_rfl, ⟨fun X8 S hw hi hS => gD (X := X8) rfl (hw X8) rfl (aR rfl (aE (v := cV bG r3.1) (aA rfl) (aC hS rfl) rfl)),
      fun X8 S hw hi hS => gD (X := X8) rfl (hw X8) rfl (aR rfl (bW (aA rfl) (aC hS rfl) (i := 2) (og hS rfl rfl) jI (es := (aN (aF.mk round_2 place_3))) rfl rfl)),
      fun X8 S hw hi hS => gD (X := X8) rfl (hw X8) rfl (aR rfl (aE (v := .d (.lit (.int .i64 1))) (aA rfl) (aC hS rfl) rfl)),
      fun X8 S hw hi hS => gD (X := X8) rfl (hw X8) rfl (aR rfl (aL (v := cV bG r3.1) (aA rfl) (aC hS rfl) rfl)),
      fun X8 S hw hi hS => aCd (X := X8) hS rfl rfl rfl (p := 1) rfl rfl (aR rfl (cO (i := 1) (aC hS rfl) (og hS rfl rfl) (aC hS rfl) rfl rfl Try.sizeOf70 rfl (aA rfl) (Nat.le_of_ble_eq_true rfl) (ds' := (aN (aF.mk round_2 place_3))) rfl)), trivial⟩⟩
    · exact fun X8 => cL (aX rfl (aX rfl (bF ⟨rfl, trivial⟩)))
   ·intro X8
    refine tr1 rfl (aL (v := .d (.lit (.int .i64 1))) (aA rfl) rfl rfl) ?_
    refine aJ ?_
    exact bV ⟨rfl, _, [], [.box b1 0 (aY t_0), .box b2 0 (aN (aF.mk round_2 place_3)), .box b4 0 (aN (aF.mk round_2 place_3))], _, .three (.tmp 8 (v := cV bG r3.1) rfl) (.cell 9 70 rfl (i := 1) rfl jI (es := (aN (aF.mk round_2 place_3))) rfl rfl) (.tmp 10 (v := .d (.lit (.int .i64 1))) rfl), .refl _, .same _, (r3.1, (aF.mk round_2 place_3), 1), h, rfl, rfl⟩
  ·have h := eM c7 h
   refine bU ?_
   refine aK ?_
   refine sU mix 5 [9] (fun X9 => [(8, cV bG r3.1), (33, .d (.lit (.int .i64 r3.2)))]) (fun X9 => [.box b1 0 (aY t_0), .box b2 0 (aN (aF.mk round_2 place_3)), .box b4 0 (aN (aF.mk round_2 place_3))]) ?_ ?_
   ·refine ⟨0, fun X9 => [(31, 0, cV bG r3.1), (32, 1, .agg (aN (aF.mk round_2 place_3))), (33, 2, .d (.lit (.int .i64 r3.2))), (8, 3, cV bG r3.1)], fun X9 => [([], .box b1 0 (aY t_0)), ([(4, .box b2 0 (aN (aF.mk round_2 place_3)))], .box b2 0 (aN (aF.mk 0 0))), ([], .box b4 0 (aN (aF.mk round_2 place_3)))], ?_, ?_⟩
    · exact ⟨by kernel_rfl, by kernel_rfl, by kernel_rfl, fun _ => by kernel_rfl, fun _ => by kernel_rfl, fun _ => by kernel_rfl, fun _ => rfl, [([], [4]), ([], [4]), ([], []), ([0], [4]), ([1], [])], by kernel_rfl, ⟨fun X9 S hw hi hS => gD (X := X9) rfl (hw X9) rfl (aR rfl (aE (v := cV bG r3.1) (aA rfl) (aC hS rfl) rfl)),
      fun X9 S hw hi hS => gD (X := X9) rfl (hw X9) rfl (aR rfl (bW (aA rfl) (aC hS rfl) (i := 2) (og hS rfl rfl) jI (es := (aN (aF.mk round_2 place_3))) rfl rfl)),
      fun X9 S hw hi hS => gD (X := X9) rfl (hw X9) rfl (aR rfl (aE (v := .d (.lit (.int .i64 r3.2))) (aA rfl) (aC hS rfl) rfl)),
      fun X9 S hw hi hS => gD (X := X9) rfl (hw X9) rfl (aR rfl (aL (v := cV bG r3.1) (aA rfl) (aC hS rfl) rfl)),
      fun X9 S hw hi hS => aCd (X := X9) hS rfl rfl rfl (p := 1) rfl rfl (aR rfl (cO (i := 1) (aC hS rfl) (og hS rfl rfl) (aC hS rfl) rfl rfl Try.sizeOf70 rfl (aA rfl) (Nat.le_of_ble_eq_true rfl) (ds' := (aN (aF.mk round_2 place_3))) rfl)), trivial⟩⟩
    · exact fun X9 => cL (aX rfl (aX rfl (bF ⟨rfl, trivial⟩)))
   ·intro X9
    refine tr1 rfl (aL (v := .d (.lit (.int .i64 r3.2))) (aA rfl) rfl rfl) ?_
    refine aJ ?_
    exact bV ⟨rfl, _, [], [.box b1 0 (aY t_0), .box b2 0 (aN (aF.mk round_2 place_3)), .box b4 0 (aN (aF.mk round_2 place_3))], _, .three (.tmp 8 (v := cV bG r3.1) rfl) (.cell 9 70 rfl (i := 1) rfl jI (es := (aN (aF.mk round_2 place_3))) rfl rfl) (.tmp 10 (v := .d (.lit (.int .i64 r3.2))) rfl), .refl _, .same _, (r3.1, (aF.mk round_2 place_3), r3.2), h, rfl, rfl⟩

theorem sJ (d_0 : bI) (slot_1 : Int) {r : Int} (h : kF d_0 slot_1 = some r) : Fn Try.prog 46 [.cp (bG d_0), .d (.lit (.int .i64 slot_1))] (.d (.lit (.int .i64 r))) := by
 unfold kF at h
 refine Fn.of_tr Try.func46 rfl (rs := [.tmp 4]) Try.results46 Try.ntmps46 (Nat.le_of_ble_eq_true rfl) ?_
 refine aK ?_
 refine aH ?_
 refine tr1 rfl (aL (v := .d (.lit (.int .i64 0))) (aA rfl) rfl rfl) ?_
 refine aJ ?_
 refine aK ?_
 refine aK ?_
 refine aH ?_
 refine tr1 rfl (aE (v := .cp [.lit (.int .i64 d_0.Tree.Rounds), .sl 1 (d_0.Tree.Slots.map aO), .sl 1 (d_0.players.map aO), .mp false (d_0.won.map fun p : aF × Int => ((fun a : aF => Value.agg ((aN a).map bQ).toArray) p.1, aO p.2))]) (aA rfl) rfl rfl) ?_
 refine tr1 rfl (iF (aA rfl) rfl) ?_
 refine tr1 rfl (cW (aA rfl) rfl oV (es := [.lit (.int .i64 d_0.Tree.Rounds), .sl 1 (d_0.Tree.Slots.map aO)]) rfl) ?_
 refine tr1 rfl (cW (aA rfl) rfl gK (es := [.lit (.int .i64 d_0.Tree.Rounds)]) rfl) ?_
 refine tr1 rfl (bC (aA rfl) rfl aZ) ?_
 refine tr1 rfl (aE (v := .d (.lit (.int .i64 0))) (aA rfl) rfl rfl) ?_
 refine aJ ?_
 refine cF ?_
 refine dJ [0, 1, 12] (fun (s1 : Int) => [(13, .d (.lit (.int .i64 s1)))]) (fun (s1 : Int) => []) (fun (k : Nat) (s1 : Int) => gS d_0 slot_1 d_0.Tree.Rounds k s1) (fun _ => rfl) (0) h (bK [] rfl rfl (aX rfl (bF ⟨rfl, rfl, rfl, trivial⟩))) ?_
 rintro k2 t13_0_1 h
 simp only [gS] at h
 refine aK ?_
 refine aH ?_
 refine tr1 rfl (bE (aA rfl) rfl rfl rfl) ?_
 refine aJ ?_
 refine aK ?_
 refine bY rfl (fun c3 => ?_) (fun c3 => ?_)
 ·have h := bD c3 h
  refine bU ?_
  refine aK ?_
  refine cF ?_
  refine aK ?_
  refine aH ?_
  refine tr1 rfl (aE (v := .d (.lit (.int .i64 t13_0_1))) (aA rfl) rfl rfl) ?_
  refine tr1 rfl (aL (v := .d (.lit (.int .i64 t13_0_1))) (aA rfl) rfl rfl) ?_
  refine aJ ?_
  refine aK ?_
  obtain ⟨r4, h5, h⟩ := bind_some h
  refine dN mix 12 [0, 1, 5, 12, 13] [(6, .d (.lit (.int .i64 ((cN r4 0 d_0.won))))), (26, .d (.lit (.bool ((cY r4 d_0.won)))))] ?_ ?_
  ·refine ⟨[(17, 0, .cp [.lit (.int .i64 d_0.Tree.Rounds), .sl 1 (d_0.Tree.Slots.map aO), .sl 1 (d_0.players.map aO), .mp false (d_0.won.map fun p : aF × Int => ((fun a : aF => Value.agg ((aN a).map bQ).toArray) p.1, aO p.2))]), (18, 1, .cp [.lit (.int .i64 d_0.Tree.Rounds), .sl 1 (d_0.Tree.Slots.map aO), .sl 1 (d_0.players.map aO), .mp false (d_0.won.map fun p : aF × Int => ((fun a : aF => Value.agg ((aN a).map bQ).toArray) p.1, aO p.2))]), (19, 2, .cp [.mp false (d_0.won.map fun p : aF × Int => ((fun a : aF => Value.agg ((aN a).map bQ).toArray) p.1, aO p.2))]), (20, 3, .d (.mp false (d_0.won.map fun p : aF × Int => ((fun a : aF => Value.agg ((aN a).map bQ).toArray) p.1, aO p.2)))), (21, 4, .d (.lit (.int .i64 t13_0_1))), (22, 5, .d (.lit (.int .i64 slot_1))), (23, 6, .agg (aN r4)), (24, 7, .tup [.d (.lit (.int .i64 ((cN r4 0 d_0.won)))), .d (.lit (.bool ((cY r4 d_0.won))))]), (16, 8, .tup [.d (.lit (.int .i64 ((cN r4 0 d_0.won)))), .d (.lit (.bool ((cY r4 d_0.won))))]), (25, 9, .d (.lit (.int .i64 ((cN r4 0 d_0.won))))), (26, 10, .d (.lit (.bool ((cY r4 d_0.won))))), (6, 11, .d (.lit (.int .i64 ((cN r4 0 d_0.won)))))], ?_, ?_⟩
   · exact ⟨by kernel_rfl, by kernel_rfl, by kernel_rfl, by kernel_rfl, by kernel_rfl, [([], []), ([0], []), ([1], []), ([2], []), ([], []), ([], []), ([4, 5], []), ([3, 6], []), ([7], []), ([8], []), ([8], []), ([9], [])], by kernel_rfl, ⟨fun S hS => aB rfl (aR rfl (aE (v := .cp [.lit (.int .i64 d_0.Tree.Rounds), .sl 1 (d_0.Tree.Slots.map aO), .sl 1 (d_0.players.map aO), .mp false (d_0.won.map fun p : aF × Int => ((fun a : aF => Value.agg ((aN a).map bQ).toArray) p.1, aO p.2))]) (aA rfl) (aC hS rfl) rfl)),
      fun S hS => aB rfl (aR rfl (iF (aA rfl) (aC hS rfl))),
      fun S hS => aB rfl (aR rfl (cW (aA rfl) (aC hS rfl) qG (es := [.mp false (d_0.won.map fun p : aF × Int => ((fun a : aF => Value.agg ((aN a).map bQ).toArray) p.1, aO p.2))]) rfl)),
      fun S hS => aB rfl (aR rfl (bC (aA rfl) (aC hS rfl) uB)),
      fun S hS => aB rfl (aR rfl (aE (v := .d (.lit (.int .i64 t13_0_1))) (aA rfl) (aC hS rfl) rfl)),
      fun S hS => aB rfl (aR rfl (aE (v := .d (.lit (.int .i64 slot_1))) (aA rfl) (aC hS rfl) rfl)),
      fun S hS => aB rfl (aR rfl (gN (aA rfl) (.func _ _ Try.call45) (ev2 (aC hS rfl) (ev2 (aC hS rfl) evn)) rfl (lR _ _ h5))),
      fun S hS => aB rfl (aR rfl (pW (enc := aO) (agg := false) (l := d_0.won) (z := 0) (a := r4) (aA rfl) sP Try.underlying73 Try.zeroValue3 (fun _ _ => .d (.lit _ rfl)) (aC hS rfl) rfl rfl (aC hS rfl) (kU (enc := aN) r4 rfl))),
      fun S hS => aB rfl (aR rfl (aE (v := .tup [.d (.lit (.int .i64 ((cN r4 0 d_0.won)))), .d (.lit (.bool ((cY r4 d_0.won))))]) (aA rfl) (aC hS rfl) rfl)),
      fun S hS => aB rfl (aR rfl (bX (aA rfl) (aC hS rfl) rfl)),
      fun S hS => aB rfl (aR rfl (bX (aA rfl) (aC hS rfl) rfl)),
      fun S hS => aB rfl (aR rfl (aL (v := .d (.lit (.int .i64 ((cN r4 0 d_0.won))))) (aA rfl) (aC hS rfl) rfl)), trivial⟩⟩
   · exact cL (aX rfl (aX rfl (bF ⟨rfl, rfl, rfl, rfl, rfl, trivial⟩)))
  ·refine tr1 rfl (aL (v := .d (.lit (.bool ((cY r4 d_0.won))))) (aA rfl) rfl rfl) ?_
   refine aJ ?_
   refine aK ?_
   refine aH ?_
   refine tr1 rfl (aE (v := .d (.lit (.bool ((cY r4 d_0.won))))) (aA rfl) rfl rfl) ?_
   refine tr1 rfl (aE (v := .d (.lit (.bool ((cY r4 d_0.won))))) (aA rfl) rfl rfl) ?_
   obtain ⟨b6, h7, h⟩ := bind_some h
   refine cK 10 [0, 1, 5, 12, 13] 38 b6 ?_ ?_
   ·refine bM (cY r4 d_0.won) (fun c9 => ?_) (fun c9 => ?_)
    ·have h7 := bD c9 h7
     refine aQ rfl rfl (aA rfl) rfl c9 (aE (v := .d (.lit (.int .i64 ((cN r4 0 d_0.won))))) (aA rfl) rfl rfl) ?_
     refine aQ rfl rfl (aA rfl) rfl c9 (aE (v := .cp [.lit (.int .i64 d_0.Tree.Rounds), .sl 1 (d_0.Tree.Slots.map aO), .sl 1 (d_0.players.map aO), .mp false (d_0.won.map fun p : aF × Int => ((fun a : aF => Value.agg ((aN a).map bQ).toArray) p.1, aO p.2))]) (aA rfl) rfl rfl) ?_
     refine aQ rfl rfl (aA rfl) rfl c9 (iF (aA rfl) rfl) ?_
     refine aQ rfl rfl (aA rfl) rfl c9 (cW (aA rfl) rfl lF (es := [.sl 1 (d_0.players.map aO)]) rfl) ?_
     refine aQ rfl rfl (aA rfl) rfl c9 (bC (aA rfl) rfl cU) ?_
     refine aQ rfl rfl (aA rfl) rfl c9 (aE (v := .d (.lit (.int .i64 slot_1))) (aA rfl) rfl rfl) ?_
     obtain ⟨x10, h11, h7⟩ := bind_some h7
     refine aQ rfl rfl (aA rfl) rfl c9 (bA (aA rfl) rfl rfl bP.of (bJ aO h11)) ?_
     refine aQ rfl rfl (aA rfl) rfl c9 (bC (aA rfl) rfl aZ) ?_
     refine aQ rfl rfl (aA rfl) rfl c9 (bE (aA rfl) rfl rfl rfl) ?_
     refine tr1 rfl (bO (v := .d (.lit (.bool ((!decide ((cN r4 0 d_0.won) = x10)))))) (aA rfl) rfl c9 rfl rfl) ?_
     have h7 := Option.some.inj h7
     subst h7
     refine aJ (bN rfl ⟨rfl, rfl, rfl, rfl, rfl, trivial⟩ rfl)
    ·have h7 := bB c9 h7
     refine aV rfl rfl (aA rfl) rfl (aA rfl) rfl c9 ?_
     refine aV rfl rfl (aA rfl) rfl (aA rfl) rfl c9 ?_
     refine aV rfl rfl (aA rfl) rfl (aA rfl) rfl c9 ?_
     refine aV rfl rfl (aA rfl) rfl (aA rfl) rfl c9 ?_
     refine aV rfl rfl (aA rfl) rfl (aA rfl) rfl c9 ?_
     refine aV rfl rfl (aA rfl) rfl (aA rfl) rfl c9 ?_
     refine aV rfl rfl (aA rfl) rfl (aA rfl) rfl c9 ?_
     refine aV rfl rfl (aA rfl) rfl (aA rfl) rfl c9 ?_
     refine aV rfl rfl (aA rfl) rfl (aA rfl) rfl c9 ?_
     refine tr1 rfl (bH (v := .d (.lit (.bool false))) (aA rfl) rfl c9 rfl rfl) ?_
     have h7 := Option.some.inj h7
     subst h7
     refine aJ (bN rfl ⟨rfl, rfl, rfl, rfl, rfl, trivial⟩ rfl)
   ·refine aJ ?_
    refine bY rfl (fun c8 => ?_) (fun c8 => ?_)
    ·have h := bD c8 h
     refine aK ?_
     refine aH ?_
     refine tr1 rfl (aE (v := .d (.lit (.int .i64 t13_0_1))) (aA rfl) rfl rfl) ?_
     refine tr1 rfl (aL (v := .d (.lit (.int .i64 t13_0_1))) (aA rfl) rfl rfl) ?_
     refine aJ ?_
     have h := Option.some.inj h
     subst h
     exact bV ⟨rfl, _, .one _, rfl, rfl⟩
    ·have h := bB c8 h
     refine eH ?_
     refine aH ?_
     refine tr1 rfl (bL (aA rfl) rfl rfl rfl) ?_
     refine tr1 rfl (aE (v := .d (.lit (.int .i64 ((w64 (t13_0_1 + 1)))))) (aA rfl) rfl rfl) ?_
     refine aJ ?_
     exact ⟨(w64 (t13_0_1 + 1)), h, bK [] rfl rfl (aX rfl (bF ⟨rfl, rfl, rfl, trivial⟩))⟩
 ·have h := bB c3 h
  refine dB ?_
  refine .inl ⟨rfl, ?_⟩
  simp only [nZ] at h
  refine aK ?_
  refine aH ?_
  refine tr1 rfl (aE (v := .cp [.lit (.int .i64 d_0.Tree.Rounds), .sl 1 (d_0.Tree.Slots.map aO), .sl 1 (d_0.players.map aO), .mp false (d_0.won.map fun p : aF × Int => ((fun a : aF => Value.agg ((aN a).map bQ).toArray) p.1, aO p.2))]) (aA rfl) rfl rfl) ?_
  refine tr1 rfl (iF (aA rfl) rfl) ?_
  refine tr1 rfl (cW (aA rfl) rfl oV (es := [.lit (.int .i64 d_0.Tree.Rounds), .sl 1 (d_0.Tree.Slots.map aO)]) rfl) ?_
  refine tr1 rfl (cW (aA rfl) rfl gK (es := [.lit (.int .i64 d_0.Tree.Rounds)]) rfl) ?_
  refine tr1 rfl (bC (aA rfl) rfl aZ) ?_
  refine tr1 rfl (aL (v := .d (.lit (.int .i64 d_0.Tree.Rounds))) (aA rfl) rfl rfl) ?_
  refine aJ ?_
  have h := Option.some.inj h
  subst h
  exact bV ⟨rfl, _, .one _, rfl, rfl⟩

theorem zF (x : List Int) {r : List Int} {x_v : Value} {e : TypeId} (h : slices_Sort_int x = some r) : fE Try.prog 47 [.d (.lit x_v)] [.arr x_v e 1 (x.map aO)] (fun r' o' => r' = .tup [] ∧ o' = [.arr x_v e 1 (r.map aO)]) := by
 unfold slices_Sort_int at h
 split at h
 ·cases h
  exact aHt (fun blk off cap zs w => Try.slices_Sort_int blk off cap zs w) (fun q cap w => Try.slices_Sort_int_none q cap w) (by assumption)
 ·cases h

theorem aDa (t_0 : aT) (l_1 : List aI) (round_2 : Int) (place_3 : Int) {Q : ((List Int) × Int) → Prop} (h : pM t_0 l_1 round_2 place_3 Q) : fE Try.prog 15 [.agg (aY t_0), .d (.sl 5 (l_1.map aP)), .d (.lit (.int .i64 round_2)), .d (.lit (.int .i64 place_3))] [] (fun r' o' => ∃ (r : (List Int) × Int), Q r ∧ r' = .tup [.d (.sl 1 (r.1.map aO)), .d (.lit (.int .i64 r.2))] ∧ o' = []) := by
 unfold pM at h
 refine gX Try.func15 rfl (rs := [.tmp 8, .tmp 9]) Try.results15 Try.ntmps15 (Nat.le_of_ble_eq_true rfl) ?_
 refine aK ?_
 refine aH ?_
 refine cE rfl (gL (v := .agg (aY t_0)) (aA rfl) rfl rfl rfl) ?_
 rintro _ ⟨b1, rfl⟩
 refine tr1 rfl (rH 1 (aA rfl)) ?_
 refine tr1 rfl (aL (v := .d (.lit (.int .i64 0))) (aA rfl) rfl rfl) ?_
 refine aJ ?_
 refine aK ?_
 refine aH ?_
 refine tr1 rfl (bW (aA rfl) rfl (i := 0) rfl dX (es := (aY t_0)) rfl rfl) ?_
 refine tr1 rfl (aE (v := .d (.sl 5 (l_1.map aP))) (aA rfl) rfl rfl) ?_
 refine tr1 rfl (aE (v := .d (.lit (.int .i64 round_2))) (aA rfl) rfl rfl) ?_
 refine tr1 rfl (aE (v := .d (.lit (.int .i64 place_3))) (aA rfl) rfl rfl) ?_
 refine cE rfl (nY (aA rfl) (.func _ _ Try.call44) rfl rfl (xN _ _ _ _ h)) ?_
 rintro _ ⟨_, _, ⟨r2, h, rfl, rfl⟩, rfl⟩
 refine tr1 rfl (aE (v := .tup [cV bG r2.1, .agg (aN r2.2.1), .d (.lit (.int .i64 r2.2.2))]) (aA rfl) rfl rfl) ?_
 refine tr1 rfl (bX (aA rfl) rfl rfl) ?_
 refine tr1 rfl (bX (aA rfl) rfl rfl) ?_
 refine tr1 rfl (bX (aA rfl) rfl rfl) ?_
 refine cE rfl (eD (zs := [.lit (.int .i64 0), .lit (.int .i64 0)]) (aA rfl) Try.zeroValue70 rfl rfl) ?_
 rintro _ ⟨b3, rfl⟩
 refine tr1 rfl (aL (v := cV bG r2.1) (aA rfl) rfl rfl) ?_
 refine tr1 rfl (cO (i := 1) rfl rfl rfl rfl rfl Try.sizeOf70 rfl (aA rfl) (Nat.le_of_ble_eq_true rfl) (ds' := (aN r2.2.1)) rfl) ?_
 refine tr1 rfl (aL (v := .d (.lit (.int .i64 r2.2.2))) (aA rfl) rfl rfl) ?_
 refine aJ ?_
 refine aK ?_
 refine aK ?_
 refine aH ?_
 refine tr1 rfl (aE (v := .d (.lit (.int .i64 r2.2.2))) (aA rfl) rfl rfl) ?_
 refine tr1 rfl (bE (aA rfl) rfl rfl rfl) ?_
 refine aJ ?_
 refine bY rfl (fun c4 => ?_) (fun c4 => ?_)
 ·have h := eN c4 h
  refine aK ?_
  refine aH ?_
  refine tr1 rfl (aE (v := .d (.lit (.int .i64 r2.2.2))) (aA rfl) rfl rfl) ?_
  refine tr1 rfl (rH 1 (aA rfl)) ?_
  refine tr1 rfl (aL (v := .d (.lit (.int .i64 r2.2.2))) (aA rfl) rfl rfl) ?_
  refine aJ ?_
  exact bV ⟨rfl, _, [], [.box b1 0 (aY t_0), .box b3 0 (aN r2.2.1)], _, .two (.tmp 8 (v := .d (.sl 1 ((([] : List Int)).map aO))) rfl) (.tmp 9 (v := .d (.lit (.int .i64 r2.2.2))) rfl), .refl _, .same _, (([] : List Int), r2.2.2), h, rfl, rfl⟩
 ·have h := eM c4 h
  refine bU ?_
  refine aK ?_
  refine aH ?_
  refine tr1 rfl (jE 3 1 (.inl rfl) (aA rfl)) ?_
  refine aJ ?_
  refine aK ?_
  refine aK ?_
  refine aH ?_
  refine tr1 rfl (aE (v := cV bG r2.1) (aA rfl) rfl rfl) ?_
  obtain ⟨x6, h7, h⟩ := dM h
  refine tr1 rfl (pQ (enc := bG) (aA rfl) rfl h7) ?_
  refine tr1 rfl (cW (aA rfl) rfl lF (es := [.sl 1 (x6.players.map aO)]) rfl) ?_
  refine tr1 rfl (bC (aA rfl) rfl cU) ?_
  refine tr1 rfl (dR (aA rfl) rfl bP.of) ?_
  refine tr1 rfl (aE (v := .d (.lit (.int .i64 0))) (aA rfl) rfl rfl) ?_
  refine aJ ?_
  refine cF ?_
  refine oZ [2, 10, 11, 31, 32] (fun (s8 : Int × (List Int) × Value) => [(13, .d (.lit s8.2.2)), (33, .d (.lit (.int .i64 s8.1)))]) (fun (s8 : Int × (List Int) × Value) => [.box b3 0 (aN r2.2.1), .arr s8.2.2 3 1 (s8.2.1.map aO)]) (fun (k : Nat) (s8 : Int × (List Int) × Value) => iE Q round_2 r2.1 x6.players (x6.players.length : Int) r2.2.1 k s8.1 s8.2.1) (fun _ h => h) (0, ([] : List Int), (.slice none 0 0)) h (bK [1, 2] rfl rfl (aX rfl (aX rfl (bF ⟨rfl, rfl, rfl, rfl, rfl, trivial⟩)))) ?_
  rintro k10 ⟨t33_0_8, out_0_8, w9⟩ h
  simp only [iE] at h
  refine aK ?_
  refine aH ?_
  refine tr1 rfl (bE (aA rfl) rfl rfl rfl) ?_
  refine aJ ?_
  refine aK ?_
  refine bY rfl (fun c11 => ?_) (fun c11 => ?_)
  ·have h := eN c11 h
   refine bU ?_
   refine aK ?_
   refine cF ?_
   refine aK ?_
   refine aH ?_
   refine tr1 rfl (aE (v := .d (.lit (.int .i64 t33_0_8))) (aA rfl) rfl rfl) ?_
   obtain ⟨x12, h13, h⟩ := dM h
   refine tr1 rfl (bA (aA rfl) rfl rfl bP.of (bJ aO h13)) ?_
   refine tr1 rfl (bC (aA rfl) rfl aZ) ?_
   refine tr1 rfl (aL (v := .d (.lit (.int .i64 t33_0_8))) (aA rfl) rfl rfl) ?_
   refine tr1 rfl (aL (v := .d (.lit (.int .i64 x12))) (aA rfl) rfl rfl) ?_
   refine aJ ?_
   refine aK ?_
   obtain ⟨x14, h15, h⟩ := dM h
   refine cR (aBy (enc := bG) (k := 10) rfl h15) ?_
   obtain ⟨b16, h17, h⟩ := dM h
   obtain ⟨b21, h22, h⟩ := dM h
   refine dN mix 16 [2, 10, 11, 13, 15, 31, 32, 33] [(53, .d (.lit (.bool b21)))] ?_ ?_
   ·refine bM (!decide (x12 = (-1))) (fun c18 => ?_) (fun c18 => ?_)
    ·have h17 := bD c18 h17
     obtain ⟨r19, h20, h17⟩ := bind_some h17
     have h17 := Option.some.inj h17
     subst h17
     refine bM (decide (r19 = r2.2.1)) (fun c23 => ?_) (fun c23 => ?_)
     ·have h22 := bD c23 h22
      obtain ⟨r24, h25, h22⟩ := bind_some h22
      have h22 := Option.some.inj h22
      subst h22
      refine ⟨[(38, 0, .d (.lit (.int .i64 x12))), (39, 1, .d (.lit (.bool ((!decide (x12 = (-1))))))), (40, 2, .d (.lit (.bool ((!decide (x12 = (-1))))))), (41, 3, .d (.lit (.int .i64 round_2))), (42, 4, .d (.lit (.int .i64 t33_0_8))), (43, 5, .agg (aN r19)), (44, 6, .agg (aN r2.2.1)), (45, 7, .d (.lit (.bool ((decide (r19 = r2.2.1)))))), (46, 8, .d (.lit (.bool ((decide (r19 = r2.2.1)))))), (47, 9, .d (.lit (.bool (decide (r19 = r2.2.1))))), (48, 10, .cp [.lit (.int .i64 x14.Tree.Rounds), .sl 1 (x14.Tree.Slots.map aO), .sl 1 (x14.players.map aO), .mp false (x14.won.map fun p : aF × Int => ((fun a : aF => Value.agg ((aN a).map bQ).toArray) p.1, aO p.2))]), (49, 11, .d (.lit (.int .i64 t33_0_8))), (50, 12, .d (.lit (.int .i64 r24))), (51, 13, .d (.lit (.int .i64 round_2))), (52, 14, .d (.lit (.bool ((decide (round_2 < r24)))))), (53, 15, .d (.lit (.bool ((decide (round_2 < r24))))))], ?_, ?_⟩
      · exact ⟨by kernel_rfl, by kernel_rfl, by kernel_rfl, by kernel_rfl, by kernel_rfl, [([], []), ([0], []), ([1], []), ([2], []), ([2], []), ([2, 3, 4], []), ([2], []), ([2, 5, 6], []), ([2, 7], []), ([8], []), ([9], []), ([9], []), ([9, 10, 11], []), ([9], []), ([9, 12, 13], []), ([9, 14], [])], by kernel_rfl, ⟨fun S hS => aB rfl (aR rfl (aE (v := .d (.lit (.int .i64 x12))) (aA rfl) (aC hS rfl) rfl)),
      fun S hS => aB rfl (aR rfl (bE (aA rfl) (aC hS rfl) rfl rfl)),
      fun S hS => aB rfl (aR rfl (aE (v := .d (.lit (.bool ((!decide (x12 = (-1))))))) (aA rfl) (aC hS rfl) rfl)),
      fun S hS => aB rfl (aG rfl rfl (aA rfl) (aD hS rfl) c18 (aE (v := .d (.lit (.int .i64 round_2))) (aA rfl) (aC hS rfl) rfl)),
      fun S hS => aB rfl (aG rfl rfl (aA rfl) (aD hS rfl) c18 (aE (v := .d (.lit (.int .i64 t33_0_8))) (aA rfl) (aC hS rfl) rfl)),
      fun S hS => aB rfl (aG rfl rfl (aA rfl) (aD hS rfl) c18 (gN (aA rfl) (.func _ _ Try.call45) (ev2 (aC hS rfl) (ev2 (aC hS rfl) evn)) rfl (lR _ _ h20))),
      fun S hS => aB rfl (aG rfl rfl (aA rfl) (aD hS rfl) c18 (bW (aA rfl) (aC hS rfl) (i := 0) rfl jI (es := (aN r2.2.1)) rfl rfl)),
      fun S hS => aB rfl (aG rfl rfl (aA rfl) (aD hS rfl) c18 (yX (a := r19) (b := r2.2.1) (aA rfl) (aC hS rfl) (aC hS rfl) rfl rfl Try.eqGuardType70 xT)),
      fun S hS => aB rfl (aR rfl (bO (v := .d (.lit (.bool ((decide (r19 = r2.2.1)))))) (aA rfl) (aC hS rfl) c18 (aC hS rfl) rfl)),
      fun S hS => aB rfl (aR rfl (aE (v := .d (.lit (.bool (decide (r19 = r2.2.1))))) (aA rfl) (aC hS rfl) rfl)),
      fun S hS => aB rfl (aG rfl rfl (aA rfl) (aD hS rfl) c23 (aE (v := .cp [.lit (.int .i64 x14.Tree.Rounds), .sl 1 (x14.Tree.Slots.map aO), .sl 1 (x14.players.map aO), .mp false (x14.won.map fun p : aF × Int => ((fun a : aF => Value.agg ((aN a).map bQ).toArray) p.1, aO p.2))]) (aA rfl) (aC hS rfl) rfl)),
      fun S hS => aB rfl (aG rfl rfl (aA rfl) (aD hS rfl) c23 (aE (v := .d (.lit (.int .i64 t33_0_8))) (aA rfl) (aC hS rfl) rfl)),
      fun S hS => aB rfl (aG rfl rfl (aA rfl) (aD hS rfl) c23 (cZ (aA rfl) (.func _ _ Try.call46) (ev2 (aC hS rfl) (ev2 (aC hS rfl) evn)) rfl (BVs.refl _ _) (sJ _ _ h25) rfl)),
      fun S hS => aB rfl (aG rfl rfl (aA rfl) (aD hS rfl) c23 (aE (v := .d (.lit (.int .i64 round_2))) (aA rfl) (aC hS rfl) rfl)),
      fun S hS => aB rfl (aG rfl rfl (aA rfl) (aD hS rfl) c23 (bE (aA rfl) (aC hS rfl) (aC hS rfl) rfl)),
      fun S hS => aB rfl (aR rfl (bO (v := .d (.lit (.bool ((decide (round_2 < r24)))))) (aA rfl) (aC hS rfl) c23 (aC hS rfl) rfl)), trivial⟩⟩
      · exact cL (aX rfl (bF ⟨rfl, rfl, rfl, rfl, rfl, rfl, rfl, rfl, trivial⟩))
     ·have h22 := bB c23 h22
      have h22 := Option.some.inj h22
      subst h22
      refine ⟨[(38, 0, .d (.lit (.int .i64 x12))), (39, 1, .d (.lit (.bool ((!decide (x12 = (-1))))))), (40, 2, .d (.lit (.bool ((!decide (x12 = (-1))))))), (41, 3, .d (.lit (.int .i64 round_2))), (42, 4, .d (.lit (.int .i64 t33_0_8))), (43, 5, .agg (aN r19)), (44, 6, .agg (aN r2.2.1)), (45, 7, .d (.lit (.bool ((decide (r19 = r2.2.1)))))), (46, 8, .d (.lit (.bool ((decide (r19 = r2.2.1)))))), (47, 9, .d (.lit (.bool (decide (r19 = r2.2.1))))), (48, 10, .tup []), (49, 11, .tup []), (50, 12, .tup []), (51, 13, .tup []), (52, 14, .tup []), (53, 15, .d (.lit (.bool false)))], ?_, ?_⟩
      · exact ⟨by kernel_rfl, by kernel_rfl, by kernel_rfl, by kernel_rfl, by kernel_rfl, [([], []), ([0], []), ([1], []), ([2], []), ([2], []), ([2, 3, 4], []), ([2], []), ([2, 5, 6], []), ([2, 7], []), ([8], []), ([9], []), ([9], []), ([9, 10, 11], []), ([9], []), ([9, 12, 13], []), ([9, 14], [])], by kernel_rfl, ⟨fun S hS => aB rfl (aR rfl (aE (v := .d (.lit (.int .i64 x12))) (aA rfl) (aC hS rfl) rfl)),
      fun S hS => aB rfl (aR rfl (bE (aA rfl) (aC hS rfl) rfl rfl)),
      fun S hS => aB rfl (aR rfl (aE (v := .d (.lit (.bool ((!decide (x12 = (-1))))))) (aA rfl) (aC hS rfl) rfl)),
      fun S hS => aB rfl (aG rfl rfl (aA rfl) (aD hS rfl) c18 (aE (v := .d (.lit (.int .i64 round_2))) (aA rfl) (aC hS rfl) rfl)),
      fun S hS => aB rfl (aG rfl rfl (aA rfl) (aD hS rfl) c18 (aE (v := .d (.lit (.int .i64 t33_0_8))) (aA rfl) (aC hS rfl) rfl)),
      fun S hS => aB rfl (aG rfl rfl (aA rfl) (aD hS rfl) c18 (gN (aA rfl) (.func _ _ Try.call45) (ev2 (aC hS rfl) (ev2 (aC hS rfl) evn)) rfl (lR _ _ h20))),
      fun S hS => aB rfl (aG rfl rfl (aA rfl) (aD hS rfl) c18 (bW (aA rfl) (aC hS rfl) (i := 0) rfl jI (es := (aN r2.2.1)) rfl rfl)),
      fun S hS => aB rfl (aG rfl rfl (aA rfl) (aD hS rfl) c18 (yX (a := r19) (b := r2.2.1) (aA rfl) (aC hS rfl) (aC hS rfl) rfl rfl Try.eqGuardType70 xT)),
      fun S hS => aB rfl (aR rfl (bO (v := .d (.lit (.bool ((decide (r19 = r2.2.1)))))) (aA rfl) (aC hS rfl) c18 (aC hS rfl) rfl)),
      fun S hS => aB rfl (aR rfl (aE (v := .d (.lit (.bool (decide (r19 = r2.2.1))))) (aA rfl) (aC hS rfl) rfl)),
      fun S hS => aB rfl (aM rfl rfl (aA rfl) rfl (aA rfl) (aD hS rfl) c23),
      fun S hS => aB rfl (aM rfl rfl (aA rfl) rfl (aA rfl) (aD hS rfl) c23),
      fun S hS => aB rfl (aM rfl rfl (aA rfl) rfl (aA rfl) (aD hS rfl) c23),
      fun S hS => aB rfl (aM rfl rfl (aA rfl) rfl (aA rfl) (aD hS rfl) c23),
      fun S hS => aB rfl (aM rfl rfl (aA rfl) rfl (aA rfl) (aD hS rfl) c23),
      fun S hS => aB rfl (aR rfl (bH (v := .d (.lit (.bool false))) (aA rfl) (aC hS rfl) c23 rfl rfl)), trivial⟩⟩
      · exact cL (aX rfl (bF ⟨rfl, rfl, rfl, rfl, rfl, rfl, rfl, rfl, trivial⟩))
    ·have h17 := bB c18 h17
     have h17 := Option.some.inj h17
     subst h17
     have c23 : false = false := rfl
     have h22 := bB c23 h22
     have h22 := Option.some.inj h22
     subst h22
     refine ⟨[(38, 0, .d (.lit (.int .i64 x12))), (39, 1, .d (.lit (.bool ((!decide (x12 = (-1))))))), (40, 2, .d (.lit (.bool ((!decide (x12 = (-1))))))), (41, 3, .tup []), (42, 4, .tup []), (43, 5, .tup []), (44, 6, .tup []), (45, 7, .tup []), (46, 8, .d (.lit (.bool false))), (47, 9, .d (.lit (.bool (false)))), (48, 10, .tup []), (49, 11, .tup []), (50, 12, .tup []), (51, 13, .tup []), (52, 14, .tup []), (53, 15, .d (.lit (.bool false)))], ?_, ?_⟩
     · exact ⟨by kernel_rfl, by kernel_rfl, by kernel_rfl, by kernel_rfl, by kernel_rfl, [([], []), ([0], []), ([1], []), ([2], []), ([2], []), ([2, 3, 4], []), ([2], []), ([2, 5, 6], []), ([2, 7], []), ([8], []), ([9], []), ([9], []), ([9, 10, 11], []), ([9], []), ([9, 12, 13], []), ([9, 14], [])], by kernel_rfl, ⟨fun S hS => aB rfl (aR rfl (aE (v := .d (.lit (.int .i64 x12))) (aA rfl) (aC hS rfl) rfl)),
      fun S hS => aB rfl (aR rfl (bE (aA rfl) (aC hS rfl) rfl rfl)),
      fun S hS => aB rfl (aR rfl (aE (v := .d (.lit (.bool ((!decide (x12 = (-1))))))) (aA rfl) (aC hS rfl) rfl)),
      fun S hS => aB rfl (aM rfl rfl (aA rfl) rfl (aA rfl) (aD hS rfl) c18),
      fun S hS => aB rfl (aM rfl rfl (aA rfl) rfl (aA rfl) (aD hS rfl) c18),
      fun S hS => aB rfl (aM rfl rfl (aA rfl) rfl (aA rfl) (aD hS rfl) c18),
      fun S hS => aB rfl (aM rfl rfl (aA rfl) rfl (aA rfl) (aD hS rfl) c18),
      fun S hS => aB rfl (aM rfl rfl (aA rfl) rfl (aA rfl) (aD hS rfl) c18),
      fun S hS => aB rfl (aR rfl (bH (v := .d (.lit (.bool false))) (aA rfl) (aC hS rfl) c18 rfl rfl)),
      fun S hS => aB rfl (aR rfl (aE (v := .d (.lit (.bool (false)))) (aA rfl) (aC hS rfl) rfl)),
      fun S hS => aB rfl (aM rfl rfl (aA rfl) rfl (aA rfl) (aD hS rfl) c23),
      fun S hS => aB rfl (aM rfl rfl (aA rfl) rfl (aA rfl) (aD hS rfl) c23),
      fun S hS => aB rfl (aM rfl rfl (aA rfl) rfl (aA rfl) (aD hS rfl) c23),
      fun S hS => aB rfl (aM rfl rfl (aA rfl) rfl (aA rfl) (aD hS rfl) c23),
      fun S hS => aB rfl (aM rfl rfl (aA rfl) rfl (aA rfl) (aD hS rfl) c23),
      fun S hS => aB rfl (aR rfl (bH (v := .d (.lit (.bool false))) (aA rfl) (aC hS rfl) c23 rfl rfl)), trivial⟩⟩
     · exact cL (aX rfl (bF ⟨rfl, rfl, rfl, rfl, rfl, rfl, rfl, rfl, trivial⟩))
   ·refine aJ ?_
    refine cR (aIm (enc := bG) (k := 10) rfl h15) ?_
    refine bY rfl (fun c26 => ?_) (fun c26 => ?_)
    ·have h := eN c26 h
     refine aH ?_
     refine tr1 rfl (aE (v := .d (.lit w9)) (aA rfl) rfl rfl) ?_
     refine tr1 rfl (aE (v := .d (.lit (.int .i64 x12))) (aA rfl) rfl rfl) ?_
     refine tr1 rfl (gM (aA rfl) bP rfl rfl (rows := ([x12]).map aO) rfl (dV (f := aO) fun _ => rfl) rfl (by decide)) ?_
     obtain ⟨x27, h28, h⟩ := dM h
     refine cE rfl (gC (i := 1) (aA rfl) bP rfl rfl rfl (fun _ => rfl) h28 rfl) ?_
     rintro _ ⟨v29, rfl⟩
     refine tr1 rfl (aL (v := .d (.lit v29)) (aA rfl) rfl rfl) ?_
     refine eY ?_
     refine aH ?_
     refine tr1 rfl (bL (aA rfl) rfl rfl rfl) ?_
     refine tr1 rfl (aE (v := .d (.lit (.int .i64 ((w64 (t33_0_8 + 1)))))) (aA rfl) rfl rfl) ?_
     refine aJ ?_
     exact ⟨(w64 (t33_0_8 + 1), x27, v29), h, bK [0, 1] rfl rfl (aX rfl (aX rfl (bF ⟨rfl, rfl, rfl, rfl, rfl, trivial⟩)))⟩
    ·have h := eM c26 h
     refine eH ?_
     refine aH ?_
     refine tr1 rfl (bL (aA rfl) rfl rfl rfl) ?_
     refine tr1 rfl (aE (v := .d (.lit (.int .i64 ((w64 (t33_0_8 + 1)))))) (aA rfl) rfl rfl) ?_
     refine aJ ?_
     exact ⟨(w64 (t33_0_8 + 1), out_0_8, w9), h, bK [0, 1] rfl rfl (aX rfl (aX rfl (bF ⟨rfl, rfl, rfl, rfl, rfl, trivial⟩)))⟩
  ·have h := eM c11 h
   refine dB ?_
   refine .inl ⟨rfl, ?_⟩
   simp only [rS] at h
   refine aK ?_
   refine aH ?_
   refine tr1 rfl (aE (v := .d (.lit w9)) (aA rfl) rfl rfl) ?_
   obtain ⟨r30, h31, h⟩ := dM h
   refine lP (bK [1, 0] rfl rfl (le_refl _)) ?_
   refine cE rfl (tP (passed := [.arr w9 3 1 (out_0_8.map aO)]) (aA rfl) rfl (.func _ _ Try.call47) rfl rfl (zF out_0_8 h31)) ?_
   rintro _ ⟨_, _, ⟨rfl, rfl⟩, rfl⟩
   refine aJ ?_
   refine aK ?_
   refine aH ?_
   refine tr1 rfl (aE (v := .d (.lit w9)) (aA rfl) rfl rfl) ?_
   refine tr1 rfl (aL (v := .d (.lit w9)) (aA rfl) rfl rfl) ?_
   refine tr1 rfl (aL (v := .d (.lit (.int .i64 0))) (aA rfl) rfl rfl) ?_
   refine aJ ?_
   exact bV ⟨rfl, _, [], [.arr w9 3 1 (r30.map aO), .box b3 0 (aN r2.2.1)], _, .two (.tmp 8 (v := .d (.lit w9)) rfl) (.tmp 9 (v := .d (.lit (.int .i64 0))) rfl), .refl _, tR (.cons (.d (mH 0 rfl (dV (f := aO) fun _ => rfl))) (.cons (.same _) .nil)), (r30, 0), h, rfl, rfl⟩

theorem aBv (t_0 : aT) (l_1 : List aI) {Q : (Int × Int) → Prop} (h : oL t_0 l_1 Q) : fE Try.prog 34 [.agg (aY t_0), .d (.sl 5 (l_1.map aP))] [] (fun r' o' => ∃ (r : Int × Int), Q r ∧ r' = .tup [.d (.lit (.int .i64 r.1)), .d (.lit (.int .i64 r.2))] ∧ o' = []) := by
 unfold oL at h
 refine gX Try.func34 rfl (rs := [.tmp 4, .tmp 5]) Try.results34 Try.ntmps34 (Nat.le_of_ble_eq_true rfl) ?_
 refine aK ?_
 refine aH ?_
 refine cE rfl (gL (v := .agg (aY t_0)) (aA rfl) rfl rfl rfl) ?_
 rintro _ ⟨b1, rfl⟩
 refine tr1 rfl (aL (v := .d (.lit (.int .i64 0))) (aA rfl) rfl rfl) ?_
 refine tr1 rfl (aL (v := .d (.lit (.int .i64 0))) (aA rfl) rfl rfl) ?_
 refine aJ ?_
 refine aK ?_
 refine aH ?_
 refine tr1 rfl (bW (aA rfl) rfl (i := 0) rfl dX (es := (aY t_0)) rfl rfl) ?_
 refine tr1 rfl (aE (v := .d (.sl 5 (l_1.map aP))) (aA rfl) rfl rfl) ?_
 refine cE rfl (nY (aA rfl) (.func _ _ Try.call48) rfl rfl (pE _ _ h)) ?_
 rintro _ ⟨_, _, ⟨r2, h, rfl, rfl⟩, rfl⟩
 refine tr1 rfl (aE (v := .tup [cV bG r2.1, .d (.lit (.int .i64 r2.2))]) (aA rfl) rfl rfl) ?_
 refine tr1 rfl (bX (aA rfl) rfl rfl) ?_
 refine tr1 rfl (bX (aA rfl) rfl rfl) ?_
 refine tr1 rfl (aL (v := cV bG r2.1) (aA rfl) rfl rfl) ?_
 refine tr1 rfl (aL (v := .d (.lit (.int .i64 r2.2))) (aA rfl) rfl rfl) ?_
 refine aJ ?_
 refine aK ?_
 refine aK ?_
 refine aH ?_
 refine tr1 rfl (aE (v := .d (.lit (.int .i64 r2.2))) (aA rfl) rfl rfl) ?_
 refine tr1 rfl (bE (aA rfl) rfl rfl rfl) ?_
 refine aJ ?_
 refine bY rfl (fun c3 => ?_) (fun c3 => ?_)
 ·have h := eN c3 h
  refine aK ?_
  refine aH ?_
  refine tr1 rfl (aE (v := .d (.lit (.int .i64 r2.2))) (aA rfl) rfl rfl) ?_
  refine tr1 rfl (aL (v := .d (.lit (.int .i64 0))) (aA rfl) rfl rfl) ?_
  refine tr1 rfl (aL (v := .d (.lit (.int .i64 r2.2))) (aA rfl) rfl rfl) ?_
  refine aJ ?_
  exact bV ⟨rfl, _, [], [.box b1 0 (aY t_0)], _, .two (.tmp 4 (v := .d (.lit (.int .i64 0))) rfl) (.tmp 5 (v := .d (.lit (.int .i64 r2.2))) rfl), .refl _, .same _, (0, r2.2), h, rfl, rfl⟩
 ·have h := eM c3 h
  refine bU ?_
  refine aK ?_
  obtain ⟨x4, h5, h⟩ := dM h
  obtain ⟨x6, h7, h⟩ := dM h
  refine dN mix 12 [] [(23, .d (.lit (.int .i64 ((w64 ((x4.Tree.Slots.length : Int) - 1)))))), (28, .d (.lit (.int .i64 ((((x6.won.map fun p : aF × Int => ((fun a : aF => Value.agg ((aN a).map bQ).toArray) p.1, aO p.2))).length : Int)))))] ?_ ?_
  ·refine ⟨[(17, 0, cV bG r2.1), (18, 1, .cp [.lit (.int .i64 x4.Tree.Rounds), .sl 1 (x4.Tree.Slots.map aO), .sl 1 (x4.players.map aO), .mp false (x4.won.map fun p : aF × Int => ((fun a : aF => Value.agg ((aN a).map bQ).toArray) p.1, aO p.2))]), (19, 2, .cp [.lit (.int .i64 x4.Tree.Rounds), .sl 1 (x4.Tree.Slots.map aO)]), (20, 3, .cp [.sl 1 (x4.Tree.Slots.map aO)]), (21, 4, .d (.sl 1 (x4.Tree.Slots.map aO))), (22, 5, .d (.lit (.int .i64 ((x4.Tree.Slots.length : Int))))), (23, 6, .d (.lit (.int .i64 ((w64 ((x4.Tree.Slots.length : Int) - 1)))))), (24, 7, cV bG r2.1), (25, 8, .cp [.lit (.int .i64 x6.Tree.Rounds), .sl 1 (x6.Tree.Slots.map aO), .sl 1 (x6.players.map aO), .mp false (x6.won.map fun p : aF × Int => ((fun a : aF => Value.agg ((aN a).map bQ).toArray) p.1, aO p.2))]), (26, 9, .cp [.mp false (x6.won.map fun p : aF × Int => ((fun a : aF => Value.agg ((aN a).map bQ).toArray) p.1, aO p.2))]), (27, 10, .d (.mp false (x6.won.map fun p : aF × Int => ((fun a : aF => Value.agg ((aN a).map bQ).toArray) p.1, aO p.2)))), (28, 11, .d (.lit (.int .i64 ((((x6.won.map fun p : aF × Int => ((fun a : aF => Value.agg ((aN a).map bQ).toArray) p.1, aO p.2))).length : Int)))))], ?_, ?_⟩
   · exact ⟨by kernel_rfl, by kernel_rfl, by kernel_rfl, by kernel_rfl, by kernel_rfl, [([], []), ([0], []), ([1], []), ([2], []), ([3], []), ([4], []), ([5], []), ([], []), ([7], []), ([8], []), ([9], []), ([10], [])], by kernel_rfl, ⟨fun S hS => aB rfl (aR rfl (aE (v := cV bG r2.1) (aA rfl) (aC hS rfl) rfl)),
      fun S hS => aB rfl (aR rfl (pQ (enc := bG) (aA rfl) (aC hS rfl) h5)),
      fun S hS => aB rfl (aR rfl (cW (aA rfl) (aC hS rfl) oV (es := [.lit (.int .i64 x4.Tree.Rounds), .sl 1 (x4.Tree.Slots.map aO)]) rfl)),
      fun S hS => aB rfl (aR rfl (cW (aA rfl) (aC hS rfl) dZ (es := [.sl 1 (x4.Tree.Slots.map aO)]) rfl)),
      fun S hS => aB rfl (aR rfl (bC (aA rfl) (aC hS rfl) cU)),
      fun S hS => aB rfl (aR rfl (dR (aA rfl) (aC hS rfl) bP.of)),
      fun S hS => aB rfl (aR rfl (bL (aA rfl) (aC hS rfl) rfl rfl)),
      fun S hS => aB rfl (aR rfl (aE (v := cV bG r2.1) (aA rfl) (aC hS rfl) rfl)),
      fun S hS => aB rfl (aR rfl (pQ (enc := bG) (aA rfl) (aC hS rfl) h7)),
      fun S hS => aB rfl (aR rfl (cW (aA rfl) (aC hS rfl) qG (es := [.mp false (x6.won.map fun p : aF × Int => ((fun a : aF => Value.agg ((aN a).map bQ).toArray) p.1, aO p.2))]) rfl)),
      fun S hS => aB rfl (aR rfl (bC (aA rfl) (aC hS rfl) uB)),
      fun S hS => aB rfl (aR rfl (aFu (aA rfl) Try.underlying73 (aC hS rfl) rfl)), trivial⟩⟩
   · exact cL (aX rfl (aX rfl (bF trivial)))
  ·refine tr1 rfl (bL (aA rfl) rfl rfl rfl) ?_
   refine tr1 rfl (aL (v := .d (.lit (.int .i64 ((w64 ((w64 ((x4.Tree.Slots.length : Int) - 1)) - (((x6.won.map fun p : aF × Int => ((fun a : aF => Value.agg ((aN a).map bQ).toArray) p.1, aO p.2))).length : Int))))))) (aA rfl) rfl rfl) ?_
   refine tr1 rfl (aL (v := .d (.lit (.int .i64 0))) (aA rfl) rfl rfl) ?_
   refine aJ ?_
   exact bV ⟨rfl, _, [], [.box b1 0 (aY t_0)], _, .two (.tmp 4 (v := .d (.lit (.int .i64 ((w64 ((w64 ((x4.Tree.Slots.length : Int) - 1)) - (((x6.won.map fun p : aF × Int => ((fun a : aF => Value.agg ((aN a).map bQ).toArray) p.1, aO p.2))).length : Int))))))) rfl) (.tmp 5 (v := .d (.lit (.int .i64 0))) rfl), .refl _, .same _, (w64 ((w64 ((x4.Tree.Slots.length : Int) - 1)) - (((x6.won.map fun p : aF × Int => ((fun a : aF => Value.agg ((aN a).map bQ).toArray) p.1, aO p.2))).length : Int)), 0), h, rfl, rfl⟩

theorem aDb (t_0 : aT) (l_1 : List aI) (players_2 : List Int) {Q : ((Option bI) × (List Int) × Int) → Prop} (h : mK t_0 l_1 players_2 Q) : fE Try.prog 49 [.agg (aY t_0), .d (.sl 5 (l_1.map aP)), .d (.sl 1 (players_2.map aO))] [] (fun r' o' => ∃ (r : (Option bI) × (List Int) × Int), Q r ∧ r' = .tup [cV bG r.1, .d (.sl 1 (r.2.1.map aO)), .d (.lit (.int .i64 r.2.2))] ∧ o' = []) := by
 unfold mK at h
 refine gX Try.func49 rfl (rs := [.tmp 6, .tmp 7, .tmp 8]) Try.results49 Try.ntmps49 (Nat.le_of_ble_eq_true rfl) ?_
 refine aK ?_
 refine aH ?_
 refine cE rfl (gL (v := .agg (aY t_0)) (aA rfl) rfl rfl rfl) ?_
 rintro _ ⟨b1, rfl⟩
 refine tr1 rfl (aL (v := cV bG (none : Option bI)) (aA rfl) rfl rfl) ?_
 refine tr1 rfl (jE 3 1 (.inl rfl) (aA rfl)) ?_
 refine tr1 rfl (aL (v := .d (.lit (.int .i64 0))) (aA rfl) rfl rfl) ?_
 refine aJ ?_
 refine aK ?_
 refine aH ?_
 refine tr1 rfl (bW (aA rfl) rfl (i := 0) rfl dX (es := (aY t_0)) rfl rfl) ?_
 refine tr1 rfl (aE (v := .d (.sl 5 (l_1.map aP))) (aA rfl) rfl rfl) ?_
 refine cE rfl (nY (aA rfl) (.func _ _ Try.call48) rfl rfl (pE _ _ h)) ?_
 rintro _ ⟨_, _, ⟨r3, h, rfl, rfl⟩, rfl⟩
 refine tr1 rfl (aE (v := .tup [cV bG r3.1, .d (.lit (.int .i64 r3.2))]) (aA rfl) rfl rfl) ?_
 refine tr1 rfl (bX (aA rfl) rfl rfl) ?_
 refine tr1 rfl (bX (aA rfl) rfl rfl) ?_
 refine tr1 rfl (aL (v := cV bG r3.1) (aA rfl) rfl rfl) ?_
 refine tr1 rfl (aL (v := .d (.lit (.int .i64 r3.2))) (aA rfl) rfl rfl) ?_
 refine aJ ?_
 refine aK ?_
 refine aK ?_
 refine aH ?_
 refine tr1 rfl (aE (v := .d (.lit (.int .i64 r3.2))) (aA rfl) rfl rfl) ?_
 refine tr1 rfl (bE (aA rfl) rfl rfl rfl) ?_
 refine aJ ?_
 refine bY rfl (fun c4 => ?_) (fun c4 => ?_)
 ·have h := eN c4 h
  refine aK ?_
  refine aH ?_
  refine tr1 rfl (aE (v := .d (.lit (.int .i64 r3.2))) (aA rfl) rfl rfl) ?_
  refine tr1 rfl (aL (v := cV bG (none : Option bI)) (aA rfl) rfl rfl) ?_
  refine tr1 rfl (jE 3 1 (.inl rfl) (aA rfl)) ?_
  refine tr1 rfl (aL (v := .d (.lit (.int .i64 r3.2))) (aA rfl) rfl rfl) ?_
  refine aJ ?_
  exact bV ⟨rfl, _, [], [.box b1 0 (aY t_0), .arr (.slice none 0 0) 3 1 (([] : List Int).map aO), .arr (.slice none 0 0) 3 1 (([] : List Int).map aO)], _, .three (.tmp 6 (v := cV bG (none : Option bI)) rfl) (.tmp 7 (v := .d (.lit (.slice none 0 0))) rfl) (.tmp 8 (v := .d (.lit (.int .i64 r3.2))) rfl), .refl _, tR (.cons (.same _) (.cons (.d (mH 2 rfl (dV (f := aO) fun _ => rfl))) (.cons (.same _) .nil))), ((none : Option bI), ([] : List Int), r3.2), h, rfl, rfl⟩
 ·have h := eM c4 h
  refine bU ?_
  refine aK ?_
  refine aK ?_
  refine aH ?_
  refine tr1 rfl (aE (v := .d (.sl 1 (players_2.map aO))) (aA rfl) rfl rfl) ?_
  refine tr1 rfl (dR (aA rfl) rfl bP.of) ?_
  refine tr1 rfl (aE (v := .d (.lit (.int .i64 0))) (aA rfl) rfl rfl) ?_
  refine aJ ?_
  refine cF ?_
  refine oZ [20, 21] (fun (s6 : (Option bI) × Int × (List Int) × Value) => [(6, cV bG s6.1), (7, .d (.lit s6.2.2.2)), (22, .d (.lit (.int .i64 s6.2.1)))]) (fun (s6 : (Option bI) × Int × (List Int) × Value) => [.arr s6.2.2.2 3 1 (s6.2.2.1.map aO)]) (fun (k : Nat) (s6 : (Option bI) × Int × (List Int) × Value) => kH Q players_2 (players_2.length : Int) k s6.1 s6.2.1 s6.2.2.1) (fun _ h => h) (r3.1, 0, ([] : List Int), (.slice none 0 0)) h (bK [1] rfl rfl (aX rfl (aX rfl (aX rfl (bF ⟨rfl, rfl, trivial⟩))))) ?_
  rintro k8 ⟨d_0_6, t22_0_6, slots_0_6, w7⟩ h
  simp only [kH] at h
  refine aK ?_
  refine aH ?_
  refine tr1 rfl (bE (aA rfl) rfl rfl rfl) ?_
  refine aJ ?_
  refine aK ?_
  refine bY rfl (fun c9 => ?_) (fun c9 => ?_)
  ·have h := eN c9 h
   refine bU ?_
   refine aK ?_
   refine cF ?_
   refine aK ?_
   refine aH ?_
   obtain ⟨x10, h11, h⟩ := dM h
   refine tr1 rfl (bA (aA rfl) rfl rfl bP.of (bJ aO h11)) ?_
   refine tr1 rfl (bC (aA rfl) rfl aZ) ?_
   refine tr1 rfl (aL (v := .d (.lit (.int .i64 x10))) (aA rfl) rfl rfl) ?_
   refine aJ ?_
   refine aK ?_
   refine aK ?_
   refine aH ?_
   refine tr1 rfl (aE (v := .d (.lit (.int .i64 x10))) (aA rfl) rfl rfl) ?_
   obtain ⟨r12, h13, h⟩ := dM h
   refine tr1 rfl (cZ (aA rfl) (.func _ _ Try.call72) rfl rfl (BVs.refl _ _) (eS _ _ _ h13) rfl) ?_
   refine tr1 rfl (fJ (aA rfl) rfl) ?_
   refine aJ ?_
   refine bY rfl (fun c14 => ?_) (fun c14 => ?_)
   ·have h := eN c14 h
    refine aK ?_
    refine aH ?_
    refine tr1 rfl (aL (v := cV bG (none : Option bI)) (aA rfl) rfl rfl) ?_
    refine tr1 rfl (jE 3 1 (.inl rfl) (aA rfl)) ?_
    refine tr1 rfl (aL (v := .d (.lit (.int .i64 1))) (aA rfl) rfl rfl) ?_
    refine aJ ?_
    exact bV ⟨rfl, _, [], [.arr w7 3 1 (slots_0_6.map aO), .arr (.slice none 0 0) 3 1 (([] : List Int).map aO)], _, .three (.tmp 6 (v := cV bG (none : Option bI)) rfl) (.tmp 7 (v := .d (.lit (.slice none 0 0))) rfl) (.tmp 8 (v := .d (.lit (.int .i64 1))) rfl), .refl _, tR (.cons (.same _) (.cons (.d (mH 1 rfl (dV (f := aO) fun _ => rfl))) (.cons (.same _) .nil))), ((none : Option bI), ([] : List Int), 1), h, rfl, rfl⟩
   ·have h := eM c14 h
    refine bU ?_
    refine aH ?_
    refine tr1 rfl (aE (v := .d (.lit w7)) (aA rfl) rfl rfl) ?_
    refine tr1 rfl (aE (v := cV bG d_0_6) (aA rfl) rfl rfl) ?_
    obtain ⟨x16, h17, h⟩ := dM h
    refine tr1 rfl (pQ (enc := bG) (aA rfl) rfl h17) ?_
    refine tr1 rfl (cW (aA rfl) rfl lF (es := [.sl 1 (x16.players.map aO)]) rfl) ?_
    refine tr1 rfl (bC (aA rfl) rfl cU) ?_
    refine tr1 rfl (aE (v := .d (.lit (.int .i64 x10))) (aA rfl) rfl rfl) ?_
    obtain ⟨r18, h19, h⟩ := dM h
    refine tr1 rfl (cZ (aA rfl) (.func _ _ Try.call73) rfl rfl (BVs.refl _ _) (oY _ _ h19) rfl) ?_
    refine tr1 rfl (gM (aA rfl) bP rfl rfl (rows := ([r18]).map aO) rfl (dV (f := aO) fun _ => rfl) rfl (by decide)) ?_
    obtain ⟨x20, h21, h⟩ := dM h
    refine cE rfl (gC (i := 0) (aA rfl) bP rfl rfl rfl (fun _ => rfl) h21 rfl) ?_
    rintro _ ⟨v22, rfl⟩
    refine tr1 rfl (aL (v := .d (.lit v22)) (aA rfl) rfl rfl) ?_
    refine eY ?_
    refine aH ?_
    refine tr1 rfl (bL (aA rfl) rfl rfl rfl) ?_
    refine tr1 rfl (aE (v := .d (.lit (.int .i64 ((w64 (t22_0_6 + 1)))))) (aA rfl) rfl rfl) ?_
    refine aJ ?_
    exact ⟨(d_0_6, w64 (t22_0_6 + 1), x20, v22), h, bK [0] rfl rfl (aX rfl (aX rfl (aX rfl (bF ⟨rfl, rfl, trivial⟩))))⟩
  ·have h := eM c9 h
   refine dB ?_
   refine .inl ⟨rfl, ?_⟩
   simp only [rT] at h
   refine aK ?_
   refine aH ?_
   refine tr1 rfl (aE (v := cV bG d_0_6) (aA rfl) rfl rfl) ?_
   refine tr1 rfl (aE (v := .d (.lit w7)) (aA rfl) rfl rfl) ?_
   refine tr1 rfl (aL (v := cV bG d_0_6) (aA rfl) rfl rfl) ?_
   refine tr1 rfl (aL (v := .d (.lit w7)) (aA rfl) rfl rfl) ?_
   refine tr1 rfl (aL (v := .d (.lit (.int .i64 0))) (aA rfl) rfl rfl) ?_
   refine aJ ?_
   exact bV ⟨rfl, _, [], [.arr w7 3 1 (slots_0_6.map aO)], _, .three (.tmp 6 (v := cV bG d_0_6) rfl) (.tmp 7 (v := .d (.lit w7)) rfl) (.tmp 8 (v := .d (.lit (.int .i64 0))) rfl), .refl _, tR (.cons (.same _) (.cons (.d (mH 0 rfl (dV (f := aO) fun _ => rfl))) (.cons (.same _) .nil))), (d_0_6, slots_0_6, 0), h, rfl, rfl⟩

theorem xO (d_0 : bI) (slot_1 : Int) {r : Int} (h : lQ d_0 slot_1 = some r) : Fn Try.prog 50 [.cp (bG d_0), .d (.lit (.int .i64 slot_1))] (.d (.lit (.int .i64 r))) := by
 unfold lQ at h
 refine Fn.of_tr Try.func50 rfl (rs := [.tmp 4]) Try.results50 Try.ntmps50 (Nat.le_of_ble_eq_true rfl) ?_
 refine aK ?_
 refine aH ?_
 refine tr1 rfl (aL (v := .d (.lit (.int .i64 0))) (aA rfl) rfl rfl) ?_
 refine aJ ?_
 refine aK ?_
 refine aK ?_
 refine aH ?_
 refine tr1 rfl (aE (v := .cp [.lit (.int .i64 d_0.Tree.Rounds), .sl 1 (d_0.Tree.Slots.map aO), .sl 1 (d_0.players.map aO), .mp false (d_0.won.map fun p : aF × Int => ((fun a : aF => Value.agg ((aN a).map bQ).toArray) p.1, aO p.2))]) (aA rfl) rfl rfl) ?_
 refine tr1 rfl (iF (aA rfl) rfl) ?_
 refine tr1 rfl (cW (aA rfl) rfl oV (es := [.lit (.int .i64 d_0.Tree.Rounds), .sl 1 (d_0.Tree.Slots.map aO)]) rfl) ?_
 refine tr1 rfl (cW (aA rfl) rfl gK (es := [.lit (.int .i64 d_0.Tree.Rounds)]) rfl) ?_
 refine tr1 rfl (bC (aA rfl) rfl aZ) ?_
 refine tr1 rfl (aE (v := .d (.lit (.int .i64 0))) (aA rfl) rfl rfl) ?_
 refine aJ ?_
 refine cF ?_
 refine dJ [0, 1, 12] (fun (s1 : Int) => [(13, .d (.lit (.int .i64 s1)))]) (fun (s1 : Int) => []) (fun (k : Nat) (s1 : Int) => gT d_0 slot_1 d_0.Tree.Rounds k s1) (fun _ => rfl) (0) h (bK [] rfl rfl (aX rfl (bF ⟨rfl, rfl, rfl, trivial⟩))) ?_
 rintro k2 t13_0_1 h
 simp only [gT] at h
 refine aK ?_
 refine aH ?_
 refine tr1 rfl (bE (aA rfl) rfl rfl rfl) ?_
 refine aJ ?_
 refine aK ?_
 refine bY rfl (fun c3 => ?_) (fun c3 => ?_)
 ·have h := bD c3 h
  refine bU ?_
  refine aK ?_
  refine cF ?_
  refine aK ?_
  refine aH ?_
  refine tr1 rfl (aE (v := .d (.lit (.int .i64 t13_0_1))) (aA rfl) rfl rfl) ?_
  refine tr1 rfl (aL (v := .d (.lit (.int .i64 t13_0_1))) (aA rfl) rfl rfl) ?_
  refine aJ ?_
  refine aK ?_
  obtain ⟨r4, h5, h⟩ := bind_some h
  refine dN mix 12 [0, 1, 5, 12, 13] [(6, .d (.lit (.int .i64 ((cN r4 0 d_0.won))))), (26, .d (.lit (.bool ((cY r4 d_0.won)))))] ?_ ?_
  ·refine ⟨[(17, 0, .cp [.lit (.int .i64 d_0.Tree.Rounds), .sl 1 (d_0.Tree.Slots.map aO), .sl 1 (d_0.players.map aO), .mp false (d_0.won.map fun p : aF × Int => ((fun a : aF => Value.agg ((aN a).map bQ).toArray) p.1, aO p.2))]), (18, 1, .cp [.lit (.int .i64 d_0.Tree.Rounds), .sl 1 (d_0.Tree.Slots.map aO), .sl 1 (d_0.players.map aO), .mp false (d_0.won.map fun p : aF × Int => ((fun a : aF => Value.agg ((aN a).map bQ).toArray) p.1, aO p.2))]), (19, 2, .cp [.mp false (d_0.won.map fun p : aF × Int => ((fun a : aF => Value.agg ((aN a).map bQ).toArray) p.1, aO p.2))]), (20, 3, .d (.mp false (d_0.won.map fun p : aF × Int => ((fun a : aF => Value.agg ((aN a).map bQ).toArray) p.1, aO p.2)))), (21, 4, .d (.lit (.int .i64 t13_0_1))), (22, 5, .d (.lit (.int .i64 slot_1))), (23, 6, .agg (aN r4)), (24, 7, .tup [.d (.lit (.int .i64 ((cN r4 0 d_0.won)))), .d (.lit (.bool ((cY r4 d_0.won))))]), (16, 8, .tup [.d (.lit (.int .i64 ((cN r4 0 d_0.won)))), .d (.lit (.bool ((cY r4 d_0.won))))]), (25, 9, .d (.lit (.int .i64 ((cN r4 0 d_0.won))))), (26, 10, .d (.lit (.bool ((cY r4 d_0.won))))), (6, 11, .d (.lit (.int .i64 ((cN r4 0 d_0.won)))))], ?_, ?_⟩
   · exact ⟨by kernel_rfl, by kernel_rfl, by kernel_rfl, by kernel_rfl, by kernel_rfl, [([], []), ([0], []), ([1], []), ([2], []), ([], []), ([], []), ([4, 5], []), ([3, 6], []), ([7], []), ([8], []), ([8], []), ([9], [])], by kernel_rfl, ⟨fun S hS => aB rfl (aR rfl (aE (v := .cp [.lit (.int .i64 d_0.Tree.Rounds), .sl 1 (d_0.Tree.Slots.map aO), .sl 1 (d_0.players.map aO), .mp false (d_0.won.map fun p : aF × Int => ((fun a : aF => Value.agg ((aN a).map bQ).toArray) p.1, aO p.2))]) (aA rfl) (aC hS rfl) rfl)),
      fun S hS => aB rfl (aR rfl (iF (aA rfl) (aC hS rfl))),
      fun S hS => aB rfl (aR rfl (cW (aA rfl) (aC hS rfl) qG (es := [.mp false (d_0.won.map fun p : aF × Int => ((fun a : aF => Value.agg ((aN a).map bQ).toArray) p.1, aO p.2))]) rfl)),
      fun S hS => aB rfl (aR rfl (bC (aA rfl) (aC hS rfl) uB)),
      fun S hS => aB rfl (aR rfl (aE (v := .d (.lit (.int .i64 t13_0_1))) (aA rfl) (aC hS rfl) rfl)),
      fun S hS => aB rfl (aR rfl (aE (v := .d (.lit (.int .i64 slot_1))) (aA rfl) (aC hS rfl) rfl)),
      fun S hS => aB rfl (aR rfl (gN (aA rfl) (.func _ _ Try.call45) (ev2 (aC hS rfl) (ev2 (aC hS rfl) evn)) rfl (lR _ _ h5))),
      fun S hS => aB rfl (aR rfl (pW (enc := aO) (agg := false) (l := d_0.won) (z := 0) (a := r4) (aA rfl) sP Try.underlying73 Try.zeroValue3 (fun _ _ => .d (.lit _ rfl)) (aC hS rfl) rfl rfl (aC hS rfl) (kU (enc := aN) r4 rfl))),
      fun S hS => aB rfl (aR rfl (aE (v := .tup [.d (.lit (.int .i64 ((cN r4 0 d_0.won)))), .d (.lit (.bool ((cY r4 d_0.won))))]) (aA rfl) (aC hS rfl) rfl)),
      fun S hS => aB rfl (aR rfl (bX (aA rfl) (aC hS rfl) rfl)),
      fun S hS => aB rfl (aR rfl (bX (aA rfl) (aC hS rfl) rfl)),
      fun S hS => aB rfl (aR rfl (aL (v := .d (.lit (.int .i64 ((cN r4 0 d_0.won))))) (aA rfl) (aC hS rfl) rfl)), trivial⟩⟩
   · exact cL (aX rfl (aX rfl (bF ⟨rfl, rfl, rfl, rfl, rfl, trivial⟩)))
  ·refine tr1 rfl (aL (v := .d (.lit (.bool ((cY r4 d_0.won))))) (aA rfl) rfl rfl) ?_
   refine aJ ?_
   refine aK ?_
   refine aH ?_
   refine tr1 rfl (aE (v := .d (.lit (.bool ((cY r4 d_0.won))))) (aA rfl) rfl rfl) ?_
   refine tr1 rfl (fJ (aA rfl) rfl) ?_
   refine tr1 rfl (aE (v := .d (.lit (.bool ((!(cY r4 d_0.won)))))) (aA rfl) rfl rfl) ?_
   obtain ⟨b6, h7, h⟩ := bind_some h
   refine cK 10 [0, 1, 5, 12, 13] 39 b6 ?_ ?_
   ·refine bM (!(cY r4 d_0.won)) (fun c9 => ?_) (fun c9 => ?_)
    ·have h7 := bD c9 h7
     refine aV rfl rfl (aA rfl) rfl (aA rfl) rfl c9 ?_
     refine aV rfl rfl (aA rfl) rfl (aA rfl) rfl c9 ?_
     refine aV rfl rfl (aA rfl) rfl (aA rfl) rfl c9 ?_
     refine aV rfl rfl (aA rfl) rfl (aA rfl) rfl c9 ?_
     refine aV rfl rfl (aA rfl) rfl (aA rfl) rfl c9 ?_
     refine aV rfl rfl (aA rfl) rfl (aA rfl) rfl c9 ?_
     refine aV rfl rfl (aA rfl) rfl (aA rfl) rfl c9 ?_
     refine aV rfl rfl (aA rfl) rfl (aA rfl) rfl c9 ?_
     refine aV rfl rfl (aA rfl) rfl (aA rfl) rfl c9 ?_
     refine tr1 rfl (bO (v := .d (.lit (.bool true))) (aA rfl) rfl c9 rfl rfl) ?_
     have h7 := Option.some.inj h7
     subst h7
     refine aJ (bN rfl ⟨rfl, rfl, rfl, rfl, rfl, trivial⟩ rfl)
    ·have h7 := bB c9 h7
     refine aQ rfl rfl (aA rfl) rfl c9 (aE (v := .d (.lit (.int .i64 ((cN r4 0 d_0.won))))) (aA rfl) rfl rfl) ?_
     refine aQ rfl rfl (aA rfl) rfl c9 (aE (v := .cp [.lit (.int .i64 d_0.Tree.Rounds), .sl 1 (d_0.Tree.Slots.map aO), .sl 1 (d_0.players.map aO), .mp false (d_0.won.map fun p : aF × Int => ((fun a : aF => Value.agg ((aN a).map bQ).toArray) p.1, aO p.2))]) (aA rfl) rfl rfl) ?_
     refine aQ rfl rfl (aA rfl) rfl c9 (iF (aA rfl) rfl) ?_
     refine aQ rfl rfl (aA rfl) rfl c9 (cW (aA rfl) rfl lF (es := [.sl 1 (d_0.players.map aO)]) rfl) ?_
     refine aQ rfl rfl (aA rfl) rfl c9 (bC (aA rfl) rfl cU) ?_
     refine aQ rfl rfl (aA rfl) rfl c9 (aE (v := .d (.lit (.int .i64 slot_1))) (aA rfl) rfl rfl) ?_
     obtain ⟨x10, h11, h7⟩ := bind_some h7
     refine aQ rfl rfl (aA rfl) rfl c9 (bA (aA rfl) rfl rfl bP.of (bJ aO h11)) ?_
     refine aQ rfl rfl (aA rfl) rfl c9 (bC (aA rfl) rfl aZ) ?_
     refine aQ rfl rfl (aA rfl) rfl c9 (bE (aA rfl) rfl rfl rfl) ?_
     refine tr1 rfl (bH (v := .d (.lit (.bool ((!decide ((cN r4 0 d_0.won) = x10)))))) (aA rfl) rfl c9 rfl rfl) ?_
     have h7 := Option.some.inj h7
     subst h7
     refine aJ (bN rfl ⟨rfl, rfl, rfl, rfl, rfl, trivial⟩ rfl)
   ·refine aJ ?_
    refine bY rfl (fun c8 => ?_) (fun c8 => ?_)
    ·have h := bD c8 h
     refine aK ?_
     refine aH ?_
     refine tr1 rfl (aE (v := .d (.lit (.int .i64 t13_0_1))) (aA rfl) rfl rfl) ?_
     refine tr1 rfl (aL (v := .d (.lit (.int .i64 t13_0_1))) (aA rfl) rfl rfl) ?_
     refine aJ ?_
     have h := Option.some.inj h
     subst h
     exact bV ⟨rfl, _, .one _, rfl, rfl⟩
    ·have h := bB c8 h
     refine eH ?_
     refine aH ?_
     refine tr1 rfl (bL (aA rfl) rfl rfl rfl) ?_
     refine tr1 rfl (aE (v := .d (.lit (.int .i64 ((w64 (t13_0_1 + 1)))))) (aA rfl) rfl rfl) ?_
     refine aJ ?_
     exact ⟨(w64 (t13_0_1 + 1)), h, bK [] rfl rfl (aX rfl (bF ⟨rfl, rfl, rfl, trivial⟩))⟩
 ·have h := bB c3 h
  refine dB ?_
  refine .inl ⟨rfl, ?_⟩
  simp only [oA] at h
  refine aK ?_
  refine aH ?_
  refine tr1 rfl (aE (v := .cp [.lit (.int .i64 d_0.Tree.Rounds), .sl 1 (d_0.Tree.Slots.map aO), .sl 1 (d_0.players.map aO), .mp false (d_0.won.map fun p : aF × Int => ((fun a : aF => Value.agg ((aN a).map bQ).toArray) p.1, aO p.2))]) (aA rfl) rfl rfl) ?_
  refine tr1 rfl (iF (aA rfl) rfl) ?_
  refine tr1 rfl (cW (aA rfl) rfl oV (es := [.lit (.int .i64 d_0.Tree.Rounds), .sl 1 (d_0.Tree.Slots.map aO)]) rfl) ?_
  refine tr1 rfl (cW (aA rfl) rfl gK (es := [.lit (.int .i64 d_0.Tree.Rounds)]) rfl) ?_
  refine tr1 rfl (bC (aA rfl) rfl aZ) ?_
  refine tr1 rfl (aL (v := .d (.lit (.int .i64 d_0.Tree.Rounds))) (aA rfl) rfl rfl) ?_
  refine aJ ?_
  have h := Option.some.inj h
  subst h
  exact bV ⟨rfl, _, .one _, rfl, rfl⟩

theorem zD (t_0 : aT) (l_1 : List aI) (player_2 : Int) {Q : (dP × Int) → Prop} (h : mD t_0 l_1 player_2 Q) : fE Try.prog 17 [.agg (aY t_0), .d (.sl 5 (l_1.map aP)), .d (.lit (.int .i64 player_2))] [] (fun r' o' => ∃ (r : dP × Int), Q r ∧ r' = .tup [.agg (dO r.1), .d (.lit (.int .i64 r.2))] ∧ o' = []) := by
 unfold mD at h
 refine gX Try.func17 rfl (rs := [.cell 6 39, .tmp 7]) Try.results17 Try.ntmps17 (Nat.le_of_ble_eq_true rfl) ?_
 refine aK ?_
 refine aH ?_
 refine cE rfl (gL (v := .agg (aY t_0)) (aA rfl) rfl rfl rfl) ?_
 rintro _ ⟨b1, rfl⟩
 refine cE rfl (eD (zs := [.lit (.int .i64 0), .lit (.int .i64 0)]) (aA rfl) Try.zeroValue39 rfl rfl) ?_
 rintro _ ⟨b2, rfl⟩
 refine tr1 rfl (aL (v := .d (.lit (.int .i64 0))) (aA rfl) rfl rfl) ?_
 refine aJ ?_
 refine aK ?_
 refine aH ?_
 refine tr1 rfl (bW (aA rfl) rfl (i := 0) rfl dX (es := (aY t_0)) rfl rfl) ?_
 refine tr1 rfl (aE (v := .d (.sl 5 (l_1.map aP))) (aA rfl) rfl rfl) ?_
 refine tr1 rfl (aE (v := .d (.lit (.int .i64 player_2))) (aA rfl) rfl rfl) ?_
 refine tr1 rfl (gM (aA rfl) bP rfl rfl (rows := ([player_2]).map aO) rfl (dV (f := aO) fun _ => rfl) rfl (by decide)) ?_
 refine cE rfl (nY (aA rfl) (.func _ _ Try.call49) rfl rfl (aDb _ _ _ h)) ?_
 rintro _ ⟨_, _, ⟨r3, h, rfl, rfl⟩, rfl⟩
 refine tr1 rfl (aE (v := .tup [cV bG r3.1, .d (.sl 1 (r3.2.1.map aO)), .d (.lit (.int .i64 r3.2.2))]) (aA rfl) rfl rfl) ?_
 refine tr1 rfl (bX (aA rfl) rfl rfl) ?_
 refine tr1 rfl (bX (aA rfl) rfl rfl) ?_
 refine tr1 rfl (bX (aA rfl) rfl rfl) ?_
 refine tr1 rfl (aL (v := cV bG r3.1) (aA rfl) rfl rfl) ?_
 refine tr1 rfl (aL (v := .d (.sl 1 (r3.2.1.map aO))) (aA rfl) rfl rfl) ?_
 refine tr1 rfl (aL (v := .d (.lit (.int .i64 r3.2.2))) (aA rfl) rfl rfl) ?_
 refine aJ ?_
 refine aK ?_
 refine cF ?_
 refine aK ?_
 refine aH ?_
 refine tr1 rfl (aE (v := .d (.lit (.int .i64 r3.2.2))) (aA rfl) rfl rfl) ?_
 refine tr1 rfl (bE (aA rfl) rfl rfl rfl) ?_
 refine tr1 rfl (aL (v := .d (.lit (.bool ((!decide (r3.2.2 = 0)))))) (aA rfl) rfl rfl) ?_
 refine aJ ?_
 refine bY rfl (fun c4 => ?_) (fun c4 => ?_)
 ·have h := eN c4 h
  refine aK ?_
  refine aH ?_
  refine tr1 rfl (fN (aA rfl) aBt (zs := [.lit (.int .i64 0), .lit (.int .i64 0)]) rfl rfl rfl rfl (es := [.lit (.int .i64 0), .lit (.int .i64 0)]) rfl) ?_
  refine tr1 rfl (aE (v := .d (.lit (.int .i64 r3.2.2))) (aA rfl) rfl rfl) ?_
  refine tr1 rfl (cO (i := 1) rfl rfl rfl rfl rfl Try.sizeOf39 rfl (aA rfl) (Nat.le_of_ble_eq_true rfl) (ds' := (dO (dP.mk 0 0))) rfl) ?_
  refine tr1 rfl (aL (v := .d (.lit (.int .i64 r3.2.2))) (aA rfl) rfl rfl) ?_
  refine aJ ?_
  exact bV ⟨rfl, _, [], [.box b1 0 (aY t_0), .box b2 0 (dO (dP.mk 0 0))], _, .two (.cell 6 39 rfl (i := 1) rfl aAn (es := (dO (dP.mk 0 0))) rfl rfl) (.tmp 7 (v := .d (.lit (.int .i64 r3.2.2))) rfl), .refl _, .same _, ((dP.mk 0 0), r3.2.2), h, rfl, rfl⟩
 ·have h := eM c4 h
  refine aK ?_
  refine aH ?_
  refine tr1 rfl (aE (v := .d (.sl 1 (r3.2.1.map aO))) (aA rfl) rfl rfl) ?_
  obtain ⟨x5, h6, h⟩ := dM h
  refine tr1 rfl (bA (aA rfl) rfl rfl bP.of (bJ aO h6)) ?_
  refine tr1 rfl (bC (aA rfl) rfl aZ) ?_
  refine tr1 rfl (bE (aA rfl) rfl rfl rfl) ?_
  refine tr1 rfl (aL (v := .d (.lit (.bool ((decide (x5 < 0)))))) (aA rfl) rfl rfl) ?_
  refine aJ ?_
  refine bY rfl (fun c7 => ?_) (fun c7 => ?_)
  ·have h := eN c7 h
   refine aK ?_
   refine aH ?_
   refine tr1 rfl (fN (aA rfl) aBt (zs := [.lit (.int .i64 0), .lit (.int .i64 0)]) rfl rfl rfl rfl (es := [.lit (.int .i64 0), .lit (.int .i64 0)]) rfl) ?_
   refine tr1 rfl (cO (i := 1) rfl rfl rfl rfl rfl Try.sizeOf39 rfl (aA rfl) (Nat.le_of_ble_eq_true rfl) (ds' := (dO (dP.mk 0 0))) rfl) ?_
   refine tr1 rfl (aL (v := .d (.lit (.int .i64 3))) (aA rfl) rfl rfl) ?_
   refine aJ ?_
   exact bV ⟨rfl, _, [], [.box b1 0 (aY t_0), .box b2 0 (dO (dP.mk 0 0))], _, .two (.cell 6 39 rfl (i := 1) rfl aAn (es := (dO (dP.mk 0 0))) rfl rfl) (.tmp 7 (v := .d (.lit (.int .i64 3))) rfl), .refl _, .same _, ((dP.mk 0 0), 3), h, rfl, rfl⟩
  ·have h := eM c7 h
   refine eH ?_
   refine aK ?_
   obtain ⟨x8, h9, h⟩ := dM h
   refine cR (aBy (enc := bG) (k := 8) rfl h9) ?_
   obtain ⟨x10, h11, h⟩ := dM h
   obtain ⟨r12, h13, h⟩ := dM h
   obtain ⟨x14, h15, h⟩ := dM h
   refine dN mix 9 [6] [(35, .d (.lit (.int .i64 r12))), (36, .cp [.lit (.int .i64 x8.Tree.Rounds), .sl 1 (x8.Tree.Slots.map aO), .sl 1 (x8.players.map aO), .mp false (x8.won.map fun p : aF × Int => ((fun a : aF => Value.agg ((aN a).map bQ).toArray) p.1, aO p.2))]), (39, .d (.lit (.int .i64 x14)))] ?_ ?_
   ·refine ⟨[(31, 0, .cp [.lit (.int .i64 x8.Tree.Rounds), .sl 1 (x8.Tree.Slots.map aO), .sl 1 (x8.players.map aO), .mp false (x8.won.map fun p : aF × Int => ((fun a : aF => Value.agg ((aN a).map bQ).toArray) p.1, aO p.2))]), (32, 1, .d (.sl 1 (r3.2.1.map aO))), (33, 2, .cp [.lit (.int .i64 x10)]), (34, 3, .d (.lit (.int .i64 x10))), (35, 4, .d (.lit (.int .i64 r12))), (36, 5, .cp [.lit (.int .i64 x8.Tree.Rounds), .sl 1 (x8.Tree.Slots.map aO), .sl 1 (x8.players.map aO), .mp false (x8.won.map fun p : aF × Int => ((fun a : aF => Value.agg ((aN a).map bQ).toArray) p.1, aO p.2))]), (37, 6, .d (.sl 1 (r3.2.1.map aO))), (38, 7, .cp [.lit (.int .i64 x14)]), (39, 8, .d (.lit (.int .i64 x14)))], ?_, ?_⟩
    · exact ⟨by kernel_rfl, by kernel_rfl, by kernel_rfl, by kernel_rfl, by kernel_rfl, [([], []), ([], []), ([1], []), ([2], []), ([0, 3], []), ([], []), ([], []), ([6], []), ([7], [])], by kernel_rfl, ⟨fun S hS => aB rfl (aR rfl (aE (v := .cp [.lit (.int .i64 x8.Tree.Rounds), .sl 1 (x8.Tree.Slots.map aO), .sl 1 (x8.players.map aO), .mp false (x8.won.map fun p : aF × Int => ((fun a : aF => Value.agg ((aN a).map bQ).toArray) p.1, aO p.2))]) (aA rfl) (aC hS rfl) rfl)),
      fun S hS => aB rfl (aR rfl (aE (v := .d (.sl 1 (r3.2.1.map aO))) (aA rfl) (aC hS rfl) rfl)),
      fun S hS => aB rfl (aR rfl (bA (aA rfl) (aC hS rfl) rfl bP.of (bJ aO h11))),
      fun S hS => aB rfl (aR rfl (bC (aA rfl) (aC hS rfl) aZ)),
      fun S hS => aB rfl (aR rfl (cZ (aA rfl) (.func _ _ Try.call50) (ev2 (aC hS rfl) (ev2 (aC hS rfl) evn)) rfl (BVs.refl _ _) (xO _ _ h13) rfl)),
      fun S hS => aB rfl (aR rfl (aE (v := .cp [.lit (.int .i64 x8.Tree.Rounds), .sl 1 (x8.Tree.Slots.map aO), .sl 1 (x8.players.map aO), .mp false (x8.won.map fun p : aF × Int => ((fun a : aF => Value.agg ((aN a).map bQ).toArray) p.1, aO p.2))]) (aA rfl) (aC hS rfl) rfl)),
      fun S hS => aB rfl (aR rfl (aE (v := .d (.sl 1 (r3.2.1.map aO))) (aA rfl) (aC hS rfl) rfl)),
      fun S hS => aB rfl (aR rfl (bA (aA rfl) (aC hS rfl) rfl bP.of (bJ aO h15))),
      fun S hS => aB rfl (aR rfl (bC (aA rfl) (aC hS rfl) aZ)), trivial⟩⟩
    · exact cL (aX rfl (aX rfl (aX rfl (bF ⟨rfl, trivial⟩))))
   ·obtain ⟨r16, h17, h⟩ := dM h
    refine tr1 rfl (cZ (aA rfl) (.func _ _ Try.call46) rfl rfl (BVs.refl _ _) (sJ _ _ h17) rfl) ?_
    refine tr1 rfl (fN (aA rfl) aBt (zs := [.lit (.int .i64 0), .lit (.int .i64 0)]) rfl rfl rfl rfl (es := [.lit (.int .i64 r12), .lit (.int .i64 r16)]) rfl) ?_
    refine tr1 rfl (cO (i := 1) rfl rfl rfl rfl rfl Try.sizeOf39 rfl (aA rfl) (Nat.le_of_ble_eq_true rfl) (ds' := (dO (dP.mk r12 r16))) rfl) ?_
    refine tr1 rfl (aL (v := .d (.lit (.int .i64 0))) (aA rfl) rfl rfl) ?_
    refine aJ ?_
    exact bV ⟨rfl, _, [], [.box b1 0 (aY t_0), .box b2 0 (dO (dP.mk r12 r16))], _, .two (.cell 6 39 rfl (i := 1) rfl aAn (es := (dO (dP.mk r12 r16))) rfl rfl) (.tmp 7 (v := .d (.lit (.int .i64 0))) rfl), .refl _, .same _, ((dP.mk r12 r16), 0), h, rfl, rfl⟩

theorem vJ (a_0 : List Int) (b_1 : List Int) {r : Bool} (h : oB a_0 b_1 = some r) : Fn Try.prog 23 [.d (.sl 1 (a_0.map aO)), .d (.sl 1 (b_1.map aO))] (.d (.lit (.bool r))) := by
 unfold oB at h
 refine Fn.of_tr Try.func23 rfl (rs := [.tmp 4]) Try.results23 Try.ntmps23 (Nat.le_of_ble_eq_true rfl) ?_
 refine aK ?_
 refine aH ?_
 refine tr1 rfl (aL (v := .d (.lit (.bool false))) (aA rfl) rfl rfl) ?_
 refine aJ ?_
 refine aK ?_
 refine aK ?_
 refine aH ?_
 refine tr1 rfl (aE (v := .d (.sl 1 (a_0.map aO))) (aA rfl) rfl rfl) ?_
 refine tr1 rfl (dR (aA rfl) rfl bP.of) ?_
 refine tr1 rfl (aE (v := .d (.sl 1 (b_1.map aO))) (aA rfl) rfl rfl) ?_
 refine tr1 rfl (dR (aA rfl) rfl bP.of) ?_
 refine tr1 rfl (bE (aA rfl) rfl rfl rfl) ?_
 refine aJ ?_
 refine bY rfl (fun c1 => ?_) (fun c1 => ?_)
 ·have h := bD c1 h
  refine aK ?_
  refine aH ?_
  refine tr1 rfl (aL (v := .d (.lit (.bool false))) (aA rfl) rfl rfl) ?_
  refine aJ ?_
  have h := Option.some.inj h
  subst h
  exact bV ⟨rfl, _, .one _, rfl, rfl⟩
 ·have h := bB c1 h
  refine bU ?_
  refine aK ?_
  refine aK ?_
  refine aH ?_
  refine tr1 rfl (aL (v := .d (.lit (.int .i64 0))) (aA rfl) rfl rfl) ?_
  refine aJ ?_
  refine cF ?_
  refine dJ [0, 1] (fun (s2 : Int) => [(5, .d (.lit (.int .i64 s2)))]) (fun (s2 : Int) => []) (fun (k : Nat) (s2 : Int) => kO a_0 b_1 k s2) (fun _ => rfl) (0) h (bK [] rfl rfl (aX rfl (bF ⟨rfl, rfl, trivial⟩))) ?_
  rintro k3 i_0_2 h
  simp only [kO] at h
  refine aK ?_
  refine aK ?_
  refine aH ?_
  refine tr1 rfl (aE (v := .d (.lit (.int .i64 i_0_2))) (aA rfl) rfl rfl) ?_
  refine tr1 rfl (aE (v := .d (.sl 1 (a_0.map aO))) (aA rfl) rfl rfl) ?_
  refine tr1 rfl (dR (aA rfl) rfl bP.of) ?_
  refine tr1 rfl (bE (aA rfl) rfl rfl rfl) ?_
  refine aJ ?_
  refine bY rfl (fun c4 => ?_) (fun c4 => ?_)
  ·have h := bD c4 h
   refine bU ?_
   refine aK ?_
   refine cF ?_
   refine aK ?_
   obtain ⟨x5, h6, h⟩ := bind_some h
   obtain ⟨x7, h8, h⟩ := bind_some h
   refine dN mix 8 [0, 1, 5] [(20, .d (.lit (.int .i64 x5))), (24, .d (.lit (.int .i64 x7)))] ?_ ?_
   ·refine ⟨[(17, 0, .d (.sl 1 (a_0.map aO))), (18, 1, .d (.lit (.int .i64 i_0_2))), (19, 2, .cp [.lit (.int .i64 x5)]), (20, 3, .d (.lit (.int .i64 x5))), (21, 4, .d (.sl 1 (b_1.map aO))), (22, 5, .d (.lit (.int .i64 i_0_2))), (23, 6, .cp [.lit (.int .i64 x7)]), (24, 7, .d (.lit (.int .i64 x7)))], ?_, ?_⟩
    · exact ⟨by kernel_rfl, by kernel_rfl, by kernel_rfl, by kernel_rfl, by kernel_rfl, [([], []), ([], []), ([0, 1], []), ([2], []), ([], []), ([], []), ([4, 5], []), ([6], [])], by kernel_rfl, ⟨fun S hS => aB rfl (aR rfl (aE (v := .d (.sl 1 (a_0.map aO))) (aA rfl) (aC hS rfl) rfl)),
      fun S hS => aB rfl (aR rfl (aE (v := .d (.lit (.int .i64 i_0_2))) (aA rfl) (aC hS rfl) rfl)),
      fun S hS => aB rfl (aR rfl (bA (aA rfl) (aC hS rfl) (aC hS rfl) bP.of (bJ aO h6))),
      fun S hS => aB rfl (aR rfl (bC (aA rfl) (aC hS rfl) aZ)),
      fun S hS => aB rfl (aR rfl (aE (v := .d (.sl 1 (b_1.map aO))) (aA rfl) (aC hS rfl) rfl)),
      fun S hS => aB rfl (aR rfl (aE (v := .d (.lit (.int .i64 i_0_2))) (aA rfl) (aC hS rfl) rfl)),
      fun S hS => aB rfl (aR rfl (bA (aA rfl) (aC hS rfl) (aC hS rfl) bP.of (bJ aO h8))),
      fun S hS => aB rfl (aR rfl (bC (aA rfl) (aC hS rfl) aZ)), trivial⟩⟩
    · exact cL (aX rfl (aX rfl (bF ⟨rfl, rfl, rfl, trivial⟩)))
   ·refine tr1 rfl (bE (aA rfl) rfl rfl rfl) ?_
    refine aJ ?_
    refine bY rfl (fun c9 => ?_) (fun c9 => ?_)
    ·have h := bD c9 h
     refine aK ?_
     refine aH ?_
     refine tr1 rfl (aL (v := .d (.lit (.bool false))) (aA rfl) rfl rfl) ?_
     refine aJ ?_
     have h := Option.some.inj h
     subst h
     exact bV ⟨rfl, _, .one _, rfl, rfl⟩
    ·have h := bB c9 h
     refine eH ?_
     refine aH ?_
     refine tr1 rfl (aE (v := .d (.lit (.int .i64 i_0_2))) (aA rfl) rfl rfl) ?_
     refine tr1 rfl (bL (aA rfl) rfl rfl rfl) ?_
     refine tr1 rfl (aL (v := .d (.lit (.int .i64 ((w64 (i_0_2 + 1)))))) (aA rfl) rfl rfl) ?_
     refine aJ ?_
     exact ⟨(w64 (i_0_2 + 1)), h, bK [] rfl rfl (aX rfl (bF ⟨rfl, rfl, trivial⟩))⟩
  ·have h := bB c4 h
   refine dB ?_
   refine .inl ⟨rfl, ?_⟩
   simp only [pN] at h
   refine aK ?_
   refine aH ?_
   refine tr1 rfl (aL (v := .d (.lit (.bool true))) (aA rfl) rfl rfl) ?_
   refine aJ ?_
   have h := Option.some.inj h
   subst h
   exact bV ⟨rfl, _, .one _, rfl, rfl⟩

theorem fR (n_0 : Int) (low_1 : Int) (high_2 : Int) {r : Bool} (h : eA n_0 low_1 high_2 = some r) : Fn Try.prog 41 [.d (.lit (.int .i64 n_0)), .d (.lit (.int .i64 low_1)), .d (.lit (.int .i64 high_2))] (.d (.lit (.bool r))) := by
 unfold eA at h
 refine Fn.of_tr Try.func41 rfl (rs := [.tmp 6]) Try.results41 Try.ntmps41 (Nat.le_of_ble_eq_true rfl) ?_
 refine aK ?_
 refine aH ?_
 refine tr1 rfl (aL (v := .d (.lit (.bool false))) (aA rfl) rfl rfl) ?_
 refine aJ ?_
 refine aK ?_
 refine aH ?_
 refine tr1 rfl (aE (v := .d (.lit (.int .i64 n_0))) (aA rfl) rfl rfl) ?_
 refine tr1 rfl (aE (v := .d (.lit (.int .i64 low_1))) (aA rfl) rfl rfl) ?_
 refine tr1 rfl (bE (aA rfl) rfl rfl rfl) ?_
 refine tr1 rfl (aE (v := .d (.lit (.bool ((decide (low_1 ≤ n_0)))))) (aA rfl) rfl rfl) ?_
 obtain ⟨b1, h2, h⟩ := bind_some h
 refine cK 4 [] 14 b1 ?_ ?_
 ·refine bM (decide (low_1 ≤ n_0)) (fun c3 => ?_) (fun c3 => ?_)
  ·have h2 := bD c3 h2
   refine aQ rfl rfl (aA rfl) rfl c3 (aE (v := .d (.lit (.int .i64 n_0))) (aA rfl) rfl rfl) ?_
   refine aQ rfl rfl (aA rfl) rfl c3 (aE (v := .d (.lit (.int .i64 high_2))) (aA rfl) rfl rfl) ?_
   refine aQ rfl rfl (aA rfl) rfl c3 (bE (aA rfl) rfl rfl rfl) ?_
   refine tr1 rfl (bO (v := .d (.lit (.bool ((decide (n_0 ≤ high_2)))))) (aA rfl) rfl c3 rfl rfl) ?_
   have h2 := Option.some.inj h2
   subst h2
   refine aJ (bN rfl trivial rfl)
  ·have h2 := bB c3 h2
   refine aV rfl rfl (aA rfl) rfl (aA rfl) rfl c3 ?_
   refine aV rfl rfl (aA rfl) rfl (aA rfl) rfl c3 ?_
   refine aV rfl rfl (aA rfl) rfl (aA rfl) rfl c3 ?_
   refine tr1 rfl (bH (v := .d (.lit (.bool false))) (aA rfl) rfl c3 rfl rfl) ?_
   have h2 := Option.some.inj h2
   subst h2
   refine aJ (bN rfl trivial rfl)
 ·refine tr1 rfl (aL (v := .d (.lit (.bool b1))) (aA rfl) rfl rfl) ?_
  refine aJ ?_
  have h := Option.some.inj h
  subst h
  exact bV ⟨rfl, _, .one _, rfl, rfl⟩

theorem xD (t_0 : aT) {r : Bool} (h : jT t_0 = some r) : Fn Try.prog 53 [.agg (aY t_0)] (.d (.lit (.bool r))) := by
 unfold jT at h
 refine Fn.of_tr Try.func53 rfl (rs := [.tmp 2]) Try.results53 Try.ntmps53 (Nat.le_of_ble_eq_true rfl) ?_
 refine aK ?_
 refine aH ?_
 refine cE rfl (gL (v := .agg (aY t_0)) (aA rfl) rfl rfl rfl) ?_
 rintro _ ⟨b1, rfl⟩
 refine tr1 rfl (aL (v := .d (.lit (.bool false))) (aA rfl) rfl rfl) ?_
 refine aJ ?_
 refine aK ?_
 refine aK ?_
 refine aH ?_
 refine tr1 rfl (aS (aA rfl) rfl gK) ?_
 refine tr1 rfl (aU (aA rfl) rfl (i := 0) rfl rfl aZ) ?_
 obtain ⟨r2, h3, h⟩ := bind_some h
 refine tr1 rfl (cZ (aA rfl) (.func _ _ Try.call41) rfl rfl (BVs.refl _ _) (fR _ _ _ h3) rfl) ?_
 refine tr1 rfl (fJ (aA rfl) rfl) ?_
 refine tr1 rfl (aE (v := .d (.lit (.bool (!r2)))) (aA rfl) rfl rfl) ?_
 obtain ⟨b4, h5, h⟩ := bind_some h
 refine cK 9 [1] 18 b4 ?_ ?_
 ·refine bM (!r2) (fun c41 => ?_) (fun c41 => ?_)
  ·have h5 := bD c41 h5
   refine aV rfl rfl (aA rfl) rfl (aA rfl) rfl c41 ?_
   refine aV rfl rfl (aA rfl) rfl (aA rfl) rfl c41 ?_
   refine aV rfl rfl (aA rfl) rfl (aA rfl) rfl c41 ?_
   refine aV rfl rfl (aA rfl) rfl (aA rfl) rfl c41 ?_
   refine aV rfl rfl (aA rfl) rfl (aA rfl) rfl c41 ?_
   refine aV rfl rfl (aA rfl) rfl (aA rfl) rfl c41 ?_
   refine aV rfl rfl (aA rfl) rfl (aA rfl) rfl c41 ?_
   refine aV rfl rfl (aA rfl) rfl (aA rfl) rfl c41 ?_
   refine tr1 rfl (bO (v := .d (.lit (.bool true))) (aA rfl) rfl c41 rfl rfl) ?_
   have h5 := Option.some.inj h5
   subst h5
   refine aJ (bN rfl ⟨rfl, trivial⟩ rfl)
  ·have h5 := bB c41 h5
   refine aQ rfl rfl (aA rfl) rfl c41 (aS (aA rfl) rfl dZ) ?_
   refine aQ rfl rfl (aA rfl) rfl c41 (aU (aA rfl) rfl (i := 0) rfl rfl cU) ?_
   refine aQ rfl rfl (aA rfl) rfl c41 (dR (aA rfl) rfl bP.of) ?_
   refine aQ rfl rfl (aA rfl) rfl c41 (aS (aA rfl) rfl gK) ?_
   refine aQ rfl rfl (aA rfl) rfl c41 (aU (aA rfl) rfl (i := 0) rfl rfl aZ) ?_
   refine aQ rfl rfl (aA rfl) rfl c41 (yM (aA rfl) rfl Try.runUnderlying3 Try.runUnderlying45) ?_
   obtain ⟨u42, h43, h5⟩ := bind_some h5
   refine aQ rfl rfl (aA rfl) rfl c41 (aHq (aA rfl) rfl rfl (tJ h43)) ?_
   refine aQ rfl rfl (aA rfl) rfl c41 (bE (aA rfl) rfl rfl rfl) ?_
   refine tr1 rfl (bH (v := .d (.lit (.bool ((!decide ((t_0.Slots.length : Int) = (w64 (1 * 2 ^ (min (IntKind.u64.wrap t_0.Rounds).toNat 64))))))))) (aA rfl) rfl c41 rfl rfl) ?_
   have h5 := Option.some.inj h5
   subst h5
   refine aJ (bN rfl ⟨rfl, trivial⟩ rfl)
 ·refine aJ ?_
  refine bY rfl (fun c6 => ?_) (fun c6 => ?_)
  ·have h := bD c6 h
   refine aK ?_
   refine aH ?_
   refine tr1 rfl (aL (v := .d (.lit (.bool false))) (aA rfl) rfl rfl) ?_
   refine aJ ?_
   have h := Option.some.inj h
   subst h
   refine cR (cQ (cX (l := [2]) ⟨rfl, trivial⟩)) ?_
   exact bV ⟨rfl, _, .one _, rfl, rfl⟩
  ·have h := bB c6 h
   refine bU ?_
   refine aK ?_
   refine aK ?_
   refine aH ?_
   refine tr1 rfl (aL (v := .d (.lit (.int .i64 0))) (aA rfl) rfl rfl) ?_
   refine aJ ?_
   refine cF ?_
   refine dJ [1] (fun (s7 : Int) => [(3, .d (.lit (.int .i64 s7)))]) (fun (s7 : Int) => [.box b1 0 (aY t_0)]) (fun (k : Nat) (s7 : Int) => fF t_0 k s7) (fun _ => rfl) (0) h (bK [0] rfl rfl (aX rfl (bF ⟨rfl, trivial⟩))) ?_
   rintro k8 i_0_7 h
   simp only [fF] at h
   refine aK ?_
   refine aK ?_
   refine aH ?_
   refine tr1 rfl (aE (v := .d (.lit (.int .i64 i_0_7))) (aA rfl) rfl rfl) ?_
   refine tr1 rfl (aS (aA rfl) rfl dZ) ?_
   refine tr1 rfl (aU (aA rfl) rfl (i := 0) rfl rfl cU) ?_
   refine tr1 rfl (dR (aA rfl) rfl bP.of) ?_
   refine tr1 rfl (bE (aA rfl) rfl rfl rfl) ?_
   refine aJ ?_
   refine bY rfl (fun c9 => ?_) (fun c9 => ?_)
   ·have h := bD c9 h
    refine bU ?_
    refine aK ?_
    refine cF ?_
    refine aK ?_
    refine aK ?_
    refine aH ?_
    refine tr1 rfl (aS (aA rfl) rfl dZ) ?_
    refine tr1 rfl (aU (aA rfl) rfl (i := 0) rfl rfl cU) ?_
    refine tr1 rfl (aE (v := .d (.lit (.int .i64 i_0_7))) (aA rfl) rfl rfl) ?_
    obtain ⟨x10, h11, h⟩ := bind_some h
    refine tr1 rfl (bA (aA rfl) rfl rfl bP.of (bJ aO h11)) ?_
    refine tr1 rfl (bC (aA rfl) rfl aZ) ?_
    obtain ⟨r12, h13, h⟩ := bind_some h
    refine tr1 rfl (cZ (aA rfl) (.func _ _ Try.call41) rfl rfl (BVs.refl _ _) (fR _ _ _ h13) rfl) ?_
    refine tr1 rfl (fJ (aA rfl) rfl) ?_
    refine tr1 rfl (aE (v := .d (.lit (.bool (!r12)))) (aA rfl) rfl rfl) ?_
    obtain ⟨b14, h15, h⟩ := bind_some h
    refine cK 21 [1, 3] 54 b14 ?_ ?_
    ·refine bM (!r12) (fun c30 => ?_) (fun c30 => ?_)
     ·have h15 := bD c30 h15
      refine aV rfl rfl (aA rfl) rfl (aA rfl) rfl c30 ?_
      refine aV rfl rfl (aA rfl) rfl (aA rfl) rfl c30 ?_
      refine aV rfl rfl (aA rfl) rfl (aA rfl) rfl c30 ?_
      refine aV rfl rfl (aA rfl) rfl (aA rfl) rfl c30 ?_
      refine dW rfl rfl (aA rfl) rfl (aA rfl) rfl ?_
      refine dW rfl rfl (aA rfl) rfl (aA rfl) rfl ?_
      refine dW rfl rfl (aA rfl) rfl (aA rfl) rfl ?_
      refine dW rfl rfl (aA rfl) rfl (aA rfl) rfl ?_
      refine dW rfl rfl (aA rfl) rfl (aA rfl) rfl ?_
      refine dW rfl rfl (aA rfl) rfl (aA rfl) rfl ?_
      refine aV rfl rfl (aA rfl) rfl (aA rfl) rfl c30 ?_
      refine aV rfl rfl (aA rfl) rfl (aA rfl) rfl c30 ?_
      refine dW rfl rfl (aA rfl) rfl (aA rfl) rfl ?_
      refine dW rfl rfl (aA rfl) rfl (aA rfl) rfl ?_
      refine dW rfl rfl (aA rfl) rfl (aA rfl) rfl ?_
      refine dW rfl rfl (aA rfl) rfl (aA rfl) rfl ?_
      refine dW rfl rfl (aA rfl) rfl (aA rfl) rfl ?_
      refine dW rfl rfl (aA rfl) rfl (aA rfl) rfl ?_
      refine dW rfl rfl (aA rfl) rfl (aA rfl) rfl ?_
      refine aV rfl rfl (aA rfl) rfl (aA rfl) rfl c30 ?_
      refine tr1 rfl (bO (v := .d (.lit (.bool true))) (aA rfl) rfl c30 rfl rfl) ?_
      have h15 := Option.some.inj h15
      subst h15
      refine aJ (bN rfl ⟨rfl, rfl, trivial⟩ rfl)
     ·have h15 := bB c30 h15
      refine aQ rfl rfl (aA rfl) rfl c30 (aE (v := .d (.lit (.int .i64 i_0_7))) (aA rfl) rfl rfl) ?_
      refine aQ rfl rfl (aA rfl) rfl c30 (aNa (aA rfl) rfl rfl (by decide)) ?_
      refine aQ rfl rfl (aA rfl) rfl c30 (bE (aA rfl) rfl rfl rfl) ?_
      refine aQ rfl rfl (aA rfl) rfl c30 (aE (v := .d (.lit (.bool ((decide ((i_0_7.tmod 2) = 1)))))) (aA rfl) rfl rfl) ?_
      obtain ⟨b31, h32, h15⟩ := bind_some h15
      refine cK 7 [1, 3, 33, 34, 35, 36, 37] 44 b31 ?_ ?_
      ·refine bM (decide ((i_0_7.tmod 2) = 1)) (fun c38 => ?_) (fun c38 => ?_)
       ·have h32 := bD c38 h32
        refine aQ rfl rfl (aA rfl) rfl c38 (aS (aA rfl) rfl dZ) ?_
        refine aQ rfl rfl (aA rfl) rfl c38 (aU (aA rfl) rfl (i := 0) rfl rfl cU) ?_
        refine aQ rfl rfl (aA rfl) rfl c38 (aE (v := .d (.lit (.int .i64 i_0_7))) (aA rfl) rfl rfl) ?_
        obtain ⟨x39, h40, h32⟩ := bind_some h32
        refine aQ rfl rfl (aA rfl) rfl c38 (bA (aA rfl) rfl rfl bP.of (bJ aO h40)) ?_
        refine aQ rfl rfl (aA rfl) rfl c38 (bC (aA rfl) rfl aZ) ?_
        refine aQ rfl rfl (aA rfl) rfl c38 (bE (aA rfl) rfl rfl rfl) ?_
        refine aQ rfl rfl (aA rfl) rfl c30 (bO (v := .d (.lit (.bool ((decide (x39 = (-1))))))) (aA rfl) rfl c38 rfl rfl) ?_
        have h32 := Option.some.inj h32
        subst h32
        refine aJ (bN rfl ⟨rfl, rfl, rfl, rfl, rfl, rfl, rfl, trivial⟩ rfl)
       ·have h32 := bB c38 h32
        refine aV rfl rfl (aA rfl) rfl (aA rfl) rfl c38 ?_
        refine aV rfl rfl (aA rfl) rfl (aA rfl) rfl c38 ?_
        refine aV rfl rfl (aA rfl) rfl (aA rfl) rfl c38 ?_
        refine aV rfl rfl (aA rfl) rfl (aA rfl) rfl c38 ?_
        refine aV rfl rfl (aA rfl) rfl (aA rfl) rfl c38 ?_
        refine aV rfl rfl (aA rfl) rfl (aA rfl) rfl c38 ?_
        refine aQ rfl rfl (aA rfl) rfl c30 (bH (v := .d (.lit (.bool false))) (aA rfl) rfl c38 rfl rfl) ?_
        have h32 := Option.some.inj h32
        subst h32
        refine aJ (bN rfl ⟨rfl, rfl, rfl, rfl, rfl, rfl, rfl, trivial⟩ rfl)
      ·refine aQ rfl rfl (aA rfl) rfl c30 (aE (v := .d (.lit (.bool b31))) (aA rfl) rfl rfl) ?_
       obtain ⟨b33, h34, h15⟩ := bind_some h15
       refine cK 8 [1, 3, 33, 34, 35, 36, 37, 44, 45] 53 b33 ?_ ?_
       ·refine bM (b31) (fun c35 => ?_) (fun c35 => ?_)
        ·have h34 := bD c35 h34
         refine aQ rfl rfl (aA rfl) rfl c35 (aS (aA rfl) rfl dZ) ?_
         refine aQ rfl rfl (aA rfl) rfl c35 (aU (aA rfl) rfl (i := 0) rfl rfl cU) ?_
         refine aQ rfl rfl (aA rfl) rfl c35 (aE (v := .d (.lit (.int .i64 i_0_7))) (aA rfl) rfl rfl) ?_
         refine aQ rfl rfl (aA rfl) rfl c35 (bL (aA rfl) rfl rfl rfl) ?_
         obtain ⟨x36, h37, h34⟩ := bind_some h34
         refine aQ rfl rfl (aA rfl) rfl c35 (bA (aA rfl) rfl rfl bP.of (bJ aO h37)) ?_
         refine aQ rfl rfl (aA rfl) rfl c35 (bC (aA rfl) rfl aZ) ?_
         refine aQ rfl rfl (aA rfl) rfl c35 (bE (aA rfl) rfl rfl rfl) ?_
         refine aQ rfl rfl (aA rfl) rfl c30 (bO (v := .d (.lit (.bool ((decide (x36 = (-1))))))) (aA rfl) rfl c35 rfl rfl) ?_
         have h34 := Option.some.inj h34
         subst h34
         refine aJ (bN rfl ⟨rfl, rfl, rfl, rfl, rfl, rfl, rfl, rfl, rfl, trivial⟩ rfl)
        ·have h34 := bB c35 h34
         refine aV rfl rfl (aA rfl) rfl (aA rfl) rfl c35 ?_
         refine aV rfl rfl (aA rfl) rfl (aA rfl) rfl c35 ?_
         refine aV rfl rfl (aA rfl) rfl (aA rfl) rfl c35 ?_
         refine aV rfl rfl (aA rfl) rfl (aA rfl) rfl c35 ?_
         refine aV rfl rfl (aA rfl) rfl (aA rfl) rfl c35 ?_
         refine aV rfl rfl (aA rfl) rfl (aA rfl) rfl c35 ?_
         refine aV rfl rfl (aA rfl) rfl (aA rfl) rfl c35 ?_
         refine aQ rfl rfl (aA rfl) rfl c30 (bH (v := .d (.lit (.bool false))) (aA rfl) rfl c35 rfl rfl) ?_
         have h34 := Option.some.inj h34
         subst h34
         refine aJ (bN rfl ⟨rfl, rfl, rfl, rfl, rfl, rfl, rfl, rfl, rfl, trivial⟩ rfl)
       ·refine tr1 rfl (bH (v := .d (.lit (.bool b33))) (aA rfl) rfl c30 rfl rfl) ?_
        have h15 := Option.some.inj h15
        subst h15
        refine aJ (bN rfl ⟨rfl, rfl, trivial⟩ rfl)
    ·refine aJ ?_
     refine bY rfl (fun c16 => ?_) (fun c16 => ?_)
     ·have h := bD c16 h
      refine aK ?_
      refine aH ?_
      refine tr1 rfl (aL (v := .d (.lit (.bool false))) (aA rfl) rfl rfl) ?_
      refine aJ ?_
      have h := Option.some.inj h
      subst h
      refine cR (cQ (cX (l := [2]) ⟨rfl, trivial⟩)) ?_
      exact bV ⟨rfl, _, .one _, rfl, rfl⟩
     ·have h := bB c16 h
      refine bU ?_
      refine aK ?_
      refine aH ?_
      refine tr1 rfl (aL (v := .d (.lit (.int .i64 0))) (aA rfl) rfl rfl) ?_
      refine aJ ?_
      refine zA ?_
      refine dJ [1, 3] (fun (s17 : Int) => [(4, .d (.lit (.int .i64 s17)))]) (fun (s17 : Int) => [.box b1 0 (aY t_0)]) (fun (k : Nat) (s17 : Int) => fG (fF t_0 k8) i_0_7 t_0 k s17) (fun _ => rfl) (0) h (bK [0] rfl rfl (aX rfl (bF ⟨rfl, rfl, trivial⟩))) ?_
      rintro k18 k_2_17 h
      simp only [fG] at h
      refine aK ?_
      refine aK ?_
      refine aH ?_
      refine tr1 rfl (aE (v := .d (.lit (.int .i64 k_2_17))) (aA rfl) rfl rfl) ?_
      refine tr1 rfl (aE (v := .d (.lit (.int .i64 i_0_7))) (aA rfl) rfl rfl) ?_
      refine tr1 rfl (bE (aA rfl) rfl rfl rfl) ?_
      refine aJ ?_
      refine bY rfl (fun c19 => ?_) (fun c19 => ?_)
      ·have h := bD c19 h
       refine bU ?_
       refine aK ?_
       refine cF ?_
       refine aK ?_
       obtain ⟨x20, h21, h⟩ := bind_some h
       obtain ⟨x22, h23, h⟩ := bind_some h
       obtain ⟨b24, h25, h⟩ := bind_some h
       refine dN mix 19 [1, 3, 4] [(78, .d (.lit (.bool b24)))] ?_ ?_
       ·refine bM (decide (x20 = x22)) (fun c26 => ?_) (fun c26 => ?_)
        ·have h25 := bD c26 h25
         obtain ⟨x27, h28, h25⟩ := bind_some h25
         have h25 := Option.some.inj h25
         subst h25
         refine ⟨[(60, 0, .bp b1 0 1), (61, 1, .d (.sl 1 (t_0.Slots.map aO))), (62, 2, .d (.lit (.int .i64 k_2_17))), (63, 3, .cp [.lit (.int .i64 x20)]), (64, 4, .d (.lit (.int .i64 x20))), (65, 5, .bp b1 0 1), (66, 6, .d (.sl 1 (t_0.Slots.map aO))), (67, 7, .d (.lit (.int .i64 i_0_7))), (68, 8, .cp [.lit (.int .i64 x22)]), (69, 9, .d (.lit (.int .i64 x22))), (70, 10, .d (.lit (.bool ((decide (x20 = x22)))))), (71, 11, .d (.lit (.bool ((decide (x20 = x22)))))), (72, 12, .bp b1 0 1), (73, 13, .d (.sl 1 (t_0.Slots.map aO))), (74, 14, .d (.lit (.int .i64 i_0_7))), (75, 15, .cp [.lit (.int .i64 x27)]), (76, 16, .d (.lit (.int .i64 x27))), (77, 17, .d (.lit (.bool ((!decide (x27 = (-1))))))), (78, 18, .d (.lit (.bool ((!decide (x27 = (-1)))))))], ?_, ?_⟩
         · exact ⟨by kernel_rfl, by kernel_rfl, by kernel_rfl, by kernel_rfl, by kernel_rfl, [([], []), ([0], []), ([], []), ([1, 2], []), ([3], []), ([], []), ([5], []), ([], []), ([6, 7], []), ([8], []), ([4, 9], []), ([10], []), ([11], []), ([11, 12], []), ([11], []), ([11, 13, 14], []), ([11, 15], []), ([11, 16], []), ([11, 17], [])], by kernel_rfl, ⟨fun S hS => aB rfl (aR rfl (aS (aA rfl) (aC hS rfl) dZ)),
      fun S hS => aB rfl (aR rfl (aU (aA rfl) (aC hS rfl) (i := 0) rfl rfl cU)),
      fun S hS => aB rfl (aR rfl (aE (v := .d (.lit (.int .i64 k_2_17))) (aA rfl) (aC hS rfl) rfl)),
      fun S hS => aB rfl (aR rfl (bA (aA rfl) (aC hS rfl) (aC hS rfl) bP.of (bJ aO h21))),
      fun S hS => aB rfl (aR rfl (bC (aA rfl) (aC hS rfl) aZ)),
      fun S hS => aB rfl (aR rfl (aS (aA rfl) (aC hS rfl) dZ)),
      fun S hS => aB rfl (aR rfl (aU (aA rfl) (aC hS rfl) (i := 0) rfl rfl cU)),
      fun S hS => aB rfl (aR rfl (aE (v := .d (.lit (.int .i64 i_0_7))) (aA rfl) (aC hS rfl) rfl)),
      fun S hS => aB rfl (aR rfl (bA (aA rfl) (aC hS rfl) (aC hS rfl) bP.of (bJ aO h23))),
      fun S hS => aB rfl (aR rfl (bC (aA rfl) (aC hS rfl) aZ)),
      fun S hS => aB rfl (aR rfl (bE (aA rfl) (aC hS rfl) (aC hS rfl) rfl)),
      fun S hS => aB rfl (aR rfl (aE (v := .d (.lit (.bool ((decide (x20 = x22)))))) (aA rfl) (aC hS rfl) rfl)),
      fun S hS => aB rfl (aG rfl rfl (aA rfl) (aD hS rfl) c26 (aS (aA rfl) (aC hS rfl) dZ)),
      fun S hS => aB rfl (aG rfl rfl (aA rfl) (aD hS rfl) c26 (aU (aA rfl) (aC hS rfl) (i := 0) rfl rfl cU)),
      fun S hS => aB rfl (aG rfl rfl (aA rfl) (aD hS rfl) c26 (aE (v := .d (.lit (.int .i64 i_0_7))) (aA rfl) (aC hS rfl) rfl)),
      fun S hS => aB rfl (aG rfl rfl (aA rfl) (aD hS rfl) c26 (bA (aA rfl) (aC hS rfl) (aC hS rfl) bP.of (bJ aO h28))),
      fun S hS => aB rfl (aG rfl rfl (aA rfl) (aD hS rfl) c26 (bC (aA rfl) (aC hS rfl) aZ)),
      fun S hS => aB rfl (aG rfl rfl (aA rfl) (aD hS rfl) c26 (bE (aA rfl) (aC hS rfl) rfl rfl)),
      fun S hS => aB rfl (aR rfl (bO (v := .d (.lit (.bool ((!decide (x27 = (-1))))))) (aA rfl) (aC hS rfl) c26 (aC hS rfl) rfl)), trivial⟩⟩
         · exact cL (aX rfl (bF ⟨rfl, rfl, rfl, trivial⟩))
        ·have h25 := bB c26 h25
         have h25 := Option.some.inj h25
         subst h25
         refine ⟨[(60, 0, .bp b1 0 1), (61, 1, .d (.sl 1 (t_0.Slots.map aO))), (62, 2, .d (.lit (.int .i64 k_2_17))), (63, 3, .cp [.lit (.int .i64 x20)]), (64, 4, .d (.lit (.int .i64 x20))), (65, 5, .bp b1 0 1), (66, 6, .d (.sl 1 (t_0.Slots.map aO))), (67, 7, .d (.lit (.int .i64 i_0_7))), (68, 8, .cp [.lit (.int .i64 x22)]), (69, 9, .d (.lit (.int .i64 x22))), (70, 10, .d (.lit (.bool ((decide (x20 = x22)))))), (71, 11, .d (.lit (.bool ((decide (x20 = x22)))))), (72, 12, .tup []), (73, 13, .tup []), (74, 14, .tup []), (75, 15, .tup []), (76, 16, .tup []), (77, 17, .tup []), (78, 18, .d (.lit (.bool false)))], ?_, ?_⟩
         · exact ⟨by kernel_rfl, by kernel_rfl, by kernel_rfl, by kernel_rfl, by kernel_rfl, [([], []), ([0], []), ([], []), ([1, 2], []), ([3], []), ([], []), ([5], []), ([], []), ([6, 7], []), ([8], []), ([4, 9], []), ([10], []), ([11], []), ([11, 12], []), ([11], []), ([11, 13, 14], []), ([11, 15], []), ([11, 16], []), ([11, 17], [])], by kernel_rfl, ⟨fun S hS => aB rfl (aR rfl (aS (aA rfl) (aC hS rfl) dZ)),
      fun S hS => aB rfl (aR rfl (aU (aA rfl) (aC hS rfl) (i := 0) rfl rfl cU)),
      fun S hS => aB rfl (aR rfl (aE (v := .d (.lit (.int .i64 k_2_17))) (aA rfl) (aC hS rfl) rfl)),
      fun S hS => aB rfl (aR rfl (bA (aA rfl) (aC hS rfl) (aC hS rfl) bP.of (bJ aO h21))),
      fun S hS => aB rfl (aR rfl (bC (aA rfl) (aC hS rfl) aZ)),
      fun S hS => aB rfl (aR rfl (aS (aA rfl) (aC hS rfl) dZ)),
      fun S hS => aB rfl (aR rfl (aU (aA rfl) (aC hS rfl) (i := 0) rfl rfl cU)),
      fun S hS => aB rfl (aR rfl (aE (v := .d (.lit (.int .i64 i_0_7))) (aA rfl) (aC hS rfl) rfl)),
      fun S hS => aB rfl (aR rfl (bA (aA rfl) (aC hS rfl) (aC hS rfl) bP.of (bJ aO h23))),
      fun S hS => aB rfl (aR rfl (bC (aA rfl) (aC hS rfl) aZ)),
      fun S hS => aB rfl (aR rfl (bE (aA rfl) (aC hS rfl) (aC hS rfl) rfl)),
      fun S hS => aB rfl (aR rfl (aE (v := .d (.lit (.bool ((decide (x20 = x22)))))) (aA rfl) (aC hS rfl) rfl)),
      fun S hS => aB rfl (aM rfl rfl (aA rfl) rfl (aA rfl) (aD hS rfl) c26),
      fun S hS => aB rfl (aM rfl rfl (aA rfl) rfl (aA rfl) (aD hS rfl) c26),
      fun S hS => aB rfl (aM rfl rfl (aA rfl) rfl (aA rfl) (aD hS rfl) c26),
      fun S hS => aB rfl (aM rfl rfl (aA rfl) rfl (aA rfl) (aD hS rfl) c26),
      fun S hS => aB rfl (aM rfl rfl (aA rfl) rfl (aA rfl) (aD hS rfl) c26),
      fun S hS => aB rfl (aM rfl rfl (aA rfl) rfl (aA rfl) (aD hS rfl) c26),
      fun S hS => aB rfl (aR rfl (bH (v := .d (.lit (.bool false))) (aA rfl) (aC hS rfl) c26 rfl rfl)), trivial⟩⟩
         · exact cL (aX rfl (bF ⟨rfl, rfl, rfl, trivial⟩))
       ·refine aJ ?_
        refine bY rfl (fun c29 => ?_) (fun c29 => ?_)
        ·have h := bD c29 h
         refine aK ?_
         refine aH ?_
         refine tr1 rfl (aL (v := .d (.lit (.bool false))) (aA rfl) rfl rfl) ?_
         refine aJ ?_
         have h := Option.some.inj h
         subst h
         refine cR (cQ (cX (l := [2]) ⟨rfl, trivial⟩)) ?_
         exact bV ⟨rfl, _, .one _, rfl, rfl⟩
        ·have h := bB c29 h
         refine eH ?_
         refine aH ?_
         refine tr1 rfl (aE (v := .d (.lit (.int .i64 k_2_17))) (aA rfl) rfl rfl) ?_
         refine tr1 rfl (bL (aA rfl) rfl rfl rfl) ?_
         refine tr1 rfl (aL (v := .d (.lit (.int .i64 ((w64 (k_2_17 + 1)))))) (aA rfl) rfl rfl) ?_
         refine aJ ?_
         exact ⟨(w64 (k_2_17 + 1)), h, bK [0] rfl rfl (aX rfl (bF ⟨rfl, rfl, trivial⟩))⟩
      ·have h := bB c19 h
       refine dB ?_
       refine .inl ⟨rfl, ?_⟩
       simp only [nP] at h
       simp only [nO] at h
       refine aH ?_
       refine tr1 rfl (aE (v := .d (.lit (.int .i64 i_0_7))) (aA rfl) rfl rfl) ?_
       refine tr1 rfl (bL (aA rfl) rfl rfl rfl) ?_
       refine tr1 rfl (aL (v := .d (.lit (.int .i64 ((w64 (i_0_7 + 1)))))) (aA rfl) rfl rfl) ?_
       refine aJ ?_
       exact ⟨(w64 (i_0_7 + 1)), h, bK [0] rfl rfl (aX rfl (bF ⟨rfl, trivial⟩))⟩
   ·have h := bB c9 h
    refine dB ?_
    refine .inl ⟨rfl, ?_⟩
    simp only [nN] at h
    refine aK ?_
    refine aH ?_
    refine tr1 rfl (aL (v := .d (.lit (.bool true))) (aA rfl) rfl rfl) ?_
    refine aJ ?_
    have h := Option.some.inj h
    subst h
    refine cR (cQ (cX (l := [2]) ⟨rfl, trivial⟩)) ?_
    exact bV ⟨rfl, _, .one _, rfl, rfl⟩

theorem lX (t_0 : aT) (round_1 : Int) {r : Int} (h : fB t_0 round_1 = some r) : Fn Try.prog 42 [.agg (aY t_0), .d (.lit (.int .i64 round_1))] (.d (.lit (.int .i64 r))) := by
 unfold fB at h
 refine Fn.of_tr Try.func42 rfl (rs := [.tmp 4]) Try.results42 Try.ntmps42 (Nat.le_of_ble_eq_true rfl) ?_
 refine aK ?_
 refine aH ?_
 refine cE rfl (gL (v := .agg (aY t_0)) (aA rfl) rfl rfl rfl) ?_
 rintro _ ⟨b1, rfl⟩
 refine tr1 rfl (aL (v := .d (.lit (.int .i64 0))) (aA rfl) rfl rfl) ?_
 refine aJ ?_
 refine aK ?_
 refine aH ?_
 refine tr1 rfl (aS (aA rfl) rfl gK) ?_
 refine tr1 rfl (aU (aA rfl) rfl (i := 0) rfl rfl aZ) ?_
 refine tr1 rfl (bL (aA rfl) rfl rfl rfl) ?_
 refine tr1 rfl (aE (v := .d (.lit (.int .i64 round_1))) (aA rfl) rfl rfl) ?_
 refine tr1 rfl (bL (aA rfl) rfl rfl rfl) ?_
 refine tr1 rfl (yM (aA rfl) rfl Try.runUnderlying3 Try.runUnderlying45) ?_
 obtain ⟨u2, h3, h⟩ := bind_some h
 refine tr1 rfl (aHq (aA rfl) rfl rfl (tJ h3)) ?_
 refine tr1 rfl (aL (v := .d (.lit (.int .i64 ((w64 (1 * 2 ^ (min (IntKind.u64.wrap (w64 ((w64 (t_0.Rounds - 1)) - round_1))).toNat 64))))))) (aA rfl) rfl rfl) ?_
 refine aJ ?_
 have h := Option.some.inj h
 subst h
 refine cR (cQ (cX (l := [4]) ⟨rfl, trivial⟩)) ?_
 exact bV ⟨rfl, _, .one _, rfl, rfl⟩

theorem wD (t_0 : aT) (round_1 : Int) (place_2 : Int) {r : Bool} (h : iV t_0 round_1 place_2 = some r) : Fn Try.prog 13 [.agg (aY t_0), .d (.lit (.int .i64 round_1)), .d (.lit (.int .i64 place_2))] (.d (.lit (.bool r))) := by
 unfold iV at h
 refine Fn.of_tr Try.func13 rfl (rs := [.tmp 6]) Try.results13 Try.ntmps13 (Nat.le_of_ble_eq_true rfl) ?_
 refine aK ?_
 refine aH ?_
 refine cE rfl (gL (v := .agg (aY t_0)) (aA rfl) rfl rfl rfl) ?_
 rintro _ ⟨b1, rfl⟩
 refine tr1 rfl (aL (v := .d (.lit (.bool false))) (aA rfl) rfl rfl) ?_
 refine aJ ?_
 refine aK ?_
 refine aH ?_
 refine tr1 rfl (aE (v := .d (.lit (.int .i64 round_1))) (aA rfl) rfl rfl) ?_
 refine tr1 rfl (aS (aA rfl) rfl gK) ?_
 refine tr1 rfl (aU (aA rfl) rfl (i := 0) rfl rfl aZ) ?_
 refine tr1 rfl (bL (aA rfl) rfl rfl rfl) ?_
 obtain ⟨r2, h3, h⟩ := bind_some h
 refine tr1 rfl (cZ (aA rfl) (.func _ _ Try.call41) rfl rfl (BVs.refl _ _) (fR _ _ _ h3) rfl) ?_
 refine tr1 rfl (aE (v := .d (.lit (.bool r2))) (aA rfl) rfl rfl) ?_
 obtain ⟨b4, h5, h⟩ := bind_some h
 refine cK 7 [] 19 b4 ?_ ?_
 ·refine bM (r2) (fun c6 => ?_) (fun c6 => ?_)
  ·have h5 := bD c6 h5
   refine aQ rfl rfl (aA rfl) rfl c6 (aE (v := .d (.lit (.int .i64 place_2))) (aA rfl) rfl rfl) ?_
   refine aQ rfl rfl (aA rfl) rfl c6 (bW (aA rfl) rfl (i := 0) rfl dX (es := (aY t_0)) rfl rfl) ?_
   refine aQ rfl rfl (aA rfl) rfl c6 (aE (v := .d (.lit (.int .i64 round_1))) (aA rfl) rfl rfl) ?_
   obtain ⟨r7, h8, h5⟩ := bind_some h5
   refine aQ rfl rfl (aA rfl) rfl c6 (cZ (aA rfl) (.func _ _ Try.call42) rfl rfl (BVs.refl _ _) (lX _ _ h8) rfl) ?_
   refine aQ rfl rfl (aA rfl) rfl c6 (bL (aA rfl) rfl rfl rfl) ?_
   obtain ⟨r9, h10, h5⟩ := bind_some h5
   refine aQ rfl rfl (aA rfl) rfl c6 (cZ (aA rfl) (.func _ _ Try.call41) rfl rfl (BVs.refl _ _) (fR _ _ _ h10) rfl) ?_
   refine tr1 rfl (bO (v := .d (.lit (.bool r9))) (aA rfl) rfl c6 rfl rfl) ?_
   have h5 := Option.some.inj h5
   subst h5
   refine aJ (bN rfl trivial rfl)
  ·have h5 := bB c6 h5
   refine aV rfl rfl (aA rfl) rfl (aA rfl) rfl c6 ?_
   refine aV rfl rfl (aA rfl) rfl (aA rfl) rfl c6 ?_
   refine aV rfl rfl (aA rfl) rfl (aA rfl) rfl c6 ?_
   refine aV rfl rfl (aA rfl) rfl (aA rfl) rfl c6 ?_
   refine aV rfl rfl (aA rfl) rfl (aA rfl) rfl c6 ?_
   refine aV rfl rfl (aA rfl) rfl (aA rfl) rfl c6 ?_
   refine tr1 rfl (bH (v := .d (.lit (.bool false))) (aA rfl) rfl c6 rfl rfl) ?_
   have h5 := Option.some.inj h5
   subst h5
   refine aJ (bN rfl trivial rfl)
 ·refine tr1 rfl (aL (v := .d (.lit (.bool b4))) (aA rfl) rfl rfl) ?_
  refine aJ ?_
  have h := Option.some.inj h
  subst h
  refine cR (cQ (cX (l := [6]) ⟨rfl, trivial⟩)) ?_
  exact bV ⟨rfl, _, .one _, rfl, rfl⟩

theorem xF (t_0 : aT) (x_1 : aI) {r : Bool} (h : lI t_0 x_1 = some r) : Fn Try.prog 54 [.agg (aY t_0), .agg (aP x_1)] (.d (.lit (.bool r))) := by
 unfold lI at h
 refine Fn.of_tr Try.func54 rfl (rs := [.tmp 4]) Try.results54 Try.ntmps54 (Nat.le_of_ble_eq_true rfl) ?_
 refine aK ?_
 refine aH ?_
 refine cE rfl (gL (v := .agg (aY t_0)) (aA rfl) rfl rfl rfl) ?_
 rintro _ ⟨b1, rfl⟩
 refine cE rfl (gL (v := .agg (aP x_1)) (aA rfl) rfl rfl rfl) ?_
 rintro _ ⟨b2, rfl⟩
 refine tr1 rfl (aL (v := .d (.lit (.bool false))) (aA rfl) rfl rfl) ?_
 refine aJ ?_
 refine aK ?_
 refine aK ?_
 refine aH ?_
 refine tr1 rfl (aS (aA rfl) rfl lT) ?_
 refine tr1 rfl (aU (aA rfl) rfl (i := 1) rfl rfl aZ) ?_
 obtain ⟨r3, h4, h⟩ := bind_some h
 refine tr1 rfl (cZ (aA rfl) (.func _ _ Try.call41) rfl rfl (BVs.refl _ _) (fR _ _ _ h4) rfl) ?_
 refine tr1 rfl (fJ (aA rfl) rfl) ?_
 refine aJ ?_
 refine bY rfl (fun c5 => ?_) (fun c5 => ?_)
 ·have h := bD c5 h
  refine aK ?_
  refine aH ?_
  refine tr1 rfl (aL (v := .d (.lit (.bool false))) (aA rfl) rfl rfl) ?_
  refine aJ ?_
  have h := Option.some.inj h
  subst h
  refine cR (cQ (cX (l := [4]) ⟨rfl, trivial⟩)) ?_
  exact bV ⟨rfl, _, .one _, rfl, rfl⟩
 ·have h := bB c5 h
  refine bU ?_
  refine aK ?_
  refine aK ?_
  refine aH ?_
  refine tr1 rfl (aS (aA rfl) rfl lS) ?_
  refine tr1 rfl (aU (aA rfl) rfl (i := 1) rfl rfl aZ) ?_
  refine tr1 rfl (bE (aA rfl) rfl rfl rfl) ?_
  refine aJ ?_
  refine bY rfl (fun c6 => ?_) (fun c6 => ?_)
  ·have h := bD c6 h
   refine aK ?_
   refine aH ?_
   refine tr1 rfl (aS (aA rfl) rfl lE) ?_
   refine tr1 rfl (aU (aA rfl) rfl (i := 1) rfl rfl aZ) ?_
   refine tr1 rfl (bE (aA rfl) rfl rfl rfl) ?_
   refine tr1 rfl (aE (v := .d (.lit (.bool ((decide (x_1.Round = 0)))))) (aA rfl) rfl rfl) ?_
   obtain ⟨b7, h8, h⟩ := bind_some h
   refine cK 8 [3] 23 b7 ?_ ?_
   ·refine bM (decide (x_1.Round = 0)) (fun c14 => ?_) (fun c14 => ?_)
    ·have h8 := bD c14 h8
     refine aQ rfl rfl (aA rfl) rfl c14 (aS (aA rfl) rfl iH) ?_
     refine aQ rfl rfl (aA rfl) rfl c14 (aU (aA rfl) rfl (i := 1) rfl rfl aZ) ?_
     refine aQ rfl rfl (aA rfl) rfl c14 (aS (aA rfl) rfl dZ) ?_
     refine aQ rfl rfl (aA rfl) rfl c14 (aU (aA rfl) rfl (i := 0) rfl rfl cU) ?_
     refine aQ rfl rfl (aA rfl) rfl c14 (dR (aA rfl) rfl bP.of) ?_
     refine aQ rfl rfl (aA rfl) rfl c14 (bL (aA rfl) rfl rfl rfl) ?_
     obtain ⟨r15, h16, h8⟩ := bind_some h8
     refine aQ rfl rfl (aA rfl) rfl c14 (cZ (aA rfl) (.func _ _ Try.call41) rfl rfl (BVs.refl _ _) (fR _ _ _ h16) rfl) ?_
     refine tr1 rfl (bO (v := .d (.lit (.bool r15))) (aA rfl) rfl c14 rfl rfl) ?_
     have h8 := Option.some.inj h8
     subst h8
     refine aJ (bN rfl ⟨rfl, trivial⟩ rfl)
    ·have h8 := bB c14 h8
     refine aV rfl rfl (aA rfl) rfl (aA rfl) rfl c14 ?_
     refine aV rfl rfl (aA rfl) rfl (aA rfl) rfl c14 ?_
     refine aV rfl rfl (aA rfl) rfl (aA rfl) rfl c14 ?_
     refine aV rfl rfl (aA rfl) rfl (aA rfl) rfl c14 ?_
     refine aV rfl rfl (aA rfl) rfl (aA rfl) rfl c14 ?_
     refine aV rfl rfl (aA rfl) rfl (aA rfl) rfl c14 ?_
     refine aV rfl rfl (aA rfl) rfl (aA rfl) rfl c14 ?_
     refine tr1 rfl (bH (v := .d (.lit (.bool false))) (aA rfl) rfl c14 rfl rfl) ?_
     have h8 := Option.some.inj h8
     subst h8
     refine aJ (bN rfl ⟨rfl, trivial⟩ rfl)
   ·refine tr1 rfl (aE (v := .d (.lit (.bool b7))) (aA rfl) rfl rfl) ?_
    obtain ⟨b9, h10, h⟩ := bind_some h
    refine cK 4 [] 28 b9 ?_ ?_
    ·refine bM (b7) (fun c11 => ?_) (fun c11 => ?_)
     ·have h10 := bD c11 h10
      refine aQ rfl rfl (aA rfl) rfl c11 (aS (aA rfl) rfl rV) ?_
      refine aQ rfl rfl (aA rfl) rfl c11 (aU (aA rfl) rfl (i := 1) rfl rfl aZ) ?_
      obtain ⟨r12, h13, h10⟩ := bind_some h10
      refine aQ rfl rfl (aA rfl) rfl c11 (cZ (aA rfl) (.func _ _ Try.call41) rfl rfl (BVs.refl _ _) (fR _ _ _ h13) rfl) ?_
      refine tr1 rfl (bO (v := .d (.lit (.bool r12))) (aA rfl) rfl c11 rfl rfl) ?_
      have h10 := Option.some.inj h10
      subst h10
      refine aJ (bN rfl trivial rfl)
     ·have h10 := bB c11 h10
      refine aV rfl rfl (aA rfl) rfl (aA rfl) rfl c11 ?_
      refine aV rfl rfl (aA rfl) rfl (aA rfl) rfl c11 ?_
      refine aV rfl rfl (aA rfl) rfl (aA rfl) rfl c11 ?_
      refine tr1 rfl (bH (v := .d (.lit (.bool false))) (aA rfl) rfl c11 rfl rfl) ?_
      have h10 := Option.some.inj h10
      subst h10
      refine aJ (bN rfl trivial rfl)
    ·refine tr1 rfl (aL (v := .d (.lit (.bool b9))) (aA rfl) rfl rfl) ?_
     refine aJ ?_
     have h := Option.some.inj h
     subst h
     refine cR (cQ (cX (l := [4]) ⟨rfl, trivial⟩)) ?_
     exact bV ⟨rfl, _, .one _, rfl, rfl⟩
  ·have h := bB c6 h
   refine bU ?_
   refine aK ?_
   refine aK ?_
   refine aH ?_
   refine tr1 rfl (aS (aA rfl) rfl lS) ?_
   refine tr1 rfl (aU (aA rfl) rfl (i := 1) rfl rfl aZ) ?_
   obtain ⟨r17, h18, h⟩ := bind_some h
   refine tr1 rfl (cZ (aA rfl) (.func _ _ Try.call41) rfl rfl (BVs.refl _ _) (fR _ _ _ h18) rfl) ?_
   refine tr1 rfl (fJ (aA rfl) rfl) ?_
   refine tr1 rfl (aE (v := .d (.lit (.bool (!r17)))) (aA rfl) rfl rfl) ?_
   obtain ⟨b19, h20, h⟩ := bind_some h
   refine cK 8 [2, 3] 41 b19 ?_ ?_
   ·refine bM (!r17) (fun c35 => ?_) (fun c35 => ?_)
    ·have h20 := bD c35 h20
     refine aV rfl rfl (aA rfl) rfl (aA rfl) rfl c35 ?_
     refine aV rfl rfl (aA rfl) rfl (aA rfl) rfl c35 ?_
     refine aV rfl rfl (aA rfl) rfl (aA rfl) rfl c35 ?_
     refine aV rfl rfl (aA rfl) rfl (aA rfl) rfl c35 ?_
     refine aV rfl rfl (aA rfl) rfl (aA rfl) rfl c35 ?_
     refine aV rfl rfl (aA rfl) rfl (aA rfl) rfl c35 ?_
     refine aV rfl rfl (aA rfl) rfl (aA rfl) rfl c35 ?_
     refine tr1 rfl (bO (v := .d (.lit (.bool true))) (aA rfl) rfl c35 rfl rfl) ?_
     have h20 := Option.some.inj h20
     subst h20
     refine aJ (bN rfl ⟨rfl, rfl, trivial⟩ rfl)
    ·have h20 := bB c35 h20
     refine aQ rfl rfl (aA rfl) rfl c35 (bW (aA rfl) rfl (i := 0) rfl dX (es := (aY t_0)) rfl rfl) ?_
     refine aQ rfl rfl (aA rfl) rfl c35 (aS (aA rfl) rfl lE) ?_
     refine aQ rfl rfl (aA rfl) rfl c35 (aU (aA rfl) rfl (i := 1) rfl rfl aZ) ?_
     refine aQ rfl rfl (aA rfl) rfl c35 (aS (aA rfl) rfl iH) ?_
     refine aQ rfl rfl (aA rfl) rfl c35 (aU (aA rfl) rfl (i := 1) rfl rfl aZ) ?_
     obtain ⟨r36, h37, h20⟩ := bind_some h20
     refine aQ rfl rfl (aA rfl) rfl c35 (cZ (aA rfl) (.func _ _ Try.call13) rfl rfl (BVs.refl _ _) (wD _ _ _ h37) rfl) ?_
     refine aQ rfl rfl (aA rfl) rfl c35 (fJ (aA rfl) rfl) ?_
     refine tr1 rfl (bH (v := .d (.lit (.bool (!r36)))) (aA rfl) rfl c35 rfl rfl) ?_
     have h20 := Option.some.inj h20
     subst h20
     refine aJ (bN rfl ⟨rfl, rfl, trivial⟩ rfl)
   ·refine tr1 rfl (aE (v := .d (.lit (.bool b19))) (aA rfl) rfl rfl) ?_
    obtain ⟨b21, h22, h⟩ := bind_some h
    refine cK 4 [2, 3] 46 b21 ?_ ?_
    ·refine bM (b19) (fun c34 => ?_) (fun c34 => ?_)
     ·have h22 := bD c34 h22
      refine aV rfl rfl (aA rfl) rfl (aA rfl) rfl c34 ?_
      refine aV rfl rfl (aA rfl) rfl (aA rfl) rfl c34 ?_
      refine aV rfl rfl (aA rfl) rfl (aA rfl) rfl c34 ?_
      refine tr1 rfl (bO (v := .d (.lit (.bool true))) (aA rfl) rfl c34 rfl rfl) ?_
      have h22 := Option.some.inj h22
      subst h22
      refine aJ (bN rfl ⟨rfl, rfl, trivial⟩ rfl)
     ·have h22 := bB c34 h22
      refine aQ rfl rfl (aA rfl) rfl c34 (aS (aA rfl) rfl rV) ?_
      refine aQ rfl rfl (aA rfl) rfl c34 (aU (aA rfl) rfl (i := 1) rfl rfl aZ) ?_
      refine aQ rfl rfl (aA rfl) rfl c34 (bE (aA rfl) rfl rfl rfl) ?_
      refine tr1 rfl (bH (v := .d (.lit (.bool ((!decide (x_1.Old = 0)))))) (aA rfl) rfl c34 rfl rfl) ?_
      have h22 := Option.some.inj h22
      subst h22
      refine aJ (bN rfl ⟨rfl, rfl, trivial⟩ rfl)
    ·refine aJ ?_
     refine bY rfl (fun c23 => ?_) (fun c23 => ?_)
     ·have h := bD c23 h
      refine aK ?_
      refine aH ?_
      refine tr1 rfl (aL (v := .d (.lit (.bool false))) (aA rfl) rfl rfl) ?_
      refine aJ ?_
      have h := Option.some.inj h
      subst h
      refine cR (cQ (cX (l := [4]) ⟨rfl, trivial⟩)) ?_
      exact bV ⟨rfl, _, .one _, rfl, rfl⟩
     ·have h := bB c23 h
      refine bU ?_
      refine aK ?_
      refine aH ?_
      refine tr1 rfl (aS (aA rfl) rfl lE) ?_
      refine tr1 rfl (aU (aA rfl) rfl (i := 1) rfl rfl aZ) ?_
      refine tr1 rfl (bE (aA rfl) rfl rfl rfl) ?_
      refine tr1 rfl (aE (v := .d (.lit (.bool ((decide (0 < x_1.Round)))))) (aA rfl) rfl rfl) ?_
      obtain ⟨b24, h25, h⟩ := bind_some h
      refine cK 20 [] 70 b24 ?_ ?_
      ·refine bM (decide (0 < x_1.Round)) (fun c26 => ?_) (fun c26 => ?_)
       ·have h25 := bD c26 h25
        refine aV rfl rfl (aA rfl) rfl (aA rfl) rfl c26 ?_
        refine aV rfl rfl (aA rfl) rfl (aA rfl) rfl c26 ?_
        refine aV rfl rfl (aA rfl) rfl (aA rfl) rfl c26 ?_
        refine aV rfl rfl (aA rfl) rfl (aA rfl) rfl c26 ?_
        refine aV rfl rfl (aA rfl) rfl (aA rfl) rfl c26 ?_
        refine aV rfl rfl (aA rfl) rfl (aA rfl) rfl c26 ?_
        refine aV rfl rfl (aA rfl) rfl (aA rfl) rfl c26 ?_
        refine aV rfl rfl (aA rfl) rfl (aA rfl) rfl c26 ?_
        refine aV rfl rfl (aA rfl) rfl (aA rfl) rfl c26 ?_
        refine dW rfl rfl (aA rfl) rfl (aA rfl) rfl ?_
        refine dW rfl rfl (aA rfl) rfl (aA rfl) rfl ?_
        refine dW rfl rfl (aA rfl) rfl (aA rfl) rfl ?_
        refine dW rfl rfl (aA rfl) rfl (aA rfl) rfl ?_
        refine dW rfl rfl (aA rfl) rfl (aA rfl) rfl ?_
        refine dW rfl rfl (aA rfl) rfl (aA rfl) rfl ?_
        refine dW rfl rfl (aA rfl) rfl (aA rfl) rfl ?_
        refine dW rfl rfl (aA rfl) rfl (aA rfl) rfl ?_
        refine dW rfl rfl (aA rfl) rfl (aA rfl) rfl ?_
        refine aV rfl rfl (aA rfl) rfl (aA rfl) rfl c26 ?_
        refine tr1 rfl (bO (v := .d (.lit (.bool true))) (aA rfl) rfl c26 rfl rfl) ?_
        have h25 := Option.some.inj h25
        subst h25
        refine aJ (bN rfl trivial rfl)
       ·have h25 := bB c26 h25
        refine aQ rfl rfl (aA rfl) rfl c26 (aS (aA rfl) rfl dZ) ?_
        refine aQ rfl rfl (aA rfl) rfl c26 (aU (aA rfl) rfl (i := 0) rfl rfl cU) ?_
        refine aQ rfl rfl (aA rfl) rfl c26 (aS (aA rfl) rfl iH) ?_
        refine aQ rfl rfl (aA rfl) rfl c26 (aU (aA rfl) rfl (i := 1) rfl rfl aZ) ?_
        refine aQ rfl rfl (aA rfl) rfl c26 (bL (aA rfl) rfl rfl rfl) ?_
        obtain ⟨x27, h28, h25⟩ := bind_some h25
        refine aQ rfl rfl (aA rfl) rfl c26 (bA (aA rfl) rfl rfl bP.of (bJ aO h28)) ?_
        refine aQ rfl rfl (aA rfl) rfl c26 (bC (aA rfl) rfl aZ) ?_
        refine aQ rfl rfl (aA rfl) rfl c26 (bE (aA rfl) rfl rfl rfl) ?_
        refine aQ rfl rfl (aA rfl) rfl c26 (aE (v := .d (.lit (.bool ((!decide (x27 = (-1))))))) (aA rfl) rfl rfl) ?_
        obtain ⟨b29, h30, h25⟩ := bind_some h25
        refine cK 10 [50] 69 b29 ?_ ?_
        ·refine bM (!decide (x27 = (-1))) (fun c31 => ?_) (fun c31 => ?_)
         ·have h30 := bD c31 h30
          refine aQ rfl rfl (aA rfl) rfl c31 (aS (aA rfl) rfl dZ) ?_
          refine aQ rfl rfl (aA rfl) rfl c31 (aU (aA rfl) rfl (i := 0) rfl rfl cU) ?_
          refine aQ rfl rfl (aA rfl) rfl c31 (aS (aA rfl) rfl iH) ?_
          refine aQ rfl rfl (aA rfl) rfl c31 (aU (aA rfl) rfl (i := 1) rfl rfl aZ) ?_
          refine aQ rfl rfl (aA rfl) rfl c31 (bL (aA rfl) rfl rfl rfl) ?_
          refine aQ rfl rfl (aA rfl) rfl c31 (bL (aA rfl) rfl rfl rfl) ?_
          obtain ⟨x32, h33, h30⟩ := bind_some h30
          refine aQ rfl rfl (aA rfl) rfl c31 (bA (aA rfl) rfl rfl bP.of (bJ aO h33)) ?_
          refine aQ rfl rfl (aA rfl) rfl c31 (bC (aA rfl) rfl aZ) ?_
          refine aQ rfl rfl (aA rfl) rfl c31 (bE (aA rfl) rfl rfl rfl) ?_
          refine aQ rfl rfl (aA rfl) rfl c26 (bO (v := .d (.lit (.bool ((!decide (x32 = (-1))))))) (aA rfl) rfl c31 rfl rfl) ?_
          have h30 := Option.some.inj h30
          subst h30
          refine aJ (bN rfl ⟨rfl, trivial⟩ rfl)
         ·have h30 := bB c31 h30
          refine aV rfl rfl (aA rfl) rfl (aA rfl) rfl c31 ?_
          refine aV rfl rfl (aA rfl) rfl (aA rfl) rfl c31 ?_
          refine aV rfl rfl (aA rfl) rfl (aA rfl) rfl c31 ?_
          refine aV rfl rfl (aA rfl) rfl (aA rfl) rfl c31 ?_
          refine aV rfl rfl (aA rfl) rfl (aA rfl) rfl c31 ?_
          refine aV rfl rfl (aA rfl) rfl (aA rfl) rfl c31 ?_
          refine aV rfl rfl (aA rfl) rfl (aA rfl) rfl c31 ?_
          refine aV rfl rfl (aA rfl) rfl (aA rfl) rfl c31 ?_
          refine aV rfl rfl (aA rfl) rfl (aA rfl) rfl c31 ?_
          refine aQ rfl rfl (aA rfl) rfl c26 (bH (v := .d (.lit (.bool false))) (aA rfl) rfl c31 rfl rfl) ?_
          have h30 := Option.some.inj h30
          subst h30
          refine aJ (bN rfl ⟨rfl, trivial⟩ rfl)
        ·refine tr1 rfl (bH (v := .d (.lit (.bool b29))) (aA rfl) rfl c26 rfl rfl) ?_
         have h25 := Option.some.inj h25
         subst h25
         refine aJ (bN rfl trivial rfl)
      ·refine tr1 rfl (aL (v := .d (.lit (.bool b24))) (aA rfl) rfl rfl) ?_
       refine aJ ?_
       have h := Option.some.inj h
       subst h
       refine cR (cQ (cX (l := [4]) ⟨rfl, trivial⟩)) ?_
       exact bV ⟨rfl, _, .one _, rfl, rfl⟩

theorem tF (l_0 : List aI) {r : (List aI)} (h : lA l_0 = some r) : Fn Try.prog 51 [.d (.sl 5 (l_0.map aP))] (.d (.sl 5 (r.map aP))) := by
 unfold lA at h
 refine Fn.of_tr Try.func51 rfl (rs := [.tmp 2]) Try.results51 Try.ntmps51 (Nat.le_of_ble_eq_true rfl) ?_
 refine aK ?_
 refine aH ?_
 refine tr1 rfl (rH 5 (aA rfl)) ?_
 refine aJ ?_
 refine aK ?_
 refine aH ?_
 refine tr1 rfl (jE 32 5 (.inl rfl) (aA rfl)) ?_
 refine aJ ?_
 refine aK ?_
 refine aK ?_
 refine aH ?_
 refine tr1 rfl (aL (v := .d (.lit (.int .i64 0))) (aA rfl) rfl rfl) ?_
 refine aJ ?_
 refine cF ?_
 refine dJ [0] (fun (s2 : Int × (List aI) × Value) => [(3, .d (.lit s2.2.2)), (4, .d (.lit (.int .i64 s2.1)))]) (fun (s2 : Int × (List aI) × Value) => [.arr s2.2.2 32 5 (s2.2.1.map aP)]) (fun (k : Nat) (s2 : Int × (List aI) × Value) => eC l_0 k s2.1 s2.2.1) (fun _ => rfl) (0, ([] : List aI), (.slice none 0 0)) h (bK [0] rfl rfl (aX rfl (aX rfl (bF ⟨rfl, trivial⟩)))) ?_
 rintro k4 ⟨i_0_2, out_0_2, w3⟩ h
 simp only [eC] at h
 refine aK ?_
 refine aK ?_
 refine aH ?_
 refine tr1 rfl (aE (v := .d (.lit (.int .i64 i_0_2))) (aA rfl) rfl rfl) ?_
 refine tr1 rfl (aE (v := .d (.sl 5 (l_0.map aP))) (aA rfl) rfl rfl) ?_
 refine tr1 rfl (dR (aA rfl) rfl fT.of) ?_
 refine tr1 rfl (bE (aA rfl) rfl rfl rfl) ?_
 refine aJ ?_
 refine bY rfl (fun c5 => ?_) (fun c5 => ?_)
 ·have h := bD c5 h
  refine bU ?_
  refine aK ?_
  refine cF ?_
  refine aK ?_
  refine aH ?_
  refine tr1 rfl (aL (v := .d (.lit (.bool false))) (aA rfl) rfl rfl) ?_
  refine aJ ?_
  refine aK ?_
  refine aK ?_
  refine aH ?_
  refine tr1 rfl (aL (v := .d (.lit (.int .i64 0))) (aA rfl) rfl rfl) ?_
  refine aJ ?_
  refine cF ?_
  refine dJ [0, 3, 4] (fun (s6 : Bool × Int) => [(5, .d (.lit (.bool s6.1))), (6, .d (.lit (.int .i64 s6.2)))]) (fun (s6 : Bool × Int) => [.arr w3 32 5 (out_0_2.map aP)]) (fun (k : Nat) (s6 : Bool × Int) => gA (eC l_0 k4) l_0 i_0_2 out_0_2 k s6.1 s6.2) (fun _ => rfl) (false, 0) h (bK [0] rfl rfl (aX rfl (aX rfl (bF ⟨rfl, rfl, rfl, trivial⟩)))) ?_
  rintro k7 ⟨twin_2_6, k_2_6⟩ h
  simp only [gA] at h
  refine aK ?_
  refine aK ?_
  refine aH ?_
  refine tr1 rfl (aE (v := .d (.lit (.int .i64 k_2_6))) (aA rfl) rfl rfl) ?_
  refine tr1 rfl (aE (v := .d (.lit w3)) (aA rfl) rfl rfl) ?_
  refine tr1 rfl (pG (m := 0) (aA rfl) rfl rfl fT.of) ?_
  refine tr1 rfl (bE (aA rfl) rfl rfl rfl) ?_
  refine aJ ?_
  refine bY rfl (fun c8 => ?_) (fun c8 => ?_)
  ·have h := bD c8 h
   refine bU ?_
   refine aK ?_
   refine cF ?_
   obtain ⟨b9, h10, h⟩ := bind_some h
   refine dN mix 12 [0, 3, 4, 6] [(30, .d (.lit (.bool b9)))] ?_ ?_
   ·refine bM (twin_2_6) (fun c11 => ?_) (fun c11 => ?_)
    ·have h10 := bD c11 h10
     have h10 := Option.some.inj h10
     subst h10
     refine ⟨[(19, 0, .d (.lit (.bool twin_2_6))), (20, 1, .d (.lit (.bool twin_2_6))), (21, 2, .tup []), (22, 3, .tup []), (23, 4, .tup []), (24, 5, .tup []), (25, 6, .tup []), (26, 7, .tup []), (27, 8, .tup []), (28, 9, .tup []), (29, 10, .tup []), (30, 11, .d (.lit (.bool true)))], ?_, ?_⟩
     · exact ⟨by kernel_rfl, by kernel_rfl, by kernel_rfl, by kernel_rfl, by kernel_rfl, [([], []), ([0], []), ([1], []), ([1], []), ([1, 2, 3], []), ([1, 4], []), ([1], []), ([1], []), ([1, 6, 7], []), ([1, 8], []), ([1, 5, 9], []), ([1, 10], [])], by kernel_rfl, ⟨fun S hS => aB rfl (aR rfl (aE (v := .d (.lit (.bool twin_2_6))) (aA rfl) (aC hS rfl) rfl)),
      fun S hS => aB rfl (aR rfl (aE (v := .d (.lit (.bool twin_2_6))) (aA rfl) (aC hS rfl) rfl)),
      fun S hS => aB rfl (aM rfl rfl (aA rfl) rfl (aA rfl) (aD hS rfl) c11),
      fun S hS => aB rfl (aM rfl rfl (aA rfl) rfl (aA rfl) (aD hS rfl) c11),
      fun S hS => aB rfl (aM rfl rfl (aA rfl) rfl (aA rfl) (aD hS rfl) c11),
      fun S hS => aB rfl (aM rfl rfl (aA rfl) rfl (aA rfl) (aD hS rfl) c11),
      fun S hS => aB rfl (aM rfl rfl (aA rfl) rfl (aA rfl) (aD hS rfl) c11),
      fun S hS => aB rfl (aM rfl rfl (aA rfl) rfl (aA rfl) (aD hS rfl) c11),
      fun S hS => aB rfl (aM rfl rfl (aA rfl) rfl (aA rfl) (aD hS rfl) c11),
      fun S hS => aB rfl (aM rfl rfl (aA rfl) rfl (aA rfl) (aD hS rfl) c11),
      fun S hS => aB rfl (aM rfl rfl (aA rfl) rfl (aA rfl) (aD hS rfl) c11),
      fun S hS => aB rfl (aR rfl (bO (v := .d (.lit (.bool true))) (aA rfl) (aC hS rfl) c11 rfl rfl)), trivial⟩⟩
     · exact cL (aX rfl (bF ⟨rfl, rfl, rfl, rfl, trivial⟩))
    ·have h10 := bB c11 h10
     obtain ⟨x12, h13, h10⟩ := bind_some h10
     obtain ⟨x14, h15, h10⟩ := bind_some h10
     have h10 := Option.some.inj h10
     subst h10
     refine ⟨[(19, 0, .d (.lit (.bool twin_2_6))), (20, 1, .d (.lit (.bool twin_2_6))), (21, 2, .d (.lit w3)), (22, 3, .d (.lit (.int .i64 k_2_6))), (23, 4, .ep w3 5 k_2_6.toNat 0), (24, 5, .agg (aP x12)), (25, 6, .d (.sl 5 (l_0.map aP))), (26, 7, .d (.lit (.int .i64 i_0_2))), (27, 8, .cp [.lit (.int .i64 x14.Kind), .lit (.int .i64 x14.Round), .lit (.int .i64 x14.Place), .lit (.int .i64 x14.Player), .lit (.int .i64 x14.Old)]), (28, 9, .agg (aP x14)), (29, 10, .d (.lit (.bool ((decide (x12 = x14)))))), (30, 11, .d (.lit (.bool ((decide (x12 = x14))))))], ?_, ?_⟩
     · exact ⟨by kernel_rfl, by kernel_rfl, by kernel_rfl, by kernel_rfl, by kernel_rfl, [([], []), ([0], []), ([1], []), ([1], []), ([1, 2, 3], []), ([1, 4], []), ([1], []), ([1], []), ([1, 6, 7], []), ([1, 8], []), ([1, 5, 9], []), ([1, 10], [])], by kernel_rfl, ⟨fun S hS => aB rfl (aR rfl (aE (v := .d (.lit (.bool twin_2_6))) (aA rfl) (aC hS rfl) rfl)),
      fun S hS => aB rfl (aR rfl (aE (v := .d (.lit (.bool twin_2_6))) (aA rfl) (aC hS rfl) rfl)),
      fun S hS => aB rfl (aG rfl rfl (aA rfl) (aD hS rfl) c11 (aE (v := .d (.lit w3)) (aA rfl) (aC hS rfl) rfl)),
      fun S hS => aB rfl (aG rfl rfl (aA rfl) (aD hS rfl) c11 (aE (v := .d (.lit (.int .i64 k_2_6))) (aA rfl) (aC hS rfl) rfl)),
      fun S hS => aB rfl (aG rfl rfl (aA rfl) (aD hS rfl) c11 (jH (m := 0) (aA rfl) (aC hS rfl) rfl (aC hS rfl) fT.of (bJ aP h13))),
      fun S hS => aB rfl (aG rfl rfl (aA rfl) (aD hS rfl) c11 (aHn (aA rfl) (aC hS rfl) (l := 0) rfl (sS aP h13) kC (es := (aP x12)) rfl rfl)),
      fun S hS => aB rfl (aG rfl rfl (aA rfl) (aD hS rfl) c11 (aE (v := .d (.sl 5 (l_0.map aP))) (aA rfl) (aC hS rfl) rfl)),
      fun S hS => aB rfl (aG rfl rfl (aA rfl) (aD hS rfl) c11 (aE (v := .d (.lit (.int .i64 i_0_2))) (aA rfl) (aC hS rfl) rfl)),
      fun S hS => aB rfl (aG rfl rfl (aA rfl) (aD hS rfl) c11 (bA (aA rfl) (aC hS rfl) (aC hS rfl) fT.of (bJ aP h15))),
      fun S hS => aB rfl (aG rfl rfl (aA rfl) (aD hS rfl) c11 (jP (aA rfl) (aC hS rfl) kC (es := (aP x14)) rfl rfl)),
      fun S hS => aB rfl (aG rfl rfl (aA rfl) (aD hS rfl) c11 (yX (a := x12) (b := x14) (aA rfl) (aC hS rfl) (aC hS rfl) rfl rfl Try.eqGuardType32 aDw)),
      fun S hS => aB rfl (aR rfl (bH (v := .d (.lit (.bool ((decide (x12 = x14)))))) (aA rfl) (aC hS rfl) c11 (aC hS rfl) rfl)), trivial⟩⟩
     · exact cL (aX rfl (bF ⟨rfl, rfl, rfl, rfl, trivial⟩))
   ·refine tr1 rfl (aL (v := .d (.lit (.bool b9))) (aA rfl) rfl rfl) ?_
    refine eY ?_
    refine aH ?_
    refine tr1 rfl (aE (v := .d (.lit (.int .i64 k_2_6))) (aA rfl) rfl rfl) ?_
    refine tr1 rfl (bL (aA rfl) rfl rfl rfl) ?_
    refine tr1 rfl (aL (v := .d (.lit (.int .i64 ((w64 (k_2_6 + 1)))))) (aA rfl) rfl rfl) ?_
    refine aJ ?_
    exact ⟨(b9, w64 (k_2_6 + 1)), h, bK [0] rfl rfl (aX rfl (aX rfl (bF ⟨rfl, rfl, rfl, trivial⟩)))⟩
  ·have h := bB c8 h
   refine dB ?_
   refine .inl ⟨rfl, ?_⟩
   simp only [kS] at h
   refine aK ?_
   refine aH ?_
   refine tr1 rfl (aE (v := .d (.lit (.bool twin_2_6))) (aA rfl) rfl rfl) ?_
   refine tr1 rfl (fJ (aA rfl) rfl) ?_
   refine aJ ?_
   refine bY rfl (fun c16 => ?_) (fun c16 => ?_)
   ·have h := bD c16 h
    refine aH ?_
    refine tr1 rfl (aE (v := .d (.lit w3)) (aA rfl) rfl rfl) ?_
    refine tr1 rfl (aE (v := .d (.sl 5 (l_0.map aP))) (aA rfl) rfl rfl) ?_
    refine tr1 rfl (aE (v := .d (.lit (.int .i64 i_0_2))) (aA rfl) rfl rfl) ?_
    obtain ⟨x17, h18, h⟩ := bind_some h
    refine tr1 rfl (bA (aA rfl) rfl rfl fT.of (bJ aP h18)) ?_
    refine tr1 rfl (jP (aA rfl) rfl kC (es := (aP x17)) rfl rfl) ?_
    refine tr1 rfl (gM (aA rfl) fT rfl rfl (rows := ([x17]).map aP) rfl (dV (f := aP) fun _ => rfl) rfl (by decide)) ?_
    obtain ⟨x19, h20, h⟩ := bind_some h
    refine cE rfl (gC (i := 0) (aA rfl) fT rfl rfl rfl (fun _ => rfl) h20 rfl) ?_
    rintro _ ⟨v21, rfl⟩
    refine tr1 rfl (aL (v := .d (.lit v21)) (aA rfl) rfl rfl) ?_
    refine eY ?_
    simp only [jD] at h
    refine aH ?_
    refine tr1 rfl (aE (v := .d (.lit (.int .i64 i_0_2))) (aA rfl) rfl rfl) ?_
    refine tr1 rfl (bL (aA rfl) rfl rfl rfl) ?_
    refine tr1 rfl (aL (v := .d (.lit (.int .i64 ((w64 (i_0_2 + 1)))))) (aA rfl) rfl rfl) ?_
    refine aJ ?_
    exact ⟨(w64 (i_0_2 + 1), x19, v21), h, bK [0] rfl rfl (aX rfl (aX rfl (bF ⟨rfl, trivial⟩)))⟩
   ·have h := bB c16 h
    refine eH ?_
    simp only [jD] at h
    refine aH ?_
    refine tr1 rfl (aE (v := .d (.lit (.int .i64 i_0_2))) (aA rfl) rfl rfl) ?_
    refine tr1 rfl (bL (aA rfl) rfl rfl rfl) ?_
    refine tr1 rfl (aL (v := .d (.lit (.int .i64 ((w64 (i_0_2 + 1)))))) (aA rfl) rfl rfl) ?_
    refine aJ ?_
    exact ⟨(w64 (i_0_2 + 1), out_0_2, w3), h, bK [0] rfl rfl (aX rfl (aX rfl (bF ⟨rfl, trivial⟩)))⟩
 ·have h := bB c5 h
  refine dB ?_
  refine .inl ⟨rfl, ?_⟩
  simp only [oS] at h
  refine aK ?_
  refine aH ?_
  refine tr1 rfl (aE (v := .d (.lit w3)) (aA rfl) rfl rfl) ?_
  refine tr1 rfl (aL (v := .d (.lit w3)) (aA rfl) rfl rfl) ?_
  refine aJ ?_
  have h := Option.some.inj h
  subst h
  refine cR (cQ (mC (k := 2) (v := .d (.sl 5 (out_0_2.map aP))) (.d (mH 0 rfl (dV (f := aP) fun _ => rfl))) (vH))) ?_
  exact bV ⟨rfl, _, .one _, rfl, rfl⟩

theorem aAv (l_0 : List Int) (n_1 : Int) {r : Bool} (h : nV l_0 n_1 = some r) : Fn Try.prog 52 [.d (.sl 1 (l_0.map aO)), .d (.lit (.int .i64 n_1))] (.d (.lit (.bool r))) := by
 unfold nV at h
 refine Fn.of_tr Try.func52 rfl (rs := [.tmp 4]) Try.results52 Try.ntmps52 (Nat.le_of_ble_eq_true rfl) ?_
 refine aK ?_
 refine aH ?_
 refine tr1 rfl (aL (v := .d (.lit (.bool false))) (aA rfl) rfl rfl) ?_
 refine aJ ?_
 refine aK ?_
 refine aK ?_
 refine aH ?_
 refine tr1 rfl (aL (v := .d (.lit (.int .i64 0))) (aA rfl) rfl rfl) ?_
 refine aJ ?_
 refine cF ?_
 refine dJ [0, 1] (fun (s1 : Int) => [(5, .d (.lit (.int .i64 s1)))]) (fun (s1 : Int) => []) (fun (k : Nat) (s1 : Int) => iS l_0 n_1 k s1) (fun _ => rfl) (0) h (bK [] rfl rfl (aX rfl (bF ⟨rfl, rfl, trivial⟩))) ?_
 rintro k2 i_0_1 h
 simp only [iS] at h
 refine aK ?_
 refine aK ?_
 refine aH ?_
 refine tr1 rfl (aE (v := .d (.lit (.int .i64 i_0_1))) (aA rfl) rfl rfl) ?_
 refine tr1 rfl (aE (v := .d (.sl 1 (l_0.map aO))) (aA rfl) rfl rfl) ?_
 refine tr1 rfl (dR (aA rfl) rfl bP.of) ?_
 refine tr1 rfl (bE (aA rfl) rfl rfl rfl) ?_
 refine aJ ?_
 refine bY rfl (fun c3 => ?_) (fun c3 => ?_)
 ·have h := bD c3 h
  refine bU ?_
  refine aK ?_
  refine cF ?_
  refine aK ?_
  refine aH ?_
  refine tr1 rfl (aE (v := .d (.sl 1 (l_0.map aO))) (aA rfl) rfl rfl) ?_
  refine tr1 rfl (aE (v := .d (.lit (.int .i64 i_0_1))) (aA rfl) rfl rfl) ?_
  obtain ⟨x4, h5, h⟩ := bind_some h
  refine tr1 rfl (bA (aA rfl) rfl rfl bP.of (bJ aO h5)) ?_
  refine tr1 rfl (bC (aA rfl) rfl aZ) ?_
  refine tr1 rfl (aE (v := .d (.lit (.int .i64 n_1))) (aA rfl) rfl rfl) ?_
  refine tr1 rfl (bE (aA rfl) rfl rfl rfl) ?_
  refine aJ ?_
  refine bY rfl (fun c6 => ?_) (fun c6 => ?_)
  ·have h := bD c6 h
   refine aK ?_
   refine aH ?_
   refine tr1 rfl (aL (v := .d (.lit (.bool true))) (aA rfl) rfl rfl) ?_
   refine aJ ?_
   have h := Option.some.inj h
   subst h
   exact bV ⟨rfl, _, .one _, rfl, rfl⟩
  ·have h := bB c6 h
   refine eH ?_
   refine aH ?_
   refine tr1 rfl (aE (v := .d (.lit (.int .i64 i_0_1))) (aA rfl) rfl rfl) ?_
   refine tr1 rfl (bL (aA rfl) rfl rfl rfl) ?_
   refine tr1 rfl (aL (v := .d (.lit (.int .i64 ((w64 (i_0_1 + 1)))))) (aA rfl) rfl rfl) ?_
   refine aJ ?_
   exact ⟨(w64 (i_0_1 + 1)), h, bK [] rfl rfl (aX rfl (bF ⟨rfl, rfl, trivial⟩))⟩
 ·have h := bB c3 h
  refine dB ?_
  refine .inl ⟨rfl, ?_⟩
  simp only [qB] at h
  refine aK ?_
  refine aH ?_
  refine tr1 rfl (aL (v := .d (.lit (.bool false))) (aA rfl) rfl rfl) ?_
  refine aJ ?_
  have h := Option.some.inj h
  subst h
  exact bV ⟨rfl, _, .one _, rfl, rfl⟩

end Go.Am
