/- The functions compute what the shallow ones say: printed by program. -/
import Derived.Test.YtenffgkkeafnpaaBmSh
import Derived.Test.YtenffgkkeafnpaaAmFam2
import Derived.Test.YtenffgkkeafnpaaAmRange
import Derived.Test.YtenffgkkeafnpaaAmSort
import Derived.Test.YtenffgkkeafnpaaTryShelf
import Derived.Test.YtenffgkkeafnpaaBkDet
import Derived.Test.YtenffgkkeafnpaaChecked
import Derived.KernelRfl
namespace Go.Am
open Go.Proofs
set_option maxRecDepth 100000
set_option maxHeartbeats 4000000

theorem mix : Try.prog.follows .mixedOrders = true := Checked.mixed Try.checked

theorem dY : oX Try.prog 24 2 := ⟨Try.isAgg24, Try.sizeOf24⟩
theorem eN : SliceTy Try.prog 25 32 5 40 (.agg #[.int .i64 0, .int .i64 0, .int .i64 0, .int .i64 0, .int .i64 0]) := ⟨Try.underlying25, ⟨Try.t32, by kernel_rfl, rfl, rfl, rfl⟩, rfl, by decide⟩
theorem qR : fV Try.prog 27 2 2 := eY Try.runUnderlying27 rfl rfl Try.sizeOf3
theorem bG : oL Try.prog 3 := ⟨Try.isAgg3, Try.sizeOf3⟩
theorem bY : SliceTy Try.prog 22 3 1 8 (.int .i64 0) := ⟨Try.underlying22, ⟨Try.t3, by kernel_rfl, rfl, rfl, rfl⟩, rfl, by decide⟩
theorem yU : fV Try.prog 39 0 0 := eY Try.runUnderlying39 rfl rfl Try.sizeOf3
theorem yV : fV Try.prog 39 1 1 := eY Try.runUnderlying39 rfl rfl Try.sizeOf3
theorem gS : fV Try.prog 24 0 0 := eY Try.runUnderlying24 rfl rfl Try.sizeOf3
theorem qS : fV Try.prog 27 3 3 := eY Try.runUnderlying27 rfl rfl Try.sizeOf3
theorem dO : fV Try.prog 24 1 1 := eY Try.runUnderlying24 rfl rfl Try.sizeOf22
theorem dD : oL Try.prog 22 := ⟨Try.isAgg22, Try.sizeOf22⟩
theorem jH : oX Try.prog 32 5 := ⟨Try.isAgg32, Try.sizeOf32⟩
theorem lD : fV Try.prog 32 3 3 := eY Try.runUnderlying32 rfl rfl Try.sizeOf3
theorem lU : fV Try.prog 32 0 0 := eY Try.runUnderlying32 rfl rfl Try.sizeOf3
theorem kL : fV Try.prog 32 1 1 := eY Try.runUnderlying32 rfl rfl Try.sizeOf3
theorem gY : fV Try.prog 32 2 2 := eY Try.runUnderlying32 rfl rfl Try.sizeOf3
theorem qT : fV Try.prog 32 4 4 := eY Try.runUnderlying32 rfl rfl Try.sizeOf3
theorem xN : nS Try.prog 89 (.agg #[.slice none 0 0, .slice none 0 0]) [(0, 1), (1, 1)] := ⟨Try.zeroValue89, _, Try.runUnderlying89, fun w => by simp [Try.sizeOf22, Try.sizeOf53]⟩
theorem qV : fV Try.prog 89 1 1 := eY Try.runUnderlying89 rfl rfl Try.sizeOf53
theorem xD : oL Try.prog 53 := ⟨Try.isAgg53, Try.sizeOf53⟩
theorem xV : SliceTy Try.prog 53 22 1 24 (.slice none 0 0) := ⟨Try.underlying53, ⟨Try.t22, by kernel_rfl, rfl, rfl, rfl⟩, rfl, by decide⟩
theorem uI : oX Try.prog 89 2 := ⟨Try.isAgg89, Try.sizeOf89⟩
theorem aCw : yM Try.prog 32 aK := by
  rintro ⟨a0, a1, a2, a3, a4⟩ ⟨b0, b1, b2, b3, b4⟩ w
  simp [aK, bH, go_sem, Op.eqFields, Program.fieldsOf] <;> (repeat' split) <;> simp_all
theorem aAr : SliceTy Try.prog 48 57 4 32 (.agg #[.int .i64 0, .int .i64 0, .int .i64 0, .int .i64 0]) := ⟨Try.underlying48, ⟨Try.t57, by kernel_rfl, rfl, rfl, rfl⟩, rfl, by decide⟩
theorem aCl : oX Try.prog 57 4 := ⟨Try.isAgg57, Try.sizeOf57⟩
theorem aDw : nS Try.prog 57 (.agg #[.int .i64 0, .int .i64 0, .int .i64 0, .int .i64 0]) [(0, 1), (1, 1), (2, 1), (3, 1)] := ⟨Try.zeroValue57, _, Try.runUnderlying57, fun w => by simp [Try.sizeOf3]⟩
theorem aHm : yM Try.prog 57 dG := by
  rintro ⟨a0, a1, a2, a3⟩ ⟨b0, b1, b2, b3⟩ w
  simp [dG, bH, go_sem, Op.eqFields, Program.fieldsOf] <;> (repeat' split) <;> simp_all
theorem zK : oX Try.prog 39 2 := ⟨Try.isAgg39, Try.sizeOf39⟩
theorem aAt : nS Try.prog 39 (.agg #[.int .i64 0, .int .i64 0]) [(0, 1), (1, 1)] := ⟨Try.zeroValue39, _, Try.runUnderlying39, fun w => by simp [Try.sizeOf3]⟩
theorem aLs : yM Try.prog 39 eB := by
  rintro ⟨a0, a1⟩ ⟨b0, b1⟩ w
  simp [eB, bH, go_sem, Op.eqFields, Program.fieldsOf] <;> (repeat' split) <;> simp_all
theorem aMc : nS Try.prog 24 (.agg #[.int .i64 0, .slice none 0 0]) [(0, 1), (1, 1)] := ⟨Try.zeroValue24, _, Try.runUnderlying24, fun w => by simp [Try.sizeOf22, Try.sizeOf3]⟩
theorem xM : nS Try.prog 32 (.agg #[.int .i64 0, .int .i64 0, .int .i64 0, .int .i64 0, .int .i64 0]) [(0, 1), (1, 1), (2, 1), (3, 1), (4, 1)] := ⟨Try.zeroValue32, _, Try.runUnderlying32, fun w => by simp [Try.sizeOf3]⟩
theorem aHx : oL Try.prog 48 := ⟨Try.isAgg48, Try.sizeOf48⟩
theorem aGc : oM Try.prog 3 (fun n : Int => Value.int .i64 n) := aHo Try.underlying3
theorem uT : nS Try.prog 70 (.agg #[.int .i64 0, .int .i64 0]) [(0, 1), (1, 1)] := ⟨Try.zeroValue70, _, Try.runUnderlying70, fun w => by simp [Try.sizeOf3]⟩
theorem jI : oX Try.prog 70 2 := ⟨Try.isAgg70, Try.sizeOf70⟩
theorem mW : fV Try.prog 70 0 0 := eY Try.runUnderlying70 rfl rfl Try.sizeOf3
theorem aDa : fV Try.prog 70 1 1 := eY Try.runUnderlying70 rfl rfl Try.sizeOf3
theorem aMd : nS Try.prog 75 (.agg #[.int .i64 0, .slice none 0 0, .slice none 0 0, .map none]) [(0, 2), (2, 1), (3, 1)] := ⟨Try.zeroValue75, _, Try.runUnderlying75, fun w => by simp [Try.sizeOf22, Try.sizeOf24, Try.sizeOf73]⟩
theorem aLp (b : Bool) (a : aD) (w : World) : (Instr.checkKey b 10000 32 (.agg ((aK a).map bH).toArray)).run Try.prog w = .ok () w := by
  obtain ⟨a1, a2, a3, a4, a5⟩ := a
  rw [show (10000 : Nat) = 9990 + 10 from rfl]
  generalize (9990 : Nat) = m
  simp [Instr.checkKey, aK, bH, go_sem, Std.Legacy.Range.forIn_eq_forIn_range', Std.Legacy.Range.size]
theorem aDe : oM Try.prog 32 (fun a : aD => Value.agg ((aK a).map bH).toArray) :=
  wU Try.underlying32 aCw aLp (fun a w => aDd _ rfl _ _) (by
    rintro ⟨a1, a2, a3, a4, a5⟩ ⟨b1, b2, b3, b4, b5⟩ h
    simp [aK] at h ⊢
    simp_all) (fun _ => rfl)
theorem wO : yM Try.prog 70 aH := by
  rintro ⟨a0, a1⟩ ⟨b0, b1⟩ w
  simp [aH, bH, go_sem, Op.eqFields, Program.fieldsOf] <;> (repeat' split) <;> simp_all
theorem aLq (b : Bool) (a : aB) (w : World) : (Instr.checkKey b 10000 70 (.agg ((aH a).map bH).toArray)).run Try.prog w = .ok () w := by
  obtain ⟨a1, a2⟩ := a
  rw [show (10000 : Nat) = 9990 + 10 from rfl]
  generalize (9990 : Nat) = m
  simp [Instr.checkKey, aH, bH, go_sem, Std.Legacy.Range.forIn_eq_forIn_range', Std.Legacy.Range.size]
theorem tA : oM Try.prog 70 (fun a : aB => Value.agg ((aH a).map bH).toArray) :=
  wU Try.underlying70 wO aLq (fun a w => aDd _ rfl _ _) (by
    rintro ⟨a1, a2⟩ ⟨b1, b2⟩ h
    simp [aH] at h ⊢
    simp_all) (fun _ => rfl)
theorem kM : fV Try.prog 75 1 2 := eY Try.runUnderlying75 rfl rfl Try.sizeOf22
theorem oE : fV Try.prog 75 0 0 := eY Try.runUnderlying75 rfl rfl Try.sizeOf24
theorem qU : fV Try.prog 75 2 3 := eY Try.runUnderlying75 rfl rfl Try.sizeOf73
theorem uN : oL Try.prog 73 := ⟨Try.isAgg73, Try.sizeOf73⟩
theorem yR (t_0 : aO) (l_1 : List aD) {r : Bool} (h : mD t_0 l_1 = some r) : Fn Try.prog 27 [.agg (aR t_0), .d (.sl 5 (l_1.map aK))] (.d (.lit (.bool r))) := by
 unfold mD at h
 refine Fn.of_tr Try.func27 rfl (rs := [.tmp 4]) Try.results27 Try.ntmps27 (Nat.le_of_ble_eq_true rfl) ?_
 refine aG ?_
 refine aC ?_
 refine bW rfl (fU (v := .agg (aR t_0)) (aA rfl) rfl rfl rfl) ?_
 rintro _ ⟨b1, rfl⟩
 refine tr1 rfl (aJ (v := .d (.lit (.bool false))) (aA rfl) rfl rfl) ?_
 refine aF ?_
 refine aG ?_
 refine aC ?_
 refine tr1 rfl (aS (aA rfl) rfl dO) ?_
 refine tr1 rfl (aV (aA rfl) rfl (i := 0) rfl rfl dD) ?_
 refine tr1 rfl (eG (aA rfl) rfl bY.of) ?_
 refine tr1 rfl (bF (aA rfl) rfl rfl rfl) ?_
 refine tr1 rfl (aE (v := .d (.lit (.bool ((decide (100 < (t_0.Slots.length : Int))))))) (aA rfl) rfl rfl) ?_
 obtain ⟨b2, h3, h⟩ := bind_some h
 refine cA 4 [] 13 b2 ?_ ?_
 ·refine bE (decide (100 < (t_0.Slots.length : Int))) (fun c4 => ?_) (fun c4 => ?_)
  ·have h3 := aY c4 h3
   refine aN rfl rfl (aA rfl) rfl (aA rfl) rfl c4 ?_
   refine aN rfl rfl (aA rfl) rfl (aA rfl) rfl c4 ?_
   refine aN rfl rfl (aA rfl) rfl (aA rfl) rfl c4 ?_
   refine tr1 rfl (bN (v := .d (.lit (.bool true))) (aA rfl) rfl c4 rfl rfl) ?_
   have h3 := Option.some.inj h3
   subst h3
   refine aF (bA rfl trivial rfl)
  ·have h3 := aX c4 h3
   refine aI rfl rfl (aA rfl) rfl c4 (aE (v := .d (.sl 5 (l_1.map aK))) (aA rfl) rfl rfl) ?_
   refine aI rfl rfl (aA rfl) rfl c4 (eG (aA rfl) rfl eN.of) ?_
   refine aI rfl rfl (aA rfl) rfl c4 (bF (aA rfl) rfl rfl rfl) ?_
   refine tr1 rfl (bM (v := .d (.lit (.bool ((decide (100 < (l_1.length : Int))))))) (aA rfl) rfl c4 rfl rfl) ?_
   have h3 := Option.some.inj h3
   subst h3
   refine aF (bA rfl trivial rfl)
 ·refine tr1 rfl (aJ (v := .d (.lit (.bool b2))) (aA rfl) rfl rfl) ?_
  refine aF ?_
  have h := Option.some.inj h
  subst h
  refine cN (cM (cO (l := [4]) ⟨rfl, trivial⟩)) ?_
  exact bK ⟨rfl, _, .one _, rfl, rfl⟩

theorem fF (n_0 : Int) (low_1 : Int) (high_2 : Int) {r : Bool} (h : dP n_0 low_1 high_2 = some r) : Fn Try.prog 41 [.d (.lit (.int .i64 n_0)), .d (.lit (.int .i64 low_1)), .d (.lit (.int .i64 high_2))] (.d (.lit (.bool r))) := by
 unfold dP at h
 refine Fn.of_tr Try.func41 rfl (rs := [.tmp 6]) Try.results41 Try.ntmps41 (Nat.le_of_ble_eq_true rfl) ?_
 refine aG ?_
 refine aC ?_
 refine tr1 rfl (aJ (v := .d (.lit (.bool false))) (aA rfl) rfl rfl) ?_
 refine aF ?_
 refine aG ?_
 refine aC ?_
 refine tr1 rfl (aE (v := .d (.lit (.int .i64 n_0))) (aA rfl) rfl rfl) ?_
 refine tr1 rfl (aE (v := .d (.lit (.int .i64 low_1))) (aA rfl) rfl rfl) ?_
 refine tr1 rfl (bF (aA rfl) rfl rfl rfl) ?_
 refine tr1 rfl (aE (v := .d (.lit (.bool ((decide (low_1 ≤ n_0)))))) (aA rfl) rfl rfl) ?_
 obtain ⟨b1, h2, h⟩ := bind_some h
 refine cA 4 [] 14 b1 ?_ ?_
 ·refine bE (decide (low_1 ≤ n_0)) (fun c3 => ?_) (fun c3 => ?_)
  ·have h2 := aY c3 h2
   refine aI rfl rfl (aA rfl) rfl c3 (aE (v := .d (.lit (.int .i64 n_0))) (aA rfl) rfl rfl) ?_
   refine aI rfl rfl (aA rfl) rfl c3 (aE (v := .d (.lit (.int .i64 high_2))) (aA rfl) rfl rfl) ?_
   refine aI rfl rfl (aA rfl) rfl c3 (bF (aA rfl) rfl rfl rfl) ?_
   refine tr1 rfl (bN (v := .d (.lit (.bool ((decide (n_0 ≤ high_2)))))) (aA rfl) rfl c3 rfl rfl) ?_
   have h2 := Option.some.inj h2
   subst h2
   refine aF (bA rfl trivial rfl)
  ·have h2 := aX c3 h2
   refine aN rfl rfl (aA rfl) rfl (aA rfl) rfl c3 ?_
   refine aN rfl rfl (aA rfl) rfl (aA rfl) rfl c3 ?_
   refine aN rfl rfl (aA rfl) rfl (aA rfl) rfl c3 ?_
   refine tr1 rfl (bM (v := .d (.lit (.bool false))) (aA rfl) rfl c3 rfl rfl) ?_
   have h2 := Option.some.inj h2
   subst h2
   refine aF (bA rfl trivial rfl)
 ·refine tr1 rfl (aJ (v := .d (.lit (.bool b1))) (aA rfl) rfl rfl) ?_
  refine aF ?_
  have h := Option.some.inj h
  subst h
  exact bK ⟨rfl, _, .one _, rfl, rfl⟩

theorem wB (t_0 : aO) {r : Bool} (h : jA t_0 = some r) : Fn Try.prog 53 [.agg (aR t_0)] (.d (.lit (.bool r))) := by
 unfold jA at h
 refine Fn.of_tr Try.func53 rfl (rs := [.tmp 2]) Try.results53 Try.ntmps53 (Nat.le_of_ble_eq_true rfl) ?_
 refine aG ?_
 refine aC ?_
 refine bW rfl (fU (v := .agg (aR t_0)) (aA rfl) rfl rfl rfl) ?_
 rintro _ ⟨b1, rfl⟩
 refine tr1 rfl (aJ (v := .d (.lit (.bool false))) (aA rfl) rfl rfl) ?_
 refine aF ?_
 refine aG ?_
 refine aG ?_
 refine aC ?_
 refine tr1 rfl (aS (aA rfl) rfl gS) ?_
 refine tr1 rfl (aV (aA rfl) rfl (i := 0) rfl rfl bG) ?_
 obtain ⟨r2, h3, h⟩ := bind_some h
 refine tr1 rfl (cP (aA rfl) (.func _ _ Try.call41) rfl rfl (BVs.refl _ _) (fF _ _ _ h3) rfl) ?_
 refine tr1 rfl (gL (aA rfl) rfl) ?_
 refine tr1 rfl (aE (v := .d (.lit (.bool (!r2)))) (aA rfl) rfl rfl) ?_
 obtain ⟨b4, h5, h⟩ := bind_some h
 refine cA 9 [1] 18 b4 ?_ ?_
 ·refine bE (!r2) (fun c41 => ?_) (fun c41 => ?_)
  ·have h5 := aY c41 h5
   refine aN rfl rfl (aA rfl) rfl (aA rfl) rfl c41 ?_
   refine aN rfl rfl (aA rfl) rfl (aA rfl) rfl c41 ?_
   refine aN rfl rfl (aA rfl) rfl (aA rfl) rfl c41 ?_
   refine aN rfl rfl (aA rfl) rfl (aA rfl) rfl c41 ?_
   refine aN rfl rfl (aA rfl) rfl (aA rfl) rfl c41 ?_
   refine aN rfl rfl (aA rfl) rfl (aA rfl) rfl c41 ?_
   refine aN rfl rfl (aA rfl) rfl (aA rfl) rfl c41 ?_
   refine aN rfl rfl (aA rfl) rfl (aA rfl) rfl c41 ?_
   refine tr1 rfl (bN (v := .d (.lit (.bool true))) (aA rfl) rfl c41 rfl rfl) ?_
   have h5 := Option.some.inj h5
   subst h5
   refine aF (bA rfl ⟨rfl, trivial⟩ rfl)
  ·have h5 := aX c41 h5
   refine aI rfl rfl (aA rfl) rfl c41 (aS (aA rfl) rfl dO) ?_
   refine aI rfl rfl (aA rfl) rfl c41 (aV (aA rfl) rfl (i := 0) rfl rfl dD) ?_
   refine aI rfl rfl (aA rfl) rfl c41 (eG (aA rfl) rfl bY.of) ?_
   refine aI rfl rfl (aA rfl) rfl c41 (aS (aA rfl) rfl gS) ?_
   refine aI rfl rfl (aA rfl) rfl c41 (aV (aA rfl) rfl (i := 0) rfl rfl bG) ?_
   refine aI rfl rfl (aA rfl) rfl c41 (uS (aA rfl) rfl Try.runUnderlying3 Try.runUnderlying45) ?_
   obtain ⟨u42, h43, h5⟩ := bind_some h5
   refine aI rfl rfl (aA rfl) rfl c41 (aGq (aA rfl) rfl rfl (rA h43)) ?_
   refine aI rfl rfl (aA rfl) rfl c41 (bF (aA rfl) rfl rfl rfl) ?_
   refine tr1 rfl (bM (v := .d (.lit (.bool ((!decide ((t_0.Slots.length : Int) = (w64 (1 * 2 ^ (min (IntKind.u64.wrap t_0.Rounds).toNat 64))))))))) (aA rfl) rfl c41 rfl rfl) ?_
   have h5 := Option.some.inj h5
   subst h5
   refine aF (bA rfl ⟨rfl, trivial⟩ rfl)
 ·refine aF ?_
  refine bR rfl (fun c6 => ?_) (fun c6 => ?_)
  ·have h := aY c6 h
   refine aG ?_
   refine aC ?_
   refine tr1 rfl (aJ (v := .d (.lit (.bool false))) (aA rfl) rfl rfl) ?_
   refine aF ?_
   have h := Option.some.inj h
   subst h
   refine cN (cM (cO (l := [2]) ⟨rfl, trivial⟩)) ?_
   exact bK ⟨rfl, _, .one _, rfl, rfl⟩
  ·have h := aX c6 h
   refine bL ?_
   refine aG ?_
   refine aG ?_
   refine aC ?_
   refine tr1 rfl (aJ (v := .d (.lit (.int .i64 0))) (aA rfl) rfl rfl) ?_
   refine aF ?_
   refine cE ?_
   refine dN [1] (fun (s7 : Int) => [(3, .d (.lit (.int .i64 s7)))]) (fun (s7 : Int) => [.box b1 0 (aR t_0)]) (fun (k : Nat) (s7 : Int) => eU t_0 k s7) (fun _ => rfl) (0) h (bD [0] rfl rfl (aT rfl (bC ⟨rfl, trivial⟩))) ?_
   rintro k8 i_0_7 h
   simp only [eU] at h
   refine aG ?_
   refine aG ?_
   refine aC ?_
   refine tr1 rfl (aE (v := .d (.lit (.int .i64 i_0_7))) (aA rfl) rfl rfl) ?_
   refine tr1 rfl (aS (aA rfl) rfl dO) ?_
   refine tr1 rfl (aV (aA rfl) rfl (i := 0) rfl rfl dD) ?_
   refine tr1 rfl (eG (aA rfl) rfl bY.of) ?_
   refine tr1 rfl (bF (aA rfl) rfl rfl rfl) ?_
   refine aF ?_
   refine bR rfl (fun c9 => ?_) (fun c9 => ?_)
   ·have h := aY c9 h
    refine bL ?_
    refine aG ?_
    refine cE ?_
    refine aG ?_
    refine aG ?_
    refine aC ?_
    refine tr1 rfl (aS (aA rfl) rfl dO) ?_
    refine tr1 rfl (aV (aA rfl) rfl (i := 0) rfl rfl dD) ?_
    refine tr1 rfl (aE (v := .d (.lit (.int .i64 i_0_7))) (aA rfl) rfl rfl) ?_
    obtain ⟨x10, h11, h⟩ := bind_some h
    refine tr1 rfl (bX (aA rfl) rfl rfl bY.of (cC aP h11)) ?_
    refine tr1 rfl (bU (aA rfl) rfl bG) ?_
    obtain ⟨r12, h13, h⟩ := bind_some h
    refine tr1 rfl (cP (aA rfl) (.func _ _ Try.call41) rfl rfl (BVs.refl _ _) (fF _ _ _ h13) rfl) ?_
    refine tr1 rfl (gL (aA rfl) rfl) ?_
    refine tr1 rfl (aE (v := .d (.lit (.bool (!r12)))) (aA rfl) rfl rfl) ?_
    obtain ⟨b14, h15, h⟩ := bind_some h
    refine cA 21 [1, 3] 54 b14 ?_ ?_
    ·refine bE (!r12) (fun c30 => ?_) (fun c30 => ?_)
     ·have h15 := aY c30 h15
      refine aN rfl rfl (aA rfl) rfl (aA rfl) rfl c30 ?_
      refine aN rfl rfl (aA rfl) rfl (aA rfl) rfl c30 ?_
      refine aN rfl rfl (aA rfl) rfl (aA rfl) rfl c30 ?_
      refine aN rfl rfl (aA rfl) rfl (aA rfl) rfl c30 ?_
      refine cY rfl rfl (aA rfl) rfl (aA rfl) rfl ?_
      refine cY rfl rfl (aA rfl) rfl (aA rfl) rfl ?_
      refine cY rfl rfl (aA rfl) rfl (aA rfl) rfl ?_
      refine cY rfl rfl (aA rfl) rfl (aA rfl) rfl ?_
      refine cY rfl rfl (aA rfl) rfl (aA rfl) rfl ?_
      refine cY rfl rfl (aA rfl) rfl (aA rfl) rfl ?_
      refine aN rfl rfl (aA rfl) rfl (aA rfl) rfl c30 ?_
      refine aN rfl rfl (aA rfl) rfl (aA rfl) rfl c30 ?_
      refine cY rfl rfl (aA rfl) rfl (aA rfl) rfl ?_
      refine cY rfl rfl (aA rfl) rfl (aA rfl) rfl ?_
      refine cY rfl rfl (aA rfl) rfl (aA rfl) rfl ?_
      refine cY rfl rfl (aA rfl) rfl (aA rfl) rfl ?_
      refine cY rfl rfl (aA rfl) rfl (aA rfl) rfl ?_
      refine cY rfl rfl (aA rfl) rfl (aA rfl) rfl ?_
      refine cY rfl rfl (aA rfl) rfl (aA rfl) rfl ?_
      refine aN rfl rfl (aA rfl) rfl (aA rfl) rfl c30 ?_
      refine tr1 rfl (bN (v := .d (.lit (.bool true))) (aA rfl) rfl c30 rfl rfl) ?_
      have h15 := Option.some.inj h15
      subst h15
      refine aF (bA rfl ⟨rfl, rfl, trivial⟩ rfl)
     ·have h15 := aX c30 h15
      refine aI rfl rfl (aA rfl) rfl c30 (aE (v := .d (.lit (.int .i64 i_0_7))) (aA rfl) rfl rfl) ?_
      refine aI rfl rfl (aA rfl) rfl c30 (aMk (aA rfl) rfl rfl (by decide)) ?_
      refine aI rfl rfl (aA rfl) rfl c30 (bF (aA rfl) rfl rfl rfl) ?_
      refine aI rfl rfl (aA rfl) rfl c30 (aE (v := .d (.lit (.bool ((decide ((i_0_7.tmod 2) = 1)))))) (aA rfl) rfl rfl) ?_
      obtain ⟨b31, h32, h15⟩ := bind_some h15
      refine cA 7 [1, 3, 33, 34, 35, 36, 37] 44 b31 ?_ ?_
      ·refine bE (decide ((i_0_7.tmod 2) = 1)) (fun c38 => ?_) (fun c38 => ?_)
       ·have h32 := aY c38 h32
        refine aI rfl rfl (aA rfl) rfl c38 (aS (aA rfl) rfl dO) ?_
        refine aI rfl rfl (aA rfl) rfl c38 (aV (aA rfl) rfl (i := 0) rfl rfl dD) ?_
        refine aI rfl rfl (aA rfl) rfl c38 (aE (v := .d (.lit (.int .i64 i_0_7))) (aA rfl) rfl rfl) ?_
        obtain ⟨x39, h40, h32⟩ := bind_some h32
        refine aI rfl rfl (aA rfl) rfl c38 (bX (aA rfl) rfl rfl bY.of (cC aP h40)) ?_
        refine aI rfl rfl (aA rfl) rfl c38 (bU (aA rfl) rfl bG) ?_
        refine aI rfl rfl (aA rfl) rfl c38 (bF (aA rfl) rfl rfl rfl) ?_
        refine aI rfl rfl (aA rfl) rfl c30 (bN (v := .d (.lit (.bool ((decide (x39 = (-1))))))) (aA rfl) rfl c38 rfl rfl) ?_
        have h32 := Option.some.inj h32
        subst h32
        refine aF (bA rfl ⟨rfl, rfl, rfl, rfl, rfl, rfl, rfl, trivial⟩ rfl)
       ·have h32 := aX c38 h32
        refine aN rfl rfl (aA rfl) rfl (aA rfl) rfl c38 ?_
        refine aN rfl rfl (aA rfl) rfl (aA rfl) rfl c38 ?_
        refine aN rfl rfl (aA rfl) rfl (aA rfl) rfl c38 ?_
        refine aN rfl rfl (aA rfl) rfl (aA rfl) rfl c38 ?_
        refine aN rfl rfl (aA rfl) rfl (aA rfl) rfl c38 ?_
        refine aN rfl rfl (aA rfl) rfl (aA rfl) rfl c38 ?_
        refine aI rfl rfl (aA rfl) rfl c30 (bM (v := .d (.lit (.bool false))) (aA rfl) rfl c38 rfl rfl) ?_
        have h32 := Option.some.inj h32
        subst h32
        refine aF (bA rfl ⟨rfl, rfl, rfl, rfl, rfl, rfl, rfl, trivial⟩ rfl)
      ·refine aI rfl rfl (aA rfl) rfl c30 (aE (v := .d (.lit (.bool b31))) (aA rfl) rfl rfl) ?_
       obtain ⟨b33, h34, h15⟩ := bind_some h15
       refine cA 8 [1, 3, 33, 34, 35, 36, 37, 44, 45] 53 b33 ?_ ?_
       ·refine bE (b31) (fun c35 => ?_) (fun c35 => ?_)
        ·have h34 := aY c35 h34
         refine aI rfl rfl (aA rfl) rfl c35 (aS (aA rfl) rfl dO) ?_
         refine aI rfl rfl (aA rfl) rfl c35 (aV (aA rfl) rfl (i := 0) rfl rfl dD) ?_
         refine aI rfl rfl (aA rfl) rfl c35 (aE (v := .d (.lit (.int .i64 i_0_7))) (aA rfl) rfl rfl) ?_
         refine aI rfl rfl (aA rfl) rfl c35 (bI (aA rfl) rfl rfl rfl) ?_
         obtain ⟨x36, h37, h34⟩ := bind_some h34
         refine aI rfl rfl (aA rfl) rfl c35 (bX (aA rfl) rfl rfl bY.of (cC aP h37)) ?_
         refine aI rfl rfl (aA rfl) rfl c35 (bU (aA rfl) rfl bG) ?_
         refine aI rfl rfl (aA rfl) rfl c35 (bF (aA rfl) rfl rfl rfl) ?_
         refine aI rfl rfl (aA rfl) rfl c30 (bN (v := .d (.lit (.bool ((decide (x36 = (-1))))))) (aA rfl) rfl c35 rfl rfl) ?_
         have h34 := Option.some.inj h34
         subst h34
         refine aF (bA rfl ⟨rfl, rfl, rfl, rfl, rfl, rfl, rfl, rfl, rfl, trivial⟩ rfl)
        ·have h34 := aX c35 h34
         refine aN rfl rfl (aA rfl) rfl (aA rfl) rfl c35 ?_
         refine aN rfl rfl (aA rfl) rfl (aA rfl) rfl c35 ?_
         refine aN rfl rfl (aA rfl) rfl (aA rfl) rfl c35 ?_
         refine aN rfl rfl (aA rfl) rfl (aA rfl) rfl c35 ?_
         refine aN rfl rfl (aA rfl) rfl (aA rfl) rfl c35 ?_
         refine aN rfl rfl (aA rfl) rfl (aA rfl) rfl c35 ?_
         refine aN rfl rfl (aA rfl) rfl (aA rfl) rfl c35 ?_
         refine aI rfl rfl (aA rfl) rfl c30 (bM (v := .d (.lit (.bool false))) (aA rfl) rfl c35 rfl rfl) ?_
         have h34 := Option.some.inj h34
         subst h34
         refine aF (bA rfl ⟨rfl, rfl, rfl, rfl, rfl, rfl, rfl, rfl, rfl, trivial⟩ rfl)
       ·refine tr1 rfl (bM (v := .d (.lit (.bool b33))) (aA rfl) rfl c30 rfl rfl) ?_
        have h15 := Option.some.inj h15
        subst h15
        refine aF (bA rfl ⟨rfl, rfl, trivial⟩ rfl)
    ·refine aF ?_
     refine bR rfl (fun c16 => ?_) (fun c16 => ?_)
     ·have h := aY c16 h
      refine aG ?_
      refine aC ?_
      refine tr1 rfl (aJ (v := .d (.lit (.bool false))) (aA rfl) rfl rfl) ?_
      refine aF ?_
      have h := Option.some.inj h
      subst h
      refine cN (cM (cO (l := [2]) ⟨rfl, trivial⟩)) ?_
      exact bK ⟨rfl, _, .one _, rfl, rfl⟩
     ·have h := aX c16 h
      refine bL ?_
      refine aG ?_
      refine aC ?_
      refine tr1 rfl (aJ (v := .d (.lit (.int .i64 0))) (aA rfl) rfl rfl) ?_
      refine aF ?_
      refine xX ?_
      refine dN [1, 3] (fun (s17 : Int) => [(4, .d (.lit (.int .i64 s17)))]) (fun (s17 : Int) => [.box b1 0 (aR t_0)]) (fun (k : Nat) (s17 : Int) => eV (eU t_0 k8) i_0_7 t_0 k s17) (fun _ => rfl) (0) h (bD [0] rfl rfl (aT rfl (bC ⟨rfl, rfl, trivial⟩))) ?_
      rintro k18 k_2_17 h
      simp only [eV] at h
      refine aG ?_
      refine aG ?_
      refine aC ?_
      refine tr1 rfl (aE (v := .d (.lit (.int .i64 k_2_17))) (aA rfl) rfl rfl) ?_
      refine tr1 rfl (aE (v := .d (.lit (.int .i64 i_0_7))) (aA rfl) rfl rfl) ?_
      refine tr1 rfl (bF (aA rfl) rfl rfl rfl) ?_
      refine aF ?_
      refine bR rfl (fun c19 => ?_) (fun c19 => ?_)
      ·have h := aY c19 h
       refine bL ?_
       refine aG ?_
       refine cE ?_
       refine aG ?_
       obtain ⟨x20, h21, h⟩ := bind_some h
       obtain ⟨x22, h23, h⟩ := bind_some h
       obtain ⟨b24, h25, h⟩ := bind_some h
       refine eE mix 19 [1, 3, 4] [(78, .d (.lit (.bool b24)))] ?_ ?_
       ·refine bE (decide (x20 = x22)) (fun c26 => ?_) (fun c26 => ?_)
        ·have h25 := aY c26 h25
         obtain ⟨x27, h28, h25⟩ := bind_some h25
         have h25 := Option.some.inj h25
         subst h25
         refine ⟨[(60, 0, .bp b1 0 1), (61, 1, .d (.sl 1 (t_0.Slots.map aP))), (62, 2, .d (.lit (.int .i64 k_2_17))), (63, 3, .cp [.lit (.int .i64 x20)]), (64, 4, .d (.lit (.int .i64 x20))), (65, 5, .bp b1 0 1), (66, 6, .d (.sl 1 (t_0.Slots.map aP))), (67, 7, .d (.lit (.int .i64 i_0_7))), (68, 8, .cp [.lit (.int .i64 x22)]), (69, 9, .d (.lit (.int .i64 x22))), (70, 10, .d (.lit (.bool ((decide (x20 = x22)))))), (71, 11, .d (.lit (.bool ((decide (x20 = x22)))))), (72, 12, .bp b1 0 1), (73, 13, .d (.sl 1 (t_0.Slots.map aP))), (74, 14, .d (.lit (.int .i64 i_0_7))), (75, 15, .cp [.lit (.int .i64 x27)]), (76, 16, .d (.lit (.int .i64 x27))), (77, 17, .d (.lit (.bool ((!decide (x27 = (-1))))))), (78, 18, .d (.lit (.bool ((!decide (x27 = (-1)))))))], ?_, ?_⟩
         · exact ⟨by kernel_rfl, by kernel_rfl, by kernel_rfl, by kernel_rfl, by kernel_rfl, [([], []), ([0], []), ([], []), ([1, 2], []), ([3], []), ([], []), ([5], []), ([], []), ([6, 7], []), ([8], []), ([4, 9], []), ([10], []), ([11], []), ([11, 12], []), ([11], []), ([11, 13, 14], []), ([11, 15], []), ([11, 16], []), ([11, 17], [])], by kernel_rfl, ⟨fun S hS => aL rfl (aU rfl (aS (aA rfl) (aM hS rfl) dO)),
      fun S hS => aL rfl (aU rfl (aV (aA rfl) (aM hS rfl) (i := 0) rfl rfl dD)),
      fun S hS => aL rfl (aU rfl (aE (v := .d (.lit (.int .i64 k_2_17))) (aA rfl) (aM hS rfl) rfl)),
      fun S hS => aL rfl (aU rfl (bX (aA rfl) (aM hS rfl) (aM hS rfl) bY.of (cC aP h21))),
      fun S hS => aL rfl (aU rfl (bU (aA rfl) (aM hS rfl) bG)),
      fun S hS => aL rfl (aU rfl (aS (aA rfl) (aM hS rfl) dO)),
      fun S hS => aL rfl (aU rfl (aV (aA rfl) (aM hS rfl) (i := 0) rfl rfl dD)),
      fun S hS => aL rfl (aU rfl (aE (v := .d (.lit (.int .i64 i_0_7))) (aA rfl) (aM hS rfl) rfl)),
      fun S hS => aL rfl (aU rfl (bX (aA rfl) (aM hS rfl) (aM hS rfl) bY.of (cC aP h23))),
      fun S hS => aL rfl (aU rfl (bU (aA rfl) (aM hS rfl) bG)),
      fun S hS => aL rfl (aU rfl (bF (aA rfl) (aM hS rfl) (aM hS rfl) rfl)),
      fun S hS => aL rfl (aU rfl (aE (v := .d (.lit (.bool ((decide (x20 = x22)))))) (aA rfl) (aM hS rfl) rfl)),
      fun S hS => aL rfl (bQ rfl rfl (aA rfl) (bB hS rfl) c26 (aS (aA rfl) (aM hS rfl) dO)),
      fun S hS => aL rfl (bQ rfl rfl (aA rfl) (bB hS rfl) c26 (aV (aA rfl) (aM hS rfl) (i := 0) rfl rfl dD)),
      fun S hS => aL rfl (bQ rfl rfl (aA rfl) (bB hS rfl) c26 (aE (v := .d (.lit (.int .i64 i_0_7))) (aA rfl) (aM hS rfl) rfl)),
      fun S hS => aL rfl (bQ rfl rfl (aA rfl) (bB hS rfl) c26 (bX (aA rfl) (aM hS rfl) (aM hS rfl) bY.of (cC aP h28))),
      fun S hS => aL rfl (bQ rfl rfl (aA rfl) (bB hS rfl) c26 (bU (aA rfl) (aM hS rfl) bG)),
      fun S hS => aL rfl (bQ rfl rfl (aA rfl) (bB hS rfl) c26 (bF (aA rfl) (aM hS rfl) rfl rfl)),
      fun S hS => aL rfl (aU rfl (bN (v := .d (.lit (.bool ((!decide (x27 = (-1))))))) (aA rfl) (aM hS rfl) c26 (aM hS rfl) rfl)), trivial⟩⟩
         · exact dM (aT rfl (bC ⟨rfl, rfl, rfl, trivial⟩))
        ·have h25 := aX c26 h25
         have h25 := Option.some.inj h25
         subst h25
         refine ⟨[(60, 0, .bp b1 0 1), (61, 1, .d (.sl 1 (t_0.Slots.map aP))), (62, 2, .d (.lit (.int .i64 k_2_17))), (63, 3, .cp [.lit (.int .i64 x20)]), (64, 4, .d (.lit (.int .i64 x20))), (65, 5, .bp b1 0 1), (66, 6, .d (.sl 1 (t_0.Slots.map aP))), (67, 7, .d (.lit (.int .i64 i_0_7))), (68, 8, .cp [.lit (.int .i64 x22)]), (69, 9, .d (.lit (.int .i64 x22))), (70, 10, .d (.lit (.bool ((decide (x20 = x22)))))), (71, 11, .d (.lit (.bool ((decide (x20 = x22)))))), (72, 12, .tup []), (73, 13, .tup []), (74, 14, .tup []), (75, 15, .tup []), (76, 16, .tup []), (77, 17, .tup []), (78, 18, .d (.lit (.bool false)))], ?_, ?_⟩
         · exact ⟨by kernel_rfl, by kernel_rfl, by kernel_rfl, by kernel_rfl, by kernel_rfl, [([], []), ([0], []), ([], []), ([1, 2], []), ([3], []), ([], []), ([5], []), ([], []), ([6, 7], []), ([8], []), ([4, 9], []), ([10], []), ([11], []), ([11, 12], []), ([11], []), ([11, 13, 14], []), ([11, 15], []), ([11, 16], []), ([11, 17], [])], by kernel_rfl, ⟨fun S hS => aL rfl (aU rfl (aS (aA rfl) (aM hS rfl) dO)),
      fun S hS => aL rfl (aU rfl (aV (aA rfl) (aM hS rfl) (i := 0) rfl rfl dD)),
      fun S hS => aL rfl (aU rfl (aE (v := .d (.lit (.int .i64 k_2_17))) (aA rfl) (aM hS rfl) rfl)),
      fun S hS => aL rfl (aU rfl (bX (aA rfl) (aM hS rfl) (aM hS rfl) bY.of (cC aP h21))),
      fun S hS => aL rfl (aU rfl (bU (aA rfl) (aM hS rfl) bG)),
      fun S hS => aL rfl (aU rfl (aS (aA rfl) (aM hS rfl) dO)),
      fun S hS => aL rfl (aU rfl (aV (aA rfl) (aM hS rfl) (i := 0) rfl rfl dD)),
      fun S hS => aL rfl (aU rfl (aE (v := .d (.lit (.int .i64 i_0_7))) (aA rfl) (aM hS rfl) rfl)),
      fun S hS => aL rfl (aU rfl (bX (aA rfl) (aM hS rfl) (aM hS rfl) bY.of (cC aP h23))),
      fun S hS => aL rfl (aU rfl (bU (aA rfl) (aM hS rfl) bG)),
      fun S hS => aL rfl (aU rfl (bF (aA rfl) (aM hS rfl) (aM hS rfl) rfl)),
      fun S hS => aL rfl (aU rfl (aE (v := .d (.lit (.bool ((decide (x20 = x22)))))) (aA rfl) (aM hS rfl) rfl)),
      fun S hS => aL rfl (bP rfl rfl (aA rfl) rfl (aA rfl) (bB hS rfl) c26),
      fun S hS => aL rfl (bP rfl rfl (aA rfl) rfl (aA rfl) (bB hS rfl) c26),
      fun S hS => aL rfl (bP rfl rfl (aA rfl) rfl (aA rfl) (bB hS rfl) c26),
      fun S hS => aL rfl (bP rfl rfl (aA rfl) rfl (aA rfl) (bB hS rfl) c26),
      fun S hS => aL rfl (bP rfl rfl (aA rfl) rfl (aA rfl) (bB hS rfl) c26),
      fun S hS => aL rfl (bP rfl rfl (aA rfl) rfl (aA rfl) (bB hS rfl) c26),
      fun S hS => aL rfl (aU rfl (bM (v := .d (.lit (.bool false))) (aA rfl) (aM hS rfl) c26 rfl rfl)), trivial⟩⟩
         · exact dM (aT rfl (bC ⟨rfl, rfl, rfl, trivial⟩))
       ·refine aF ?_
        refine bR rfl (fun c29 => ?_) (fun c29 => ?_)
        ·have h := aY c29 h
         refine aG ?_
         refine aC ?_
         refine tr1 rfl (aJ (v := .d (.lit (.bool false))) (aA rfl) rfl rfl) ?_
         refine aF ?_
         have h := Option.some.inj h
         subst h
         refine cN (cM (cO (l := [2]) ⟨rfl, trivial⟩)) ?_
         exact bK ⟨rfl, _, .one _, rfl, rfl⟩
        ·have h := aX c29 h
         refine eL ?_
         refine aC ?_
         refine tr1 rfl (aE (v := .d (.lit (.int .i64 k_2_17))) (aA rfl) rfl rfl) ?_
         refine tr1 rfl (bI (aA rfl) rfl rfl rfl) ?_
         refine tr1 rfl (aJ (v := .d (.lit (.int .i64 ((w64 (k_2_17 + 1)))))) (aA rfl) rfl rfl) ?_
         refine aF ?_
         exact ⟨(w64 (k_2_17 + 1)), h, bD [0] rfl rfl (aT rfl (bC ⟨rfl, rfl, trivial⟩))⟩
      ·have h := aX c19 h
       refine dA ?_
       refine .inl ⟨rfl, ?_⟩
       simp only [mT] at h
       simp only [mS] at h
       refine aC ?_
       refine tr1 rfl (aE (v := .d (.lit (.int .i64 i_0_7))) (aA rfl) rfl rfl) ?_
       refine tr1 rfl (bI (aA rfl) rfl rfl rfl) ?_
       refine tr1 rfl (aJ (v := .d (.lit (.int .i64 ((w64 (i_0_7 + 1)))))) (aA rfl) rfl rfl) ?_
       refine aF ?_
       exact ⟨(w64 (i_0_7 + 1)), h, bD [0] rfl rfl (aT rfl (bC ⟨rfl, trivial⟩))⟩
   ·have h := aX c9 h
    refine dA ?_
    refine .inl ⟨rfl, ?_⟩
    simp only [mR] at h
    refine aG ?_
    refine aC ?_
    refine tr1 rfl (aJ (v := .d (.lit (.bool true))) (aA rfl) rfl rfl) ?_
    refine aF ?_
    have h := Option.some.inj h
    subst h
    refine cN (cM (cO (l := [2]) ⟨rfl, trivial⟩)) ?_
    exact bK ⟨rfl, _, .one _, rfl, rfl⟩

theorem qK (t_0 : aO) (round_1 : Int) {r : Int} (h : gA t_0 round_1 = some r) : Fn Try.prog 42 [.agg (aR t_0), .d (.lit (.int .i64 round_1))] (.d (.lit (.int .i64 r))) := by
 unfold gA at h
 refine Fn.of_tr Try.func42 rfl (rs := [.tmp 4]) Try.results42 Try.ntmps42 (Nat.le_of_ble_eq_true rfl) ?_
 refine aG ?_
 refine aC ?_
 refine bW rfl (fU (v := .agg (aR t_0)) (aA rfl) rfl rfl rfl) ?_
 rintro _ ⟨b1, rfl⟩
 refine tr1 rfl (aJ (v := .d (.lit (.int .i64 0))) (aA rfl) rfl rfl) ?_
 refine aF ?_
 refine aG ?_
 refine aC ?_
 refine tr1 rfl (aS (aA rfl) rfl gS) ?_
 refine tr1 rfl (aV (aA rfl) rfl (i := 0) rfl rfl bG) ?_
 refine tr1 rfl (bI (aA rfl) rfl rfl rfl) ?_
 refine tr1 rfl (aE (v := .d (.lit (.int .i64 round_1))) (aA rfl) rfl rfl) ?_
 refine tr1 rfl (bI (aA rfl) rfl rfl rfl) ?_
 refine tr1 rfl (uS (aA rfl) rfl Try.runUnderlying3 Try.runUnderlying45) ?_
 obtain ⟨u2, h3, h⟩ := bind_some h
 refine tr1 rfl (aGq (aA rfl) rfl rfl (rA h3)) ?_
 refine tr1 rfl (aJ (v := .d (.lit (.int .i64 ((w64 (1 * 2 ^ (min (IntKind.u64.wrap (w64 ((w64 (t_0.Rounds - 1)) - round_1))).toNat 64))))))) (aA rfl) rfl rfl) ?_
 refine aF ?_
 have h := Option.some.inj h
 subst h
 refine cN (cM (cO (l := [4]) ⟨rfl, trivial⟩)) ?_
 exact bK ⟨rfl, _, .one _, rfl, rfl⟩

theorem vC (t_0 : aO) (round_1 : Int) (place_2 : Int) {r : Bool} (h : iH t_0 round_1 place_2 = some r) : Fn Try.prog 13 [.agg (aR t_0), .d (.lit (.int .i64 round_1)), .d (.lit (.int .i64 place_2))] (.d (.lit (.bool r))) := by
 unfold iH at h
 refine Fn.of_tr Try.func13 rfl (rs := [.tmp 6]) Try.results13 Try.ntmps13 (Nat.le_of_ble_eq_true rfl) ?_
 refine aG ?_
 refine aC ?_
 refine bW rfl (fU (v := .agg (aR t_0)) (aA rfl) rfl rfl rfl) ?_
 rintro _ ⟨b1, rfl⟩
 refine tr1 rfl (aJ (v := .d (.lit (.bool false))) (aA rfl) rfl rfl) ?_
 refine aF ?_
 refine aG ?_
 refine aC ?_
 refine tr1 rfl (aE (v := .d (.lit (.int .i64 round_1))) (aA rfl) rfl rfl) ?_
 refine tr1 rfl (aS (aA rfl) rfl gS) ?_
 refine tr1 rfl (aV (aA rfl) rfl (i := 0) rfl rfl bG) ?_
 refine tr1 rfl (bI (aA rfl) rfl rfl rfl) ?_
 obtain ⟨r2, h3, h⟩ := bind_some h
 refine tr1 rfl (cP (aA rfl) (.func _ _ Try.call41) rfl rfl (BVs.refl _ _) (fF _ _ _ h3) rfl) ?_
 refine tr1 rfl (aE (v := .d (.lit (.bool r2))) (aA rfl) rfl rfl) ?_
 obtain ⟨b4, h5, h⟩ := bind_some h
 refine cA 7 [] 19 b4 ?_ ?_
 ·refine bE (r2) (fun c6 => ?_) (fun c6 => ?_)
  ·have h5 := aY c6 h5
   refine aI rfl rfl (aA rfl) rfl c6 (aE (v := .d (.lit (.int .i64 place_2))) (aA rfl) rfl rfl) ?_
   refine aI rfl rfl (aA rfl) rfl c6 (bO (aA rfl) rfl (i := 0) rfl dY (es := (aR t_0)) rfl rfl) ?_
   refine aI rfl rfl (aA rfl) rfl c6 (aE (v := .d (.lit (.int .i64 round_1))) (aA rfl) rfl rfl) ?_
   obtain ⟨r7, h8, h5⟩ := bind_some h5
   refine aI rfl rfl (aA rfl) rfl c6 (cP (aA rfl) (.func _ _ Try.call42) rfl rfl (BVs.refl _ _) (qK _ _ h8) rfl) ?_
   refine aI rfl rfl (aA rfl) rfl c6 (bI (aA rfl) rfl rfl rfl) ?_
   obtain ⟨r9, h10, h5⟩ := bind_some h5
   refine aI rfl rfl (aA rfl) rfl c6 (cP (aA rfl) (.func _ _ Try.call41) rfl rfl (BVs.refl _ _) (fF _ _ _ h10) rfl) ?_
   refine tr1 rfl (bN (v := .d (.lit (.bool r9))) (aA rfl) rfl c6 rfl rfl) ?_
   have h5 := Option.some.inj h5
   subst h5
   refine aF (bA rfl trivial rfl)
  ·have h5 := aX c6 h5
   refine aN rfl rfl (aA rfl) rfl (aA rfl) rfl c6 ?_
   refine aN rfl rfl (aA rfl) rfl (aA rfl) rfl c6 ?_
   refine aN rfl rfl (aA rfl) rfl (aA rfl) rfl c6 ?_
   refine aN rfl rfl (aA rfl) rfl (aA rfl) rfl c6 ?_
   refine aN rfl rfl (aA rfl) rfl (aA rfl) rfl c6 ?_
   refine aN rfl rfl (aA rfl) rfl (aA rfl) rfl c6 ?_
   refine tr1 rfl (bM (v := .d (.lit (.bool false))) (aA rfl) rfl c6 rfl rfl) ?_
   have h5 := Option.some.inj h5
   subst h5
   refine aF (bA rfl trivial rfl)
 ·refine tr1 rfl (aJ (v := .d (.lit (.bool b4))) (aA rfl) rfl rfl) ?_
  refine aF ?_
  have h := Option.some.inj h
  subst h
  refine cN (cM (cO (l := [6]) ⟨rfl, trivial⟩)) ?_
  exact bK ⟨rfl, _, .one _, rfl, rfl⟩

theorem wC (t_0 : aO) (x_1 : aD) {r : Bool} (h : kO t_0 x_1 = some r) : Fn Try.prog 54 [.agg (aR t_0), .agg (aK x_1)] (.d (.lit (.bool r))) := by
 unfold kO at h
 refine Fn.of_tr Try.func54 rfl (rs := [.tmp 4]) Try.results54 Try.ntmps54 (Nat.le_of_ble_eq_true rfl) ?_
 refine aG ?_
 refine aC ?_
 refine bW rfl (fU (v := .agg (aR t_0)) (aA rfl) rfl rfl rfl) ?_
 rintro _ ⟨b1, rfl⟩
 refine bW rfl (fU (v := .agg (aK x_1)) (aA rfl) rfl rfl rfl) ?_
 rintro _ ⟨b2, rfl⟩
 refine tr1 rfl (aJ (v := .d (.lit (.bool false))) (aA rfl) rfl rfl) ?_
 refine aF ?_
 refine aG ?_
 refine aG ?_
 refine aC ?_
 refine tr1 rfl (aS (aA rfl) rfl lD) ?_
 refine tr1 rfl (aV (aA rfl) rfl (i := 1) rfl rfl bG) ?_
 obtain ⟨r3, h4, h⟩ := bind_some h
 refine tr1 rfl (cP (aA rfl) (.func _ _ Try.call41) rfl rfl (BVs.refl _ _) (fF _ _ _ h4) rfl) ?_
 refine tr1 rfl (gL (aA rfl) rfl) ?_
 refine aF ?_
 refine bR rfl (fun c5 => ?_) (fun c5 => ?_)
 ·have h := aY c5 h
  refine aG ?_
  refine aC ?_
  refine tr1 rfl (aJ (v := .d (.lit (.bool false))) (aA rfl) rfl rfl) ?_
  refine aF ?_
  have h := Option.some.inj h
  subst h
  refine cN (cM (cO (l := [4]) ⟨rfl, trivial⟩)) ?_
  exact bK ⟨rfl, _, .one _, rfl, rfl⟩
 ·have h := aX c5 h
  refine bL ?_
  refine aG ?_
  refine aG ?_
  refine aC ?_
  refine tr1 rfl (aS (aA rfl) rfl lU) ?_
  refine tr1 rfl (aV (aA rfl) rfl (i := 1) rfl rfl bG) ?_
  refine tr1 rfl (bF (aA rfl) rfl rfl rfl) ?_
  refine aF ?_
  refine bR rfl (fun c6 => ?_) (fun c6 => ?_)
  ·have h := aY c6 h
   refine aG ?_
   refine aC ?_
   refine tr1 rfl (aS (aA rfl) rfl kL) ?_
   refine tr1 rfl (aV (aA rfl) rfl (i := 1) rfl rfl bG) ?_
   refine tr1 rfl (bF (aA rfl) rfl rfl rfl) ?_
   refine tr1 rfl (aE (v := .d (.lit (.bool ((decide (x_1.Round = 0)))))) (aA rfl) rfl rfl) ?_
   obtain ⟨b7, h8, h⟩ := bind_some h
   refine cA 8 [3] 23 b7 ?_ ?_
   ·refine bE (decide (x_1.Round = 0)) (fun c14 => ?_) (fun c14 => ?_)
    ·have h8 := aY c14 h8
     refine aI rfl rfl (aA rfl) rfl c14 (aS (aA rfl) rfl gY) ?_
     refine aI rfl rfl (aA rfl) rfl c14 (aV (aA rfl) rfl (i := 1) rfl rfl bG) ?_
     refine aI rfl rfl (aA rfl) rfl c14 (aS (aA rfl) rfl dO) ?_
     refine aI rfl rfl (aA rfl) rfl c14 (aV (aA rfl) rfl (i := 0) rfl rfl dD) ?_
     refine aI rfl rfl (aA rfl) rfl c14 (eG (aA rfl) rfl bY.of) ?_
     refine aI rfl rfl (aA rfl) rfl c14 (bI (aA rfl) rfl rfl rfl) ?_
     obtain ⟨r15, h16, h8⟩ := bind_some h8
     refine aI rfl rfl (aA rfl) rfl c14 (cP (aA rfl) (.func _ _ Try.call41) rfl rfl (BVs.refl _ _) (fF _ _ _ h16) rfl) ?_
     refine tr1 rfl (bN (v := .d (.lit (.bool r15))) (aA rfl) rfl c14 rfl rfl) ?_
     have h8 := Option.some.inj h8
     subst h8
     refine aF (bA rfl ⟨rfl, trivial⟩ rfl)
    ·have h8 := aX c14 h8
     refine aN rfl rfl (aA rfl) rfl (aA rfl) rfl c14 ?_
     refine aN rfl rfl (aA rfl) rfl (aA rfl) rfl c14 ?_
     refine aN rfl rfl (aA rfl) rfl (aA rfl) rfl c14 ?_
     refine aN rfl rfl (aA rfl) rfl (aA rfl) rfl c14 ?_
     refine aN rfl rfl (aA rfl) rfl (aA rfl) rfl c14 ?_
     refine aN rfl rfl (aA rfl) rfl (aA rfl) rfl c14 ?_
     refine aN rfl rfl (aA rfl) rfl (aA rfl) rfl c14 ?_
     refine tr1 rfl (bM (v := .d (.lit (.bool false))) (aA rfl) rfl c14 rfl rfl) ?_
     have h8 := Option.some.inj h8
     subst h8
     refine aF (bA rfl ⟨rfl, trivial⟩ rfl)
   ·refine tr1 rfl (aE (v := .d (.lit (.bool b7))) (aA rfl) rfl rfl) ?_
    obtain ⟨b9, h10, h⟩ := bind_some h
    refine cA 4 [] 28 b9 ?_ ?_
    ·refine bE (b7) (fun c11 => ?_) (fun c11 => ?_)
     ·have h10 := aY c11 h10
      refine aI rfl rfl (aA rfl) rfl c11 (aS (aA rfl) rfl qT) ?_
      refine aI rfl rfl (aA rfl) rfl c11 (aV (aA rfl) rfl (i := 1) rfl rfl bG) ?_
      obtain ⟨r12, h13, h10⟩ := bind_some h10
      refine aI rfl rfl (aA rfl) rfl c11 (cP (aA rfl) (.func _ _ Try.call41) rfl rfl (BVs.refl _ _) (fF _ _ _ h13) rfl) ?_
      refine tr1 rfl (bN (v := .d (.lit (.bool r12))) (aA rfl) rfl c11 rfl rfl) ?_
      have h10 := Option.some.inj h10
      subst h10
      refine aF (bA rfl trivial rfl)
     ·have h10 := aX c11 h10
      refine aN rfl rfl (aA rfl) rfl (aA rfl) rfl c11 ?_
      refine aN rfl rfl (aA rfl) rfl (aA rfl) rfl c11 ?_
      refine aN rfl rfl (aA rfl) rfl (aA rfl) rfl c11 ?_
      refine tr1 rfl (bM (v := .d (.lit (.bool false))) (aA rfl) rfl c11 rfl rfl) ?_
      have h10 := Option.some.inj h10
      subst h10
      refine aF (bA rfl trivial rfl)
    ·refine tr1 rfl (aJ (v := .d (.lit (.bool b9))) (aA rfl) rfl rfl) ?_
     refine aF ?_
     have h := Option.some.inj h
     subst h
     refine cN (cM (cO (l := [4]) ⟨rfl, trivial⟩)) ?_
     exact bK ⟨rfl, _, .one _, rfl, rfl⟩
  ·have h := aX c6 h
   refine bL ?_
   refine aG ?_
   refine aG ?_
   refine aC ?_
   refine tr1 rfl (aS (aA rfl) rfl lU) ?_
   refine tr1 rfl (aV (aA rfl) rfl (i := 1) rfl rfl bG) ?_
   obtain ⟨r17, h18, h⟩ := bind_some h
   refine tr1 rfl (cP (aA rfl) (.func _ _ Try.call41) rfl rfl (BVs.refl _ _) (fF _ _ _ h18) rfl) ?_
   refine tr1 rfl (gL (aA rfl) rfl) ?_
   refine tr1 rfl (aE (v := .d (.lit (.bool (!r17)))) (aA rfl) rfl rfl) ?_
   obtain ⟨b19, h20, h⟩ := bind_some h
   refine cA 8 [2, 3] 41 b19 ?_ ?_
   ·refine bE (!r17) (fun c35 => ?_) (fun c35 => ?_)
    ·have h20 := aY c35 h20
     refine aN rfl rfl (aA rfl) rfl (aA rfl) rfl c35 ?_
     refine aN rfl rfl (aA rfl) rfl (aA rfl) rfl c35 ?_
     refine aN rfl rfl (aA rfl) rfl (aA rfl) rfl c35 ?_
     refine aN rfl rfl (aA rfl) rfl (aA rfl) rfl c35 ?_
     refine aN rfl rfl (aA rfl) rfl (aA rfl) rfl c35 ?_
     refine aN rfl rfl (aA rfl) rfl (aA rfl) rfl c35 ?_
     refine aN rfl rfl (aA rfl) rfl (aA rfl) rfl c35 ?_
     refine tr1 rfl (bN (v := .d (.lit (.bool true))) (aA rfl) rfl c35 rfl rfl) ?_
     have h20 := Option.some.inj h20
     subst h20
     refine aF (bA rfl ⟨rfl, rfl, trivial⟩ rfl)
    ·have h20 := aX c35 h20
     refine aI rfl rfl (aA rfl) rfl c35 (bO (aA rfl) rfl (i := 0) rfl dY (es := (aR t_0)) rfl rfl) ?_
     refine aI rfl rfl (aA rfl) rfl c35 (aS (aA rfl) rfl kL) ?_
     refine aI rfl rfl (aA rfl) rfl c35 (aV (aA rfl) rfl (i := 1) rfl rfl bG) ?_
     refine aI rfl rfl (aA rfl) rfl c35 (aS (aA rfl) rfl gY) ?_
     refine aI rfl rfl (aA rfl) rfl c35 (aV (aA rfl) rfl (i := 1) rfl rfl bG) ?_
     obtain ⟨r36, h37, h20⟩ := bind_some h20
     refine aI rfl rfl (aA rfl) rfl c35 (cP (aA rfl) (.func _ _ Try.call13) rfl rfl (BVs.refl _ _) (vC _ _ _ h37) rfl) ?_
     refine aI rfl rfl (aA rfl) rfl c35 (gL (aA rfl) rfl) ?_
     refine tr1 rfl (bM (v := .d (.lit (.bool (!r36)))) (aA rfl) rfl c35 rfl rfl) ?_
     have h20 := Option.some.inj h20
     subst h20
     refine aF (bA rfl ⟨rfl, rfl, trivial⟩ rfl)
   ·refine tr1 rfl (aE (v := .d (.lit (.bool b19))) (aA rfl) rfl rfl) ?_
    obtain ⟨b21, h22, h⟩ := bind_some h
    refine cA 4 [2, 3] 46 b21 ?_ ?_
    ·refine bE (b19) (fun c34 => ?_) (fun c34 => ?_)
     ·have h22 := aY c34 h22
      refine aN rfl rfl (aA rfl) rfl (aA rfl) rfl c34 ?_
      refine aN rfl rfl (aA rfl) rfl (aA rfl) rfl c34 ?_
      refine aN rfl rfl (aA rfl) rfl (aA rfl) rfl c34 ?_
      refine tr1 rfl (bN (v := .d (.lit (.bool true))) (aA rfl) rfl c34 rfl rfl) ?_
      have h22 := Option.some.inj h22
      subst h22
      refine aF (bA rfl ⟨rfl, rfl, trivial⟩ rfl)
     ·have h22 := aX c34 h22
      refine aI rfl rfl (aA rfl) rfl c34 (aS (aA rfl) rfl qT) ?_
      refine aI rfl rfl (aA rfl) rfl c34 (aV (aA rfl) rfl (i := 1) rfl rfl bG) ?_
      refine aI rfl rfl (aA rfl) rfl c34 (bF (aA rfl) rfl rfl rfl) ?_
      refine tr1 rfl (bM (v := .d (.lit (.bool ((!decide (x_1.Old = 0)))))) (aA rfl) rfl c34 rfl rfl) ?_
      have h22 := Option.some.inj h22
      subst h22
      refine aF (bA rfl ⟨rfl, rfl, trivial⟩ rfl)
    ·refine aF ?_
     refine bR rfl (fun c23 => ?_) (fun c23 => ?_)
     ·have h := aY c23 h
      refine aG ?_
      refine aC ?_
      refine tr1 rfl (aJ (v := .d (.lit (.bool false))) (aA rfl) rfl rfl) ?_
      refine aF ?_
      have h := Option.some.inj h
      subst h
      refine cN (cM (cO (l := [4]) ⟨rfl, trivial⟩)) ?_
      exact bK ⟨rfl, _, .one _, rfl, rfl⟩
     ·have h := aX c23 h
      refine bL ?_
      refine aG ?_
      refine aC ?_
      refine tr1 rfl (aS (aA rfl) rfl kL) ?_
      refine tr1 rfl (aV (aA rfl) rfl (i := 1) rfl rfl bG) ?_
      refine tr1 rfl (bF (aA rfl) rfl rfl rfl) ?_
      refine tr1 rfl (aE (v := .d (.lit (.bool ((decide (0 < x_1.Round)))))) (aA rfl) rfl rfl) ?_
      obtain ⟨b24, h25, h⟩ := bind_some h
      refine cA 20 [] 70 b24 ?_ ?_
      ·refine bE (decide (0 < x_1.Round)) (fun c26 => ?_) (fun c26 => ?_)
       ·have h25 := aY c26 h25
        refine aN rfl rfl (aA rfl) rfl (aA rfl) rfl c26 ?_
        refine aN rfl rfl (aA rfl) rfl (aA rfl) rfl c26 ?_
        refine aN rfl rfl (aA rfl) rfl (aA rfl) rfl c26 ?_
        refine aN rfl rfl (aA rfl) rfl (aA rfl) rfl c26 ?_
        refine aN rfl rfl (aA rfl) rfl (aA rfl) rfl c26 ?_
        refine aN rfl rfl (aA rfl) rfl (aA rfl) rfl c26 ?_
        refine aN rfl rfl (aA rfl) rfl (aA rfl) rfl c26 ?_
        refine aN rfl rfl (aA rfl) rfl (aA rfl) rfl c26 ?_
        refine aN rfl rfl (aA rfl) rfl (aA rfl) rfl c26 ?_
        refine cY rfl rfl (aA rfl) rfl (aA rfl) rfl ?_
        refine cY rfl rfl (aA rfl) rfl (aA rfl) rfl ?_
        refine cY rfl rfl (aA rfl) rfl (aA rfl) rfl ?_
        refine cY rfl rfl (aA rfl) rfl (aA rfl) rfl ?_
        refine cY rfl rfl (aA rfl) rfl (aA rfl) rfl ?_
        refine cY rfl rfl (aA rfl) rfl (aA rfl) rfl ?_
        refine cY rfl rfl (aA rfl) rfl (aA rfl) rfl ?_
        refine cY rfl rfl (aA rfl) rfl (aA rfl) rfl ?_
        refine cY rfl rfl (aA rfl) rfl (aA rfl) rfl ?_
        refine aN rfl rfl (aA rfl) rfl (aA rfl) rfl c26 ?_
        refine tr1 rfl (bN (v := .d (.lit (.bool true))) (aA rfl) rfl c26 rfl rfl) ?_
        have h25 := Option.some.inj h25
        subst h25
        refine aF (bA rfl trivial rfl)
       ·have h25 := aX c26 h25
        refine aI rfl rfl (aA rfl) rfl c26 (aS (aA rfl) rfl dO) ?_
        refine aI rfl rfl (aA rfl) rfl c26 (aV (aA rfl) rfl (i := 0) rfl rfl dD) ?_
        refine aI rfl rfl (aA rfl) rfl c26 (aS (aA rfl) rfl gY) ?_
        refine aI rfl rfl (aA rfl) rfl c26 (aV (aA rfl) rfl (i := 1) rfl rfl bG) ?_
        refine aI rfl rfl (aA rfl) rfl c26 (bI (aA rfl) rfl rfl rfl) ?_
        obtain ⟨x27, h28, h25⟩ := bind_some h25
        refine aI rfl rfl (aA rfl) rfl c26 (bX (aA rfl) rfl rfl bY.of (cC aP h28)) ?_
        refine aI rfl rfl (aA rfl) rfl c26 (bU (aA rfl) rfl bG) ?_
        refine aI rfl rfl (aA rfl) rfl c26 (bF (aA rfl) rfl rfl rfl) ?_
        refine aI rfl rfl (aA rfl) rfl c26 (aE (v := .d (.lit (.bool ((!decide (x27 = (-1))))))) (aA rfl) rfl rfl) ?_
        obtain ⟨b29, h30, h25⟩ := bind_some h25
        refine cA 10 [50] 69 b29 ?_ ?_
        ·refine bE (!decide (x27 = (-1))) (fun c31 => ?_) (fun c31 => ?_)
         ·have h30 := aY c31 h30
          refine aI rfl rfl (aA rfl) rfl c31 (aS (aA rfl) rfl dO) ?_
          refine aI rfl rfl (aA rfl) rfl c31 (aV (aA rfl) rfl (i := 0) rfl rfl dD) ?_
          refine aI rfl rfl (aA rfl) rfl c31 (aS (aA rfl) rfl gY) ?_
          refine aI rfl rfl (aA rfl) rfl c31 (aV (aA rfl) rfl (i := 1) rfl rfl bG) ?_
          refine aI rfl rfl (aA rfl) rfl c31 (bI (aA rfl) rfl rfl rfl) ?_
          refine aI rfl rfl (aA rfl) rfl c31 (bI (aA rfl) rfl rfl rfl) ?_
          obtain ⟨x32, h33, h30⟩ := bind_some h30
          refine aI rfl rfl (aA rfl) rfl c31 (bX (aA rfl) rfl rfl bY.of (cC aP h33)) ?_
          refine aI rfl rfl (aA rfl) rfl c31 (bU (aA rfl) rfl bG) ?_
          refine aI rfl rfl (aA rfl) rfl c31 (bF (aA rfl) rfl rfl rfl) ?_
          refine aI rfl rfl (aA rfl) rfl c26 (bN (v := .d (.lit (.bool ((!decide (x32 = (-1))))))) (aA rfl) rfl c31 rfl rfl) ?_
          have h30 := Option.some.inj h30
          subst h30
          refine aF (bA rfl ⟨rfl, trivial⟩ rfl)
         ·have h30 := aX c31 h30
          refine aN rfl rfl (aA rfl) rfl (aA rfl) rfl c31 ?_
          refine aN rfl rfl (aA rfl) rfl (aA rfl) rfl c31 ?_
          refine aN rfl rfl (aA rfl) rfl (aA rfl) rfl c31 ?_
          refine aN rfl rfl (aA rfl) rfl (aA rfl) rfl c31 ?_
          refine aN rfl rfl (aA rfl) rfl (aA rfl) rfl c31 ?_
          refine aN rfl rfl (aA rfl) rfl (aA rfl) rfl c31 ?_
          refine aN rfl rfl (aA rfl) rfl (aA rfl) rfl c31 ?_
          refine aN rfl rfl (aA rfl) rfl (aA rfl) rfl c31 ?_
          refine aN rfl rfl (aA rfl) rfl (aA rfl) rfl c31 ?_
          refine aI rfl rfl (aA rfl) rfl c26 (bM (v := .d (.lit (.bool false))) (aA rfl) rfl c31 rfl rfl) ?_
          have h30 := Option.some.inj h30
          subst h30
          refine aF (bA rfl ⟨rfl, trivial⟩ rfl)
        ·refine tr1 rfl (bM (v := .d (.lit (.bool b29))) (aA rfl) rfl c26 rfl rfl) ?_
         have h25 := Option.some.inj h25
         subst h25
         refine aF (bA rfl trivial rfl)
      ·refine tr1 rfl (aJ (v := .d (.lit (.bool b24))) (aA rfl) rfl rfl) ?_
       refine aF ?_
       have h := Option.some.inj h
       subst h
       refine cN (cM (cO (l := [4]) ⟨rfl, trivial⟩)) ?_
       exact bK ⟨rfl, _, .one _, rfl, rfl⟩

theorem sF (l_0 : List aD) {r : (List aD)} (h : kJ l_0 = some r) : Fn Try.prog 51 [.d (.sl 5 (l_0.map aK))] (.d (.sl 5 (r.map aK))) := by
 unfold kJ at h
 refine Fn.of_tr Try.func51 rfl (rs := [.tmp 2]) Try.results51 Try.ntmps51 (Nat.le_of_ble_eq_true rfl) ?_
 refine aG ?_
 refine aC ?_
 refine tr1 rfl (tW 5 (aA rfl)) ?_
 refine aF ?_
 refine aG ?_
 refine aC ?_
 refine tr1 rfl (kD 32 5 (.inl rfl) (aA rfl)) ?_
 refine aF ?_
 refine aG ?_
 refine aG ?_
 refine aC ?_
 refine tr1 rfl (aJ (v := .d (.lit (.int .i64 0))) (aA rfl) rfl rfl) ?_
 refine aF ?_
 refine cE ?_
 refine dN [0] (fun (s2 : Int × (List aD) × Value) => [(3, .d (.lit s2.2.2)), (4, .d (.lit (.int .i64 s2.1)))]) (fun (s2 : Int × (List aD) × Value) => [.arr s2.2.2 32 5 (s2.2.1.map aK)]) (fun (k : Nat) (s2 : Int × (List aD) × Value) => dR l_0 k s2.1 s2.2.1) (fun _ => rfl) (0, ([] : List aD), (.slice none 0 0)) h (bD [0] rfl rfl (aT rfl (aT rfl (bC ⟨rfl, trivial⟩)))) ?_
 rintro k4 ⟨i_0_2, out_0_2, w3⟩ h
 simp only [dR] at h
 refine aG ?_
 refine aG ?_
 refine aC ?_
 refine tr1 rfl (aE (v := .d (.lit (.int .i64 i_0_2))) (aA rfl) rfl rfl) ?_
 refine tr1 rfl (aE (v := .d (.sl 5 (l_0.map aK))) (aA rfl) rfl rfl) ?_
 refine tr1 rfl (eG (aA rfl) rfl eN.of) ?_
 refine tr1 rfl (bF (aA rfl) rfl rfl rfl) ?_
 refine aF ?_
 refine bR rfl (fun c5 => ?_) (fun c5 => ?_)
 ·have h := aY c5 h
  refine bL ?_
  refine aG ?_
  refine cE ?_
  refine aG ?_
  refine aC ?_
  refine tr1 rfl (aJ (v := .d (.lit (.bool false))) (aA rfl) rfl rfl) ?_
  refine aF ?_
  refine aG ?_
  refine aG ?_
  refine aC ?_
  refine tr1 rfl (aJ (v := .d (.lit (.int .i64 0))) (aA rfl) rfl rfl) ?_
  refine aF ?_
  refine cE ?_
  refine dN [0, 3, 4] (fun (s6 : Bool × Int) => [(5, .d (.lit (.bool s6.1))), (6, .d (.lit (.int .i64 s6.2)))]) (fun (s6 : Bool × Int) => [.arr w3 32 5 (out_0_2.map aK)]) (fun (k : Nat) (s6 : Bool × Int) => fM (dR l_0 k4) l_0 i_0_2 out_0_2 k s6.1 s6.2) (fun _ => rfl) (false, 0) h (bD [0] rfl rfl (aT rfl (aT rfl (bC ⟨rfl, rfl, rfl, trivial⟩)))) ?_
  rintro k7 ⟨twin_2_6, k_2_6⟩ h
  simp only [fM] at h
  refine aG ?_
  refine aG ?_
  refine aC ?_
  refine tr1 rfl (aE (v := .d (.lit (.int .i64 k_2_6))) (aA rfl) rfl rfl) ?_
  refine tr1 rfl (aE (v := .d (.lit w3)) (aA rfl) rfl rfl) ?_
  refine tr1 rfl (mX (m := 0) (aA rfl) rfl rfl eN.of) ?_
  refine tr1 rfl (bF (aA rfl) rfl rfl rfl) ?_
  refine aF ?_
  refine bR rfl (fun c8 => ?_) (fun c8 => ?_)
  ·have h := aY c8 h
   refine bL ?_
   refine aG ?_
   refine cE ?_
   obtain ⟨b9, h10, h⟩ := bind_some h
   refine eE mix 12 [0, 3, 4, 6] [(30, .d (.lit (.bool b9)))] ?_ ?_
   ·refine bE (twin_2_6) (fun c11 => ?_) (fun c11 => ?_)
    ·have h10 := aY c11 h10
     have h10 := Option.some.inj h10
     subst h10
     refine ⟨[(19, 0, .d (.lit (.bool twin_2_6))), (20, 1, .d (.lit (.bool twin_2_6))), (21, 2, .tup []), (22, 3, .tup []), (23, 4, .tup []), (24, 5, .tup []), (25, 6, .tup []), (26, 7, .tup []), (27, 8, .tup []), (28, 9, .tup []), (29, 10, .tup []), (30, 11, .d (.lit (.bool true)))], ?_, ?_⟩
     · exact ⟨by kernel_rfl, by kernel_rfl, by kernel_rfl, by kernel_rfl, by kernel_rfl, [([], []), ([0], []), ([1], []), ([1], []), ([1, 2, 3], []), ([1, 4], []), ([1], []), ([1], []), ([1, 6, 7], []), ([1, 8], []), ([1, 5, 9], []), ([1, 10], [])], by kernel_rfl, ⟨fun S hS => aL rfl (aU rfl (aE (v := .d (.lit (.bool twin_2_6))) (aA rfl) (aM hS rfl) rfl)),
      fun S hS => aL rfl (aU rfl (aE (v := .d (.lit (.bool twin_2_6))) (aA rfl) (aM hS rfl) rfl)),
      fun S hS => aL rfl (bP rfl rfl (aA rfl) rfl (aA rfl) (bB hS rfl) c11),
      fun S hS => aL rfl (bP rfl rfl (aA rfl) rfl (aA rfl) (bB hS rfl) c11),
      fun S hS => aL rfl (bP rfl rfl (aA rfl) rfl (aA rfl) (bB hS rfl) c11),
      fun S hS => aL rfl (bP rfl rfl (aA rfl) rfl (aA rfl) (bB hS rfl) c11),
      fun S hS => aL rfl (bP rfl rfl (aA rfl) rfl (aA rfl) (bB hS rfl) c11),
      fun S hS => aL rfl (bP rfl rfl (aA rfl) rfl (aA rfl) (bB hS rfl) c11),
      fun S hS => aL rfl (bP rfl rfl (aA rfl) rfl (aA rfl) (bB hS rfl) c11),
      fun S hS => aL rfl (bP rfl rfl (aA rfl) rfl (aA rfl) (bB hS rfl) c11),
      fun S hS => aL rfl (bP rfl rfl (aA rfl) rfl (aA rfl) (bB hS rfl) c11),
      fun S hS => aL rfl (aU rfl (bN (v := .d (.lit (.bool true))) (aA rfl) (aM hS rfl) c11 rfl rfl)), trivial⟩⟩
     · exact dM (aT rfl (bC ⟨rfl, rfl, rfl, rfl, trivial⟩))
    ·have h10 := aX c11 h10
     obtain ⟨x12, h13, h10⟩ := bind_some h10
     obtain ⟨x14, h15, h10⟩ := bind_some h10
     have h10 := Option.some.inj h10
     subst h10
     refine ⟨[(19, 0, .d (.lit (.bool twin_2_6))), (20, 1, .d (.lit (.bool twin_2_6))), (21, 2, .d (.lit w3)), (22, 3, .d (.lit (.int .i64 k_2_6))), (23, 4, .ep w3 5 k_2_6.toNat 0), (24, 5, .agg (aK x12)), (25, 6, .d (.sl 5 (l_0.map aK))), (26, 7, .d (.lit (.int .i64 i_0_2))), (27, 8, .cp [.lit (.int .i64 x14.Kind), .lit (.int .i64 x14.Round), .lit (.int .i64 x14.Place), .lit (.int .i64 x14.Player), .lit (.int .i64 x14.Old)]), (28, 9, .agg (aK x14)), (29, 10, .d (.lit (.bool ((decide (x12 = x14)))))), (30, 11, .d (.lit (.bool ((decide (x12 = x14))))))], ?_, ?_⟩
     · exact ⟨by kernel_rfl, by kernel_rfl, by kernel_rfl, by kernel_rfl, by kernel_rfl, [([], []), ([0], []), ([1], []), ([1], []), ([1, 2, 3], []), ([1, 4], []), ([1], []), ([1], []), ([1, 6, 7], []), ([1, 8], []), ([1, 5, 9], []), ([1, 10], [])], by kernel_rfl, ⟨fun S hS => aL rfl (aU rfl (aE (v := .d (.lit (.bool twin_2_6))) (aA rfl) (aM hS rfl) rfl)),
      fun S hS => aL rfl (aU rfl (aE (v := .d (.lit (.bool twin_2_6))) (aA rfl) (aM hS rfl) rfl)),
      fun S hS => aL rfl (bQ rfl rfl (aA rfl) (bB hS rfl) c11 (aE (v := .d (.lit w3)) (aA rfl) (aM hS rfl) rfl)),
      fun S hS => aL rfl (bQ rfl rfl (aA rfl) (bB hS rfl) c11 (aE (v := .d (.lit (.int .i64 k_2_6))) (aA rfl) (aM hS rfl) rfl)),
      fun S hS => aL rfl (bQ rfl rfl (aA rfl) (bB hS rfl) c11 (fJ (m := 0) (aA rfl) (aM hS rfl) rfl (aM hS rfl) eN.of (cC aK h13))),
      fun S hS => aL rfl (bQ rfl rfl (aA rfl) (bB hS rfl) c11 (aGn (aA rfl) (aM hS rfl) (l := 0) rfl (nE aK h13) jH (es := (aK x12)) rfl rfl)),
      fun S hS => aL rfl (bQ rfl rfl (aA rfl) (bB hS rfl) c11 (aE (v := .d (.sl 5 (l_0.map aK))) (aA rfl) (aM hS rfl) rfl)),
      fun S hS => aL rfl (bQ rfl rfl (aA rfl) (bB hS rfl) c11 (aE (v := .d (.lit (.int .i64 i_0_2))) (aA rfl) (aM hS rfl) rfl)),
      fun S hS => aL rfl (bQ rfl rfl (aA rfl) (bB hS rfl) c11 (bX (aA rfl) (aM hS rfl) (aM hS rfl) eN.of (cC aK h15))),
      fun S hS => aL rfl (bQ rfl rfl (aA rfl) (bB hS rfl) c11 (jV (aA rfl) (aM hS rfl) jH (es := (aK x14)) rfl rfl)),
      fun S hS => aL rfl (bQ rfl rfl (aA rfl) (bB hS rfl) c11 (xU (a := x12) (b := x14) (aA rfl) (aM hS rfl) (aM hS rfl) rfl rfl Try.eqGuardType32 aCw)),
      fun S hS => aL rfl (aU rfl (bM (v := .d (.lit (.bool ((decide (x12 = x14)))))) (aA rfl) (aM hS rfl) c11 (aM hS rfl) rfl)), trivial⟩⟩
     · exact dM (aT rfl (bC ⟨rfl, rfl, rfl, rfl, trivial⟩))
   ·refine tr1 rfl (aJ (v := .d (.lit (.bool b9))) (aA rfl) rfl rfl) ?_
    refine fH ?_
    refine aC ?_
    refine tr1 rfl (aE (v := .d (.lit (.int .i64 k_2_6))) (aA rfl) rfl rfl) ?_
    refine tr1 rfl (bI (aA rfl) rfl rfl rfl) ?_
    refine tr1 rfl (aJ (v := .d (.lit (.int .i64 ((w64 (k_2_6 + 1)))))) (aA rfl) rfl rfl) ?_
    refine aF ?_
    exact ⟨(b9, w64 (k_2_6 + 1)), h, bD [0] rfl rfl (aT rfl (aT rfl (bC ⟨rfl, rfl, rfl, trivial⟩)))⟩
  ·have h := aX c8 h
   refine dA ?_
   refine .inl ⟨rfl, ?_⟩
   simp only [jZ] at h
   refine aG ?_
   refine aC ?_
   refine tr1 rfl (aE (v := .d (.lit (.bool twin_2_6))) (aA rfl) rfl rfl) ?_
   refine tr1 rfl (gL (aA rfl) rfl) ?_
   refine aF ?_
   refine bR rfl (fun c16 => ?_) (fun c16 => ?_)
   ·have h := aY c16 h
    refine aC ?_
    refine tr1 rfl (aE (v := .d (.lit w3)) (aA rfl) rfl rfl) ?_
    refine tr1 rfl (aE (v := .d (.sl 5 (l_0.map aK))) (aA rfl) rfl rfl) ?_
    refine tr1 rfl (aE (v := .d (.lit (.int .i64 i_0_2))) (aA rfl) rfl rfl) ?_
    obtain ⟨x17, h18, h⟩ := bind_some h
    refine tr1 rfl (bX (aA rfl) rfl rfl eN.of (cC aK h18)) ?_
    refine tr1 rfl (jV (aA rfl) rfl jH (es := (aK x17)) rfl rfl) ?_
    refine tr1 rfl (gD (aA rfl) eN rfl rfl (rows := ([x17]).map aK) rfl (dI (f := aK) fun _ => rfl) rfl (by decide)) ?_
    obtain ⟨x19, h20, h⟩ := bind_some h
    refine bW rfl (fN (i := 0) (aA rfl) eN rfl rfl rfl (fun _ => rfl) h20 rfl) ?_
    rintro _ ⟨v21, rfl⟩
    refine tr1 rfl (aJ (v := .d (.lit v21)) (aA rfl) rfl rfl) ?_
    refine fH ?_
    simp only [iQ] at h
    refine aC ?_
    refine tr1 rfl (aE (v := .d (.lit (.int .i64 i_0_2))) (aA rfl) rfl rfl) ?_
    refine tr1 rfl (bI (aA rfl) rfl rfl rfl) ?_
    refine tr1 rfl (aJ (v := .d (.lit (.int .i64 ((w64 (i_0_2 + 1)))))) (aA rfl) rfl rfl) ?_
    refine aF ?_
    exact ⟨(w64 (i_0_2 + 1), x19, v21), h, bD [0] rfl rfl (aT rfl (aT rfl (bC ⟨rfl, trivial⟩)))⟩
   ·have h := aX c16 h
    refine eL ?_
    simp only [iQ] at h
    refine aC ?_
    refine tr1 rfl (aE (v := .d (.lit (.int .i64 i_0_2))) (aA rfl) rfl rfl) ?_
    refine tr1 rfl (bI (aA rfl) rfl rfl rfl) ?_
    refine tr1 rfl (aJ (v := .d (.lit (.int .i64 ((w64 (i_0_2 + 1)))))) (aA rfl) rfl rfl) ?_
    refine aF ?_
    exact ⟨(w64 (i_0_2 + 1), out_0_2, w3), h, bD [0] rfl rfl (aT rfl (aT rfl (bC ⟨rfl, trivial⟩)))⟩
 ·have h := aX c5 h
  refine dA ?_
  refine .inl ⟨rfl, ?_⟩
  simp only [oB] at h
  refine aG ?_
  refine aC ?_
  refine tr1 rfl (aE (v := .d (.lit w3)) (aA rfl) rfl rfl) ?_
  refine tr1 rfl (aJ (v := .d (.lit w3)) (aA rfl) rfl rfl) ?_
  refine aF ?_
  have h := Option.some.inj h
  subst h
  refine cN (cM (sN (k := 2) (v := .d (.sl 5 (out_0_2.map aK))) (.d (lC 0 rfl (dI (f := aK) fun _ => rfl))) (aEx))) ?_
  exact bK ⟨rfl, _, .one _, rfl, rfl⟩

theorem zT (l_0 : List Int) (n_1 : Int) {r : Bool} (h : nC l_0 n_1 = some r) : Fn Try.prog 52 [.d (.sl 1 (l_0.map aP)), .d (.lit (.int .i64 n_1))] (.d (.lit (.bool r))) := by
 unfold nC at h
 refine Fn.of_tr Try.func52 rfl (rs := [.tmp 4]) Try.results52 Try.ntmps52 (Nat.le_of_ble_eq_true rfl) ?_
 refine aG ?_
 refine aC ?_
 refine tr1 rfl (aJ (v := .d (.lit (.bool false))) (aA rfl) rfl rfl) ?_
 refine aF ?_
 refine aG ?_
 refine aG ?_
 refine aC ?_
 refine tr1 rfl (aJ (v := .d (.lit (.int .i64 0))) (aA rfl) rfl rfl) ?_
 refine aF ?_
 refine cE ?_
 refine dN [0, 1] (fun (s1 : Int) => [(5, .d (.lit (.int .i64 s1)))]) (fun (s1 : Int) => []) (fun (k : Nat) (s1 : Int) => iF l_0 n_1 k s1) (fun _ => rfl) (0) h (bD [] rfl rfl (aT rfl (bC ⟨rfl, rfl, trivial⟩))) ?_
 rintro k2 i_0_1 h
 simp only [iF] at h
 refine aG ?_
 refine aG ?_
 refine aC ?_
 refine tr1 rfl (aE (v := .d (.lit (.int .i64 i_0_1))) (aA rfl) rfl rfl) ?_
 refine tr1 rfl (aE (v := .d (.sl 1 (l_0.map aP))) (aA rfl) rfl rfl) ?_
 refine tr1 rfl (eG (aA rfl) rfl bY.of) ?_
 refine tr1 rfl (bF (aA rfl) rfl rfl rfl) ?_
 refine aF ?_
 refine bR rfl (fun c3 => ?_) (fun c3 => ?_)
 ·have h := aY c3 h
  refine bL ?_
  refine aG ?_
  refine cE ?_
  refine aG ?_
  refine aC ?_
  refine tr1 rfl (aE (v := .d (.sl 1 (l_0.map aP))) (aA rfl) rfl rfl) ?_
  refine tr1 rfl (aE (v := .d (.lit (.int .i64 i_0_1))) (aA rfl) rfl rfl) ?_
  obtain ⟨x4, h5, h⟩ := bind_some h
  refine tr1 rfl (bX (aA rfl) rfl rfl bY.of (cC aP h5)) ?_
  refine tr1 rfl (bU (aA rfl) rfl bG) ?_
  refine tr1 rfl (aE (v := .d (.lit (.int .i64 n_1))) (aA rfl) rfl rfl) ?_
  refine tr1 rfl (bF (aA rfl) rfl rfl rfl) ?_
  refine aF ?_
  refine bR rfl (fun c6 => ?_) (fun c6 => ?_)
  ·have h := aY c6 h
   refine aG ?_
   refine aC ?_
   refine tr1 rfl (aJ (v := .d (.lit (.bool true))) (aA rfl) rfl rfl) ?_
   refine aF ?_
   have h := Option.some.inj h
   subst h
   exact bK ⟨rfl, _, .one _, rfl, rfl⟩
  ·have h := aX c6 h
   refine eL ?_
   refine aC ?_
   refine tr1 rfl (aE (v := .d (.lit (.int .i64 i_0_1))) (aA rfl) rfl rfl) ?_
   refine tr1 rfl (bI (aA rfl) rfl rfl rfl) ?_
   refine tr1 rfl (aJ (v := .d (.lit (.int .i64 ((w64 (i_0_1 + 1)))))) (aA rfl) rfl rfl) ?_
   refine aF ?_
   exact ⟨(w64 (i_0_1 + 1)), h, bD [] rfl rfl (aT rfl (bC ⟨rfl, rfl, trivial⟩))⟩
 ·have h := aX c3 h
  refine dA ?_
  refine .inl ⟨rfl, ?_⟩
  simp only [pD] at h
  refine aG ?_
  refine aC ?_
  refine tr1 rfl (aJ (v := .d (.lit (.bool false))) (aA rfl) rfl rfl) ?_
  refine aF ?_
  have h := Option.some.inj h
  subst h
  exact bK ⟨rfl, _, .one _, rfl, rfl⟩

theorem pV (t_0 : aO) (l_1 : List aD) {r : (List Int) × Bool} (h : gP t_0 l_1 = some r) : Fn Try.prog 18 [.agg (aR t_0), .d (.sl 5 (l_1.map aK))] (.tup [.d (.sl 1 (r.1.map aP)), .d (.lit (.bool r.2))]) := by
 unfold gP at h
 refine Fn.of_tr Try.func18 rfl (rs := [.tmp 4, .tmp 5]) Try.results18 Try.ntmps18 (Nat.le_of_ble_eq_true rfl) ?_
 refine aG ?_
 refine aC ?_
 refine bW rfl (fU (v := .agg (aR t_0)) (aA rfl) rfl rfl rfl) ?_
 rintro _ ⟨b1, rfl⟩
 refine tr1 rfl (tW 1 (aA rfl)) ?_
 refine tr1 rfl (aJ (v := .d (.lit (.bool false))) (aA rfl) rfl rfl) ?_
 refine aF ?_
 refine aG ?_
 refine aC ?_
 refine tr1 rfl (aE (v := .d (.sl 5 (l_1.map aK))) (aA rfl) rfl rfl) ?_
 obtain ⟨r2, h3, h⟩ := bind_some h
 refine tr1 rfl (iB (aA rfl) (.func _ _ Try.call51) rfl rfl (sF _ h3)) ?_
 refine tr1 rfl (aJ (v := .d (.sl 5 (r2.map aK))) (aA rfl) rfl rfl) ?_
 refine aF ?_
 refine aG ?_
 refine aC ?_
 refine bW rfl (xG (aA rfl) bY rfl rfl (rows := (([] : List Int)).map aP) rfl (dI (f := aP) fun _ => rfl) rfl (by decide)) ?_
 rintro _ ⟨v4, rfl⟩
 refine tr1 rfl (aS (aA rfl) rfl dO) ?_
 refine tr1 rfl (aV (aA rfl) rfl (i := 0) rfl rfl dD) ?_
 obtain ⟨x5, h6, h⟩ := bind_some h
 refine bW rfl (fN (i := 1) (aA rfl) bY rfl rfl rfl (fun _ => rfl) h6 rfl) ?_
 rintro _ ⟨v7, rfl⟩
 refine tr1 rfl (aJ (v := .d (.lit v7)) (aA rfl) rfl rfl) ?_
 refine aF ?_
 refine aG ?_
 refine aC ?_
 refine tr1 rfl (kD 3 1 (.inl rfl) (aA rfl)) ?_
 refine aF ?_
 refine aG ?_
 refine aC ?_
 refine tr1 rfl (aJ (v := .d (.lit (.int .i64 0))) (aA rfl) rfl rfl) ?_
 refine aF ?_
 refine aG ?_
 refine aG ?_
 refine aC ?_
 refine tr1 rfl (aJ (v := .d (.lit (.int .i64 0))) (aA rfl) rfl rfl) ?_
 refine aF ?_
 refine cE ?_
 refine dN [2, 6] (fun (s9 : Int × Int × (List Int) × (List Int) × Value × Value) => [(7, .d (.lit s9.2.2.2.2.2)), (8, .d (.lit s9.2.2.2.2.1)), (9, .d (.lit (.int .i64 s9.1))), (10, .d (.lit (.int .i64 s9.2.1)))]) (fun (s9 : Int × Int × (List Int) × (List Int) × Value × Value) => [.box b1 0 (aR t_0), .arr s9.2.2.2.2.1 3 1 (s9.2.2.1.map aP), .arr s9.2.2.2.2.2 3 1 (s9.2.2.2.1.map aP)]) (fun (k : Nat) (s9 : Int × Int × (List Int) × (List Int) × Value × Value) => dK r2 t_0 k s9.1 s9.2.1 s9.2.2.1 s9.2.2.2.1) (fun _ => rfl) (0, 0, ([] : List Int), x5, (.slice none 0 0), v7) h (bD [0, 2, 1] rfl rfl (aT rfl (aT rfl (aT rfl (aT rfl (bC ⟨rfl, rfl, trivial⟩)))))) ?_
 rintro k12 ⟨used_0_9, i_0_9, out_0_9, o18_0_9, w10, w11⟩ h
 simp only [dK] at h
 refine aG ?_
 refine aG ?_
 refine aC ?_
 refine tr1 rfl (aE (v := .d (.lit (.int .i64 i_0_9))) (aA rfl) rfl rfl) ?_
 refine tr1 rfl (aS (aA rfl) rfl dO) ?_
 refine tr1 rfl (aV (aA rfl) rfl (i := 0) rfl rfl dD) ?_
 refine tr1 rfl (eG (aA rfl) rfl bY.of) ?_
 refine tr1 rfl (bF (aA rfl) rfl rfl rfl) ?_
 refine aF ?_
 refine bR rfl (fun c13 => ?_) (fun c13 => ?_)
 ·have h := aY c13 h
  refine bL ?_
  refine aG ?_
  refine cE ?_
  refine aG ?_
  refine aC ?_
  refine tr1 rfl (aS (aA rfl) rfl dO) ?_
  refine tr1 rfl (aV (aA rfl) rfl (i := 0) rfl rfl dD) ?_
  refine tr1 rfl (aE (v := .d (.lit (.int .i64 i_0_9))) (aA rfl) rfl rfl) ?_
  obtain ⟨x14, h15, h⟩ := bind_some h
  refine tr1 rfl (bX (aA rfl) rfl rfl bY.of (cC aP h15)) ?_
  refine tr1 rfl (bU (aA rfl) rfl bG) ?_
  refine tr1 rfl (aJ (v := .d (.lit (.int .i64 x14))) (aA rfl) rfl rfl) ?_
  refine aF ?_
  refine aG ?_
  refine aG ?_
  refine aC ?_
  refine tr1 rfl (aJ (v := .d (.lit (.bool true))) (aA rfl) rfl rfl) ?_
  refine aF ?_
  refine cE ?_
  refine dN [2, 6, 8, 10] (fun (s16 : Int × Int × Bool × (List Int) × Value) => [(7, .d (.lit s16.2.2.2.2)), (9, .d (.lit (.int .i64 s16.1))), (11, .d (.lit (.int .i64 s16.2.1))), (12, .d (.lit (.bool s16.2.2.1)))]) (fun (s16 : Int × Int × Bool × (List Int) × Value) => [.box b1 0 (aR t_0), .arr w10 3 1 (out_0_9.map aP), .arr s16.2.2.2.2 3 1 (s16.2.2.2.1.map aP)]) (fun (k : Nat) (s16 : Int × Int × Bool × (List Int) × Value) => eQ (dK r2 t_0 k12) r2 i_0_9 t_0 out_0_9 k s16.1 s16.2.1 s16.2.2.1 s16.2.2.2.1) (fun _ => rfl) (used_0_9, x14, true, o18_0_9, w11) h (bD [0, 1, 2] rfl rfl (aT rfl (aT rfl (aT rfl (aT rfl (bC ⟨rfl, rfl, rfl, rfl, trivial⟩)))))) ?_
  rintro k18 ⟨used_2_16, now_2_16, again_2_16, o18_2_16, w17⟩ h
  simp only [eQ] at h
  refine aG ?_
  refine aG ?_
  refine aC ?_
  refine tr1 rfl (aE (v := .d (.lit (.bool again_2_16))) (aA rfl) rfl rfl) ?_
  refine aF ?_
  refine bR rfl (fun c19 => ?_) (fun c19 => ?_)
  ·have h := aY c19 h
   refine bL ?_
   refine cE ?_
   refine aG ?_
   refine aC ?_
   refine tr1 rfl (aJ (v := .d (.lit (.bool false))) (aA rfl) rfl rfl) ?_
   refine aF ?_
   refine aG ?_
   refine aC ?_
   refine tr1 rfl (kD 3 1 (.inl rfl) (aA rfl)) ?_
   refine aF ?_
   refine aG ?_
   refine aG ?_
   refine aC ?_
   refine tr1 rfl (aJ (v := .d (.lit (.int .i64 0))) (aA rfl) rfl rfl) ?_
   refine aF ?_
   refine cE ?_
   refine dN [2, 6, 7, 8, 9, 10, 11, 12] (fun (s21 : Int × (List Int) × Value) => [(13, .d (.lit s21.2.2)), (14, .d (.lit (.int .i64 s21.1)))]) (fun (s21 : Int × (List Int) × Value) => [.box b1 0 (aR t_0), .arr w10 3 1 (out_0_9.map aP), .arr s21.2.2 3 1 (s21.2.1.map aP), .arr w17 3 1 (o18_2_16.map aP)]) (fun (k : Nat) (s21 : Int × (List Int) × Value) => dZ (dK r2 t_0 k12) (eQ (dK r2 t_0 k12) r2 i_0_9 t_0 out_0_9 k18) r2 used_2_16 i_0_9 now_2_16 false t_0 out_0_9 o18_2_16 k s21.1 s21.2.1) (fun _ => rfl) (0, ([] : List Int), (.slice none 0 0)) h (bD [0, 1, 3, 2] rfl rfl (aT rfl (aT rfl (bC ⟨rfl, rfl, rfl, rfl, rfl, rfl, rfl, rfl, trivial⟩)))) ?_
   rintro k23 ⟨k_4_21, nextv_4_21, w22⟩ h
   simp only [dZ] at h
   refine aG ?_
   refine aG ?_
   refine aC ?_
   refine tr1 rfl (aE (v := .d (.lit (.int .i64 k_4_21))) (aA rfl) rfl rfl) ?_
   refine tr1 rfl (aE (v := .d (.sl 5 (r2.map aK))) (aA rfl) rfl rfl) ?_
   refine tr1 rfl (eG (aA rfl) rfl eN.of) ?_
   refine tr1 rfl (bF (aA rfl) rfl rfl rfl) ?_
   refine aF ?_
   refine bR rfl (fun c24 => ?_) (fun c24 => ?_)
   ·have h := aY c24 h
    refine bL ?_
    refine aG ?_
    refine cE ?_
    refine aG ?_
    refine aC ?_
    refine tr1 rfl (aE (v := .d (.sl 5 (r2.map aK))) (aA rfl) rfl rfl) ?_
    refine tr1 rfl (aE (v := .d (.lit (.int .i64 k_4_21))) (aA rfl) rfl rfl) ?_
    obtain ⟨x25, h26, h⟩ := bind_some h
    refine tr1 rfl (bX (aA rfl) rfl rfl eN.of (cC aK h26)) ?_
    refine tr1 rfl (cW (aA rfl) rfl lU (es := [.lit (.int .i64 x25.Kind)]) rfl) ?_
    refine tr1 rfl (bU (aA rfl) rfl bG) ?_
    refine tr1 rfl (bF (aA rfl) rfl rfl rfl) ?_
    refine tr1 rfl (aE (v := .d (.lit (.bool ((decide (x25.Kind = 5)))))) (aA rfl) rfl rfl) ?_
    obtain ⟨b27, h28, h⟩ := bind_some h
    refine cA 8 [2, 6, 7, 8, 9, 10, 11, 12, 13, 14] 55 b27 ?_ ?_
    ·refine bE (decide (x25.Kind = 5)) (fun c40 => ?_) (fun c40 => ?_)
     ·have h28 := aY c40 h28
      refine aI rfl rfl (aA rfl) rfl c40 (aE (v := .d (.sl 5 (r2.map aK))) (aA rfl) rfl rfl) ?_
      refine aI rfl rfl (aA rfl) rfl c40 (aE (v := .d (.lit (.int .i64 k_4_21))) (aA rfl) rfl rfl) ?_
      obtain ⟨x41, h42, h28⟩ := bind_some h28
      refine aI rfl rfl (aA rfl) rfl c40 (bX (aA rfl) rfl rfl eN.of (cC aK h42)) ?_
      refine aI rfl rfl (aA rfl) rfl c40 (cW (aA rfl) rfl gY (es := [.lit (.int .i64 x41.Place)]) rfl) ?_
      refine aI rfl rfl (aA rfl) rfl c40 (bU (aA rfl) rfl bG) ?_
      refine aI rfl rfl (aA rfl) rfl c40 (aE (v := .d (.lit (.int .i64 i_0_9))) (aA rfl) rfl rfl) ?_
      refine aI rfl rfl (aA rfl) rfl c40 (bF (aA rfl) rfl rfl rfl) ?_
      refine tr1 rfl (bN (v := .d (.lit (.bool ((decide (x41.Place = i_0_9)))))) (aA rfl) rfl c40 rfl rfl) ?_
      have h28 := Option.some.inj h28
      subst h28
      refine aF (bA rfl ⟨rfl, rfl, rfl, rfl, rfl, rfl, rfl, rfl, rfl, rfl, trivial⟩ rfl)
     ·have h28 := aX c40 h28
      refine aN rfl rfl (aA rfl) rfl (aA rfl) rfl c40 ?_
      refine aN rfl rfl (aA rfl) rfl (aA rfl) rfl c40 ?_
      refine aN rfl rfl (aA rfl) rfl (aA rfl) rfl c40 ?_
      refine aN rfl rfl (aA rfl) rfl (aA rfl) rfl c40 ?_
      refine aN rfl rfl (aA rfl) rfl (aA rfl) rfl c40 ?_
      refine aN rfl rfl (aA rfl) rfl (aA rfl) rfl c40 ?_
      refine aN rfl rfl (aA rfl) rfl (aA rfl) rfl c40 ?_
      refine tr1 rfl (bM (v := .d (.lit (.bool false))) (aA rfl) rfl c40 rfl rfl) ?_
      have h28 := Option.some.inj h28
      subst h28
      refine aF (bA rfl ⟨rfl, rfl, rfl, rfl, rfl, rfl, rfl, rfl, rfl, rfl, trivial⟩ rfl)
    ·refine tr1 rfl (aE (v := .d (.lit (.bool b27))) (aA rfl) rfl rfl) ?_
     obtain ⟨b29, h30, h⟩ := bind_some h
     refine cA 8 [2, 6, 7, 8, 9, 10, 11, 12, 13, 14] 64 b29 ?_ ?_
     ·refine bE (b27) (fun c37 => ?_) (fun c37 => ?_)
      ·have h30 := aY c37 h30
       refine aI rfl rfl (aA rfl) rfl c37 (aE (v := .d (.sl 5 (r2.map aK))) (aA rfl) rfl rfl) ?_
       refine aI rfl rfl (aA rfl) rfl c37 (aE (v := .d (.lit (.int .i64 k_4_21))) (aA rfl) rfl rfl) ?_
       obtain ⟨x38, h39, h30⟩ := bind_some h30
       refine aI rfl rfl (aA rfl) rfl c37 (bX (aA rfl) rfl rfl eN.of (cC aK h39)) ?_
       refine aI rfl rfl (aA rfl) rfl c37 (cW (aA rfl) rfl qT (es := [.lit (.int .i64 x38.Old)]) rfl) ?_
       refine aI rfl rfl (aA rfl) rfl c37 (bU (aA rfl) rfl bG) ?_
       refine aI rfl rfl (aA rfl) rfl c37 (aE (v := .d (.lit (.int .i64 now_2_16))) (aA rfl) rfl rfl) ?_
       refine aI rfl rfl (aA rfl) rfl c37 (bF (aA rfl) rfl rfl rfl) ?_
       refine tr1 rfl (bN (v := .d (.lit (.bool ((decide (x38.Old = now_2_16)))))) (aA rfl) rfl c37 rfl rfl) ?_
       have h30 := Option.some.inj h30
       subst h30
       refine aF (bA rfl ⟨rfl, rfl, rfl, rfl, rfl, rfl, rfl, rfl, rfl, rfl, trivial⟩ rfl)
      ·have h30 := aX c37 h30
       refine aN rfl rfl (aA rfl) rfl (aA rfl) rfl c37 ?_
       refine aN rfl rfl (aA rfl) rfl (aA rfl) rfl c37 ?_
       refine aN rfl rfl (aA rfl) rfl (aA rfl) rfl c37 ?_
       refine aN rfl rfl (aA rfl) rfl (aA rfl) rfl c37 ?_
       refine aN rfl rfl (aA rfl) rfl (aA rfl) rfl c37 ?_
       refine aN rfl rfl (aA rfl) rfl (aA rfl) rfl c37 ?_
       refine aN rfl rfl (aA rfl) rfl (aA rfl) rfl c37 ?_
       refine tr1 rfl (bM (v := .d (.lit (.bool false))) (aA rfl) rfl c37 rfl rfl) ?_
       have h30 := Option.some.inj h30
       subst h30
       refine aF (bA rfl ⟨rfl, rfl, rfl, rfl, rfl, rfl, rfl, rfl, rfl, rfl, trivial⟩ rfl)
     ·refine aF ?_
      refine bR rfl (fun c31 => ?_) (fun c31 => ?_)
      ·have h := aY c31 h
       refine aC ?_
       refine tr1 rfl (aE (v := .d (.lit w22)) (aA rfl) rfl rfl) ?_
       refine tr1 rfl (aE (v := .d (.sl 5 (r2.map aK))) (aA rfl) rfl rfl) ?_
       refine tr1 rfl (aE (v := .d (.lit (.int .i64 k_4_21))) (aA rfl) rfl rfl) ?_
       obtain ⟨x32, h33, h⟩ := bind_some h
       refine tr1 rfl (bX (aA rfl) rfl rfl eN.of (cC aK h33)) ?_
       refine tr1 rfl (cW (aA rfl) rfl lD (es := [.lit (.int .i64 x32.Player)]) rfl) ?_
       refine tr1 rfl (bU (aA rfl) rfl bG) ?_
       refine tr1 rfl (gD (aA rfl) bY rfl rfl (rows := ([x32.Player]).map aP) rfl (dI (f := aP) fun _ => rfl) rfl (by decide)) ?_
       obtain ⟨x34, h35, h⟩ := bind_some h
       refine bW rfl (fN (i := 2) (aA rfl) bY rfl rfl rfl (fun _ => rfl) h35 rfl) ?_
       rintro _ ⟨v36, rfl⟩
       refine tr1 rfl (aJ (v := .d (.lit v36)) (aA rfl) rfl rfl) ?_
       refine fH ?_
       refine aC ?_
       refine tr1 rfl (aE (v := .d (.lit (.int .i64 k_4_21))) (aA rfl) rfl rfl) ?_
       refine tr1 rfl (bI (aA rfl) rfl rfl rfl) ?_
       refine tr1 rfl (aJ (v := .d (.lit (.int .i64 ((w64 (k_4_21 + 1)))))) (aA rfl) rfl rfl) ?_
       refine aF ?_
       exact ⟨(w64 (k_4_21 + 1), x34, v36), h, bD [0, 1, 2, 3] rfl rfl (aT rfl (aT rfl (bC ⟨rfl, rfl, rfl, rfl, rfl, rfl, rfl, rfl, trivial⟩)))⟩
      ·have h := aX c31 h
       refine eL ?_
       refine aC ?_
       refine tr1 rfl (aE (v := .d (.lit (.int .i64 k_4_21))) (aA rfl) rfl rfl) ?_
       refine tr1 rfl (bI (aA rfl) rfl rfl rfl) ?_
       refine tr1 rfl (aJ (v := .d (.lit (.int .i64 ((w64 (k_4_21 + 1)))))) (aA rfl) rfl rfl) ?_
       refine aF ?_
       exact ⟨(w64 (k_4_21 + 1), nextv_4_21, w22), h, bD [0, 1, 2, 3] rfl rfl (aT rfl (aT rfl (bC ⟨rfl, rfl, rfl, rfl, rfl, rfl, rfl, rfl, trivial⟩)))⟩
   ·have h := aX c24 h
    refine dA ?_
    refine .inl ⟨rfl, ?_⟩
    simp only [iK] at h
    refine aG ?_
    refine aG ?_
    refine aC ?_
    refine tr1 rfl (aE (v := .d (.lit w22)) (aA rfl) rfl rfl) ?_
    refine tr1 rfl (mX (m := 2) (aA rfl) rfl rfl bY.of) ?_
    refine tr1 rfl (bF (aA rfl) rfl rfl rfl) ?_
    refine tr1 rfl (aE (v := .d (.lit (.bool ((decide (1 < (nextv_4_21.length : Int))))))) (aA rfl) rfl rfl) ?_
    obtain ⟨b43, h44, h⟩ := bind_some h
    refine cA 11 [2, 6, 7, 8, 9, 10, 11, 12, 13] 87 b43 ?_ ?_
    ·refine bE (decide (1 < (nextv_4_21.length : Int))) (fun c52 => ?_) (fun c52 => ?_)
     ·have h44 := aY c52 h44
      refine aN rfl rfl (aA rfl) rfl (aA rfl) rfl c52 ?_
      refine aN rfl rfl (aA rfl) rfl (aA rfl) rfl c52 ?_
      refine aN rfl rfl (aA rfl) rfl (aA rfl) rfl c52 ?_
      refine aN rfl rfl (aA rfl) rfl (aA rfl) rfl c52 ?_
      refine cY rfl rfl (aA rfl) rfl (aA rfl) rfl ?_
      refine cY rfl rfl (aA rfl) rfl (aA rfl) rfl ?_
      refine cY rfl rfl (aA rfl) rfl (aA rfl) rfl ?_
      refine cY rfl rfl (aA rfl) rfl (aA rfl) rfl ?_
      refine cY rfl rfl (aA rfl) rfl (aA rfl) rfl ?_
      refine aN rfl rfl (aA rfl) rfl (aA rfl) rfl c52 ?_
      refine tr1 rfl (bN (v := .d (.lit (.bool true))) (aA rfl) rfl c52 rfl rfl) ?_
      have h44 := Option.some.inj h44
      subst h44
      refine aF (bA rfl ⟨rfl, rfl, rfl, rfl, rfl, rfl, rfl, rfl, rfl, trivial⟩ rfl)
     ·have h44 := aX c52 h44
      refine aI rfl rfl (aA rfl) rfl c52 (aE (v := .d (.lit w22)) (aA rfl) rfl rfl) ?_
      refine aI rfl rfl (aA rfl) rfl c52 (mX (m := 2) (aA rfl) rfl rfl bY.of) ?_
      refine aI rfl rfl (aA rfl) rfl c52 (bF (aA rfl) rfl rfl rfl) ?_
      refine aI rfl rfl (aA rfl) rfl c52 (aE (v := .d (.lit (.bool ((decide ((nextv_4_21.length : Int) = 1)))))) (aA rfl) rfl rfl) ?_
      obtain ⟨b53, h54, h44⟩ := bind_some h44
      refine cA 6 [2, 6, 7, 8, 9, 10, 11, 12, 13, 76, 77, 78, 79, 80] 86 b53 ?_ ?_
      ·refine bE (decide ((nextv_4_21.length : Int) = 1)) (fun c55 => ?_) (fun c55 => ?_)
       ·have h54 := aY c55 h54
        refine aI rfl rfl (aA rfl) rfl c55 (aE (v := .d (.lit w17)) (aA rfl) rfl rfl) ?_
        refine aI rfl rfl (aA rfl) rfl c55 (aE (v := .d (.lit w22)) (aA rfl) rfl rfl) ?_
        obtain ⟨x56, h57, h54⟩ := bind_some h54
        refine aI rfl rfl (aA rfl) rfl c55 (fJ (m := 2) (aA rfl) rfl rfl rfl bY.of (cC aP h57)) ?_
        refine aI rfl rfl (aA rfl) rfl c55 (jC (aA rfl) rfl (m := 2) rfl (nE aP h57) rfl bG) ?_
        obtain ⟨r58, h59, h54⟩ := bind_some h54
        refine aI rfl rfl (aA rfl) rfl c55 (cP (aA rfl) (.func _ _ Try.call52) rfl rfl (.cons (.d (lC 3 rfl (dI (f := aP) fun _ => rfl))) (.cons (.same _) .nil)) (zT _ _ h59) rfl) ?_
        refine aI rfl rfl (aA rfl) rfl c52 (bN (v := .d (.lit (.bool r58))) (aA rfl) rfl c55 rfl rfl) ?_
        have h54 := Option.some.inj h54
        subst h54
        refine aF (bA rfl ⟨rfl, rfl, rfl, rfl, rfl, rfl, rfl, rfl, rfl, rfl, rfl, rfl, rfl, rfl, trivial⟩ rfl)
       ·have h54 := aX c55 h54
        refine aN rfl rfl (aA rfl) rfl (aA rfl) rfl c55 ?_
        refine aN rfl rfl (aA rfl) rfl (aA rfl) rfl c55 ?_
        refine aN rfl rfl (aA rfl) rfl (aA rfl) rfl c55 ?_
        refine aN rfl rfl (aA rfl) rfl (aA rfl) rfl c55 ?_
        refine aN rfl rfl (aA rfl) rfl (aA rfl) rfl c55 ?_
        refine aI rfl rfl (aA rfl) rfl c52 (bM (v := .d (.lit (.bool false))) (aA rfl) rfl c55 rfl rfl) ?_
        have h54 := Option.some.inj h54
        subst h54
        refine aF (bA rfl ⟨rfl, rfl, rfl, rfl, rfl, rfl, rfl, rfl, rfl, rfl, rfl, rfl, rfl, rfl, trivial⟩ rfl)
      ·refine tr1 rfl (bM (v := .d (.lit (.bool b53))) (aA rfl) rfl c52 rfl rfl) ?_
       have h44 := Option.some.inj h44
       subst h44
       refine aF (bA rfl ⟨rfl, rfl, rfl, rfl, rfl, rfl, rfl, rfl, rfl, trivial⟩ rfl)
    ·refine aF ?_
     refine bR rfl (fun c45 => ?_) (fun c45 => ?_)
     ·have h := aY c45 h
      refine aG ?_
      refine aC ?_
      refine tr1 rfl (tW 1 (aA rfl)) ?_
      refine tr1 rfl (aJ (v := .d (.lit (.bool false))) (aA rfl) rfl rfl) ?_
      refine aF ?_
      have h := Option.some.inj h
      subst h
      refine cN (cM (cO (l := [4, 5]) ⟨rfl, rfl, trivial⟩)) ?_
      exact bK ⟨rfl, _, .two _ _, rfl, rfl⟩
     ·have h := aX c45 h
      refine bL ?_
      refine aG ?_
      refine aC ?_
      refine tr1 rfl (aE (v := .d (.lit w22)) (aA rfl) rfl rfl) ?_
      refine tr1 rfl (mX (m := 2) (aA rfl) rfl rfl bY.of) ?_
      refine tr1 rfl (bF (aA rfl) rfl rfl rfl) ?_
      refine aF ?_
      refine bR rfl (fun c46 => ?_) (fun c46 => ?_)
      ·have h := aY c46 h
       refine aG ?_
       refine aC ?_
       refine tr1 rfl (aE (v := .d (.lit w22)) (aA rfl) rfl rfl) ?_
       obtain ⟨x47, h48, h⟩ := bind_some h
       refine tr1 rfl (fJ (m := 2) (aA rfl) rfl rfl rfl bY.of (cC aP h48)) ?_
       refine tr1 rfl (jC (aA rfl) rfl (m := 2) rfl (nE aP h48) rfl bG) ?_
       refine tr1 rfl (aJ (v := .d (.lit (.int .i64 x47))) (aA rfl) rfl rfl) ?_
       refine aF ?_
       refine aG ?_
       refine aC ?_
       refine tr1 rfl (aE (v := .d (.lit w17)) (aA rfl) rfl rfl) ?_
       refine tr1 rfl (aE (v := .d (.lit (.int .i64 x47))) (aA rfl) rfl rfl) ?_
       refine tr1 rfl (gD (aA rfl) bY rfl rfl (rows := ([x47]).map aP) rfl (dI (f := aP) fun _ => rfl) rfl (by decide)) ?_
       obtain ⟨x49, h50, h⟩ := bind_some h
       refine bW rfl (fN (i := 3) (aA rfl) bY rfl rfl rfl (fun _ => rfl) h50 rfl) ?_
       rintro _ ⟨v51, rfl⟩
       refine tr1 rfl (aJ (v := .d (.lit v51)) (aA rfl) rfl rfl) ?_
       refine aF ?_
       refine aG ?_
       refine aC ?_
       refine tr1 rfl (aE (v := .d (.lit (.int .i64 used_2_16))) (aA rfl) rfl rfl) ?_
       refine tr1 rfl (bI (aA rfl) rfl rfl rfl) ?_
       refine tr1 rfl (aJ (v := .d (.lit (.int .i64 ((w64 (used_2_16 + 1)))))) (aA rfl) rfl rfl) ?_
       refine aF ?_
       refine aC ?_
       refine tr1 rfl (aJ (v := .d (.lit (.bool true))) (aA rfl) rfl rfl) ?_
       refine fH ?_
       simp only [gK] at h
       exact ⟨(w64 (used_2_16 + 1), x47, true, x49, v51), h, bD [0, 1, 3] rfl rfl (aT rfl (aT rfl (aT rfl (aT rfl (bC ⟨rfl, rfl, rfl, rfl, trivial⟩)))))⟩
      ·have h := aX c46 h
       refine eL ?_
       simp only [gK] at h
       exact ⟨(used_2_16, now_2_16, false, o18_2_16, w17), h, bD [0, 1, 3] rfl rfl (aT rfl (aT rfl (aT rfl (aT rfl (bC ⟨rfl, rfl, rfl, rfl, trivial⟩)))))⟩
  ·have h := aX c19 h
   refine dA ?_
   refine .inl ⟨rfl, ?_⟩
   simp only [kI] at h
   refine aC ?_
   refine tr1 rfl (aE (v := .d (.lit w10)) (aA rfl) rfl rfl) ?_
   refine tr1 rfl (aE (v := .d (.lit (.int .i64 now_2_16))) (aA rfl) rfl rfl) ?_
   refine tr1 rfl (gD (aA rfl) bY rfl rfl (rows := ([now_2_16]).map aP) rfl (dI (f := aP) fun _ => rfl) rfl (by decide)) ?_
   obtain ⟨x60, h61, h⟩ := bind_some h
   refine bW rfl (fN (i := 1) (aA rfl) bY rfl rfl rfl (fun _ => rfl) h61 rfl) ?_
   rintro _ ⟨v62, rfl⟩
   refine tr1 rfl (aJ (v := .d (.lit v62)) (aA rfl) rfl rfl) ?_
   refine fH ?_
   simp only [mG] at h
   refine aC ?_
   refine tr1 rfl (aE (v := .d (.lit (.int .i64 i_0_9))) (aA rfl) rfl rfl) ?_
   refine tr1 rfl (bI (aA rfl) rfl rfl rfl) ?_
   refine tr1 rfl (aJ (v := .d (.lit (.int .i64 ((w64 (i_0_9 + 1)))))) (aA rfl) rfl rfl) ?_
   refine aF ?_
   exact ⟨(used_2_16, w64 (i_0_9 + 1), x60, o18_2_16, v62, w17), h, bD [0, 1, 2] rfl rfl (aT rfl (aT rfl (aT rfl (aT rfl (bC ⟨rfl, rfl, trivial⟩)))))⟩
 ·have h := aX c13 h
  refine dA ?_
  refine .inl ⟨rfl, ?_⟩
  simp only [mF] at h
  refine aG ?_
  refine aG ?_
  refine aC ?_
  refine tr1 rfl (aJ (v := .d (.lit (.int .i64 0))) (aA rfl) rfl rfl) ?_
  refine aF ?_
  refine cE ?_
  refine dN [6, 8] (fun (s63 : Int × Int) => [(9, .d (.lit (.int .i64 s63.1))), (15, .d (.lit (.int .i64 s63.2)))]) (fun (s63 : Int × Int) => [.arr w10 3 1 (out_0_9.map aP)]) (fun (k : Nat) (s63 : Int × Int) => eA r2 out_0_9 k s63.1 s63.2) (fun _ => rfl) (used_0_9, 0) h (bD [1] rfl rfl (aT rfl (aT rfl (bC ⟨rfl, rfl, trivial⟩)))) ?_
  rintro k64 ⟨used_6_63, k_6_63⟩ h
  simp only [eA] at h
  refine aG ?_
  refine aG ?_
  refine aC ?_
  refine tr1 rfl (aE (v := .d (.lit (.int .i64 k_6_63))) (aA rfl) rfl rfl) ?_
  refine tr1 rfl (aE (v := .d (.sl 5 (r2.map aK))) (aA rfl) rfl rfl) ?_
  refine tr1 rfl (eG (aA rfl) rfl eN.of) ?_
  refine tr1 rfl (bF (aA rfl) rfl rfl rfl) ?_
  refine aF ?_
  refine bR rfl (fun c65 => ?_) (fun c65 => ?_)
  ·have h := aY c65 h
   refine bL ?_
   refine aG ?_
   refine cE ?_
   refine aG ?_
   refine aC ?_
   refine tr1 rfl (aE (v := .d (.sl 5 (r2.map aK))) (aA rfl) rfl rfl) ?_
   refine tr1 rfl (aE (v := .d (.lit (.int .i64 k_6_63))) (aA rfl) rfl rfl) ?_
   obtain ⟨x66, h67, h⟩ := bind_some h
   refine tr1 rfl (bX (aA rfl) rfl rfl eN.of (cC aK h67)) ?_
   refine tr1 rfl (cW (aA rfl) rfl lU (es := [.lit (.int .i64 x66.Kind)]) rfl) ?_
   refine tr1 rfl (bU (aA rfl) rfl bG) ?_
   refine tr1 rfl (bF (aA rfl) rfl rfl rfl) ?_
   refine aF ?_
   refine bR rfl (fun c68 => ?_) (fun c68 => ?_)
   ·have h := aY c68 h
    refine aC ?_
    refine tr1 rfl (aE (v := .d (.lit (.int .i64 used_6_63))) (aA rfl) rfl rfl) ?_
    refine tr1 rfl (bI (aA rfl) rfl rfl rfl) ?_
    refine tr1 rfl (aJ (v := .d (.lit (.int .i64 ((w64 (used_6_63 - 1)))))) (aA rfl) rfl rfl) ?_
    refine fH ?_
    refine aC ?_
    refine tr1 rfl (aE (v := .d (.lit (.int .i64 k_6_63))) (aA rfl) rfl rfl) ?_
    refine tr1 rfl (bI (aA rfl) rfl rfl rfl) ?_
    refine tr1 rfl (aJ (v := .d (.lit (.int .i64 ((w64 (k_6_63 + 1)))))) (aA rfl) rfl rfl) ?_
    refine aF ?_
    exact ⟨(w64 (used_6_63 - 1), w64 (k_6_63 + 1)), h, bD [0] rfl rfl (aT rfl (aT rfl (bC ⟨rfl, rfl, trivial⟩)))⟩
   ·have h := aX c68 h
    refine eL ?_
    refine aC ?_
    refine tr1 rfl (aE (v := .d (.lit (.int .i64 k_6_63))) (aA rfl) rfl rfl) ?_
    refine tr1 rfl (bI (aA rfl) rfl rfl rfl) ?_
    refine tr1 rfl (aJ (v := .d (.lit (.int .i64 ((w64 (k_6_63 + 1)))))) (aA rfl) rfl rfl) ?_
    refine aF ?_
    exact ⟨(used_6_63, w64 (k_6_63 + 1)), h, bD [0] rfl rfl (aT rfl (aT rfl (bC ⟨rfl, rfl, trivial⟩)))⟩
  ·have h := aX c65 h
   refine dA ?_
   refine .inl ⟨rfl, ?_⟩
   simp only [mH] at h
   refine aG ?_
   refine aC ?_
   refine tr1 rfl (aE (v := .d (.lit w10)) (aA rfl) rfl rfl) ?_
   refine tr1 rfl (aE (v := .d (.lit (.int .i64 used_6_63))) (aA rfl) rfl rfl) ?_
   refine tr1 rfl (bF (aA rfl) rfl rfl rfl) ?_
   refine tr1 rfl (aJ (v := .d (.lit w10)) (aA rfl) rfl rfl) ?_
   refine tr1 rfl (aJ (v := .d (.lit (.bool ((decide (used_6_63 = 0)))))) (aA rfl) rfl rfl) ?_
   refine aF ?_
   have h := Option.some.inj h
   subst h
   refine cN (cM (sN (k := 5) (v := .d (.lit (.bool ((decide (used_6_63 = 0)))))) (.same _) (sN (k := 4) (v := .d (.sl 1 (out_0_9.map aP))) (.d (lC 0 rfl (dI (f := aP) fun _ => rfl))) (aEx)))) ?_
   exact bK ⟨rfl, _, .two _ _, rfl, rfl⟩

theorem yC (t_0 : aO) (l_1 : List aD) {r : aQ × Bool} (h : dF t_0 l_1 = some r) : Fn Try.prog 55 [.agg (aR t_0), .d (.sl 5 (l_1.map aK))] (.tup [.agg (cG r.1), .d (.lit (.bool r.2))]) := by
 unfold dF at h
 refine rV Try.func55 rfl (rs := [.cell 4 89, .tmp 5]) Try.results55 Try.ntmps55 (Nat.le_of_ble_eq_true rfl) ?_
 refine aG ?_
 refine aC ?_
 refine bW rfl (fU (v := .agg (aR t_0)) (aA rfl) rfl rfl rfl) ?_
 rintro _ ⟨b1, rfl⟩
 refine bW rfl (eC (zs := [.sl 1 ((([] : List Int)).map aP), .sl 1 ((([] : List (List Int))).map kY)]) (aA rfl) Try.zeroValue89 rfl rfl) ?_
 rintro _ ⟨b2, rfl⟩
 refine tr1 rfl (aJ (v := .d (.lit (.bool false))) (aA rfl) rfl rfl) ?_
 refine aF ?_
 refine aG ?_
 refine aC ?_
 refine tr1 rfl (bO (aA rfl) rfl (i := 0) rfl dY (es := (aR t_0)) rfl rfl) ?_
 refine tr1 rfl (aE (v := .d (.sl 5 (l_1.map aK))) (aA rfl) rfl rfl) ?_
 obtain ⟨r3, h4, h⟩ := bind_some h
 refine tr1 rfl (iB (aA rfl) (.func _ _ Try.call18) rfl rfl (pV _ _ h4)) ?_
 refine tr1 rfl (aE (v := .tup [.d (.sl 1 (r3.1.map aP)), .d (.lit (.bool r3.2))]) (aA rfl) rfl rfl) ?_
 refine tr1 rfl (bS (aA rfl) rfl rfl) ?_
 refine tr1 rfl (bS (aA rfl) rfl rfl) ?_
 refine tr1 rfl (aJ (v := .d (.sl 1 (r3.1.map aP))) (aA rfl) rfl rfl) ?_
 refine tr1 rfl (aJ (v := .d (.lit (.bool r3.2))) (aA rfl) rfl rfl) ?_
 refine aF ?_
 refine aG ?_
 refine aG ?_
 refine aC ?_
 refine tr1 rfl (aE (v := .d (.lit (.bool r3.2))) (aA rfl) rfl rfl) ?_
 refine tr1 rfl (gL (aA rfl) rfl) ?_
 refine aF ?_
 refine bR rfl (fun c5 => ?_) (fun c5 => ?_)
 ·have h := aY c5 h
  refine aG ?_
  refine aC ?_
  refine tr1 rfl (eT (aA rfl) xN (zs := [.sl 1 ((([] : List Int)).map aP), .sl 1 ((([] : List (List Int))).map kY)]) rfl rfl rfl rfl (es := [.sl 1 ((([] : List Int)).map aP), .sl 1 ((([] : List (List Int))).map kY)]) rfl) ?_
  refine tr1 rfl (cH (i := 1) rfl rfl rfl rfl rfl Try.sizeOf89 rfl (aA rfl) (Nat.le_of_ble_eq_true rfl) (ds' := (cG (aQ.mk ([] : List Int) ([] : List (List Int))))) rfl) ?_
  refine tr1 rfl (aJ (v := .d (.lit (.bool false))) (aA rfl) rfl rfl) ?_
  refine aF ?_
  have h := Option.some.inj h
  subst h
  exact bK ⟨rfl, _, [.box b1 0 (aR t_0), .box b2 0 (cG (aQ.mk ([] : List Int) ([] : List (List Int))))], .two (.cell 4 89 rfl (i := 1) rfl uI (es := (cG (aQ.mk ([] : List Int) ([] : List (List Int))))) rfl rfl) (.tmp 5 (v := .d (.lit (.bool false))) rfl), .refl _, .same _⟩
 ·have h := aX c5 h
  refine bL ?_
  refine aG ?_
  refine aC ?_
  refine tr1 rfl (aE (v := .d (.sl 1 (r3.1.map aP))) (aA rfl) rfl rfl) ?_
  refine tr1 rfl (eT (aA rfl) xN (zs := [.sl 1 ((([] : List Int)).map aP), .lit (.slice none 0 0)]) rfl rfl rfl rfl (es := [.sl 1 (r3.1.map aP), .lit (.slice none 0 0)]) rfl) ?_
  refine bW rfl (eC (zs := [.sl 1 ((([] : List Int)).map aP), .lit (.slice none 0 0)]) (aA rfl) Try.zeroValue89 rfl rfl) ?_
  rintro _ ⟨b6, rfl⟩
  refine jS (zU 22 1) ?_
  refine jS (aFw 3 1) ?_
  refine tr1 rfl (cH (i := 2) rfl rfl rfl rfl rfl Try.sizeOf89 rfl (aA rfl) (Nat.le_of_ble_eq_true rfl) (ds' := [.sl 1 (r3.1.map aP), .lit (.slice none 0 0)]) rfl) ?_
  refine aF ?_
  refine aG ?_
  refine aG ?_
  refine aC ?_
  refine tr1 rfl (aJ (v := .d (.lit (.int .i64 0))) (aA rfl) rfl rfl) ?_
  refine aF ?_
  refine cE ?_
  refine dN [1, 2, 4, 6, 8] (fun (s7 : Int × (List (List Int)) × (List Int) × (List Value) × Value) => [(9, .d (.lit (.int .i64 s7.1)))]) (fun (s7 : Int × (List (List Int)) × (List Int) × (List Value) × Value) => [.box b1 0 (aR t_0), .box b2 0 (cG (aQ.mk ([] : List Int) ([] : List (List Int)))), .fam 3 1 s7.2.2.2.1 (s7.2.1.map fun r => r.map aP), .arr s7.2.2.2.2 22 1 (s7.2.2.2.1.map fun v => [.lit v]), .box b6 0 [.sl 1 (s7.2.2.1.map aP), .lit s7.2.2.2.2]]) (fun (k : Nat) (s7 : Int × (List (List Int)) × (List Int) × (List Value) × Value) => eX l_1 r3.1 t_0 (aQ.mk ([] : List Int) ([] : List (List Int))) k s7.1 s7.2.1 s7.2.2.1) (fun _ => rfl) (0, ([] : List (List Int)), r3.1, [], (.slice none 0 0)) h (bD [0, 1, 4, 3, 2] rfl rfl (aT rfl (bC ⟨rfl, rfl, rfl, rfl, rfl, trivial⟩))) ?_
  rintro k10 ⟨r_0_7, d_0_7, d_0_7_2, vs8, w9⟩ h
  simp only [eX] at h
  refine aG ?_
  refine aG ?_
  refine aC ?_
  refine tr1 rfl (aE (v := .d (.lit (.int .i64 r_0_7))) (aA rfl) rfl rfl) ?_
  refine tr1 rfl (aS (aA rfl) rfl gS) ?_
  refine tr1 rfl (aV (aA rfl) rfl (i := 0) rfl rfl bG) ?_
  refine tr1 rfl (bF (aA rfl) rfl rfl rfl) ?_
  refine aF ?_
  refine bR rfl (fun c11 => ?_) (fun c11 => ?_)
  ·have h := aY c11 h
   refine bL ?_
   refine aG ?_
   refine cE ?_
   refine aG ?_
   refine aC ?_
   refine tr1 rfl (kD 3 1 (.inl rfl) (aA rfl)) ?_
   refine aF ?_
   refine aG ?_
   refine aG ?_
   refine aC ?_
   refine tr1 rfl (aJ (v := .d (.lit (.int .i64 0))) (aA rfl) rfl rfl) ?_
   refine aF ?_
   refine cE ?_
   refine dN [1, 2, 4, 6, 8, 9] (fun (s13 : Int × (List Int) × Value) => [(10, .d (.lit s13.2.2)), (11, .d (.lit (.int .i64 s13.1)))]) (fun (s13 : Int × (List Int) × Value) => [.box b1 0 (aR t_0), .box b2 0 (cG (aQ.mk ([] : List Int) ([] : List (List Int)))), .fam 3 1 vs8 (d_0_7.map fun r => r.map aP), .arr w9 22 1 (vs8.map fun v => [.lit v]), .box b6 0 [.sl 1 (d_0_7_2.map aP), .lit w9], .arr s13.2.2 3 1 (s13.2.1.map aP)]) (fun (k : Nat) (s13 : Int × (List Int) × Value) => dQ (eX l_1 r3.1 t_0 (aQ.mk ([] : List Int) ([] : List (List Int))) k10) l_1 r3.1 r_0_7 t_0 (aQ.mk ([] : List Int) ([] : List (List Int))) d_0_7 d_0_7_2 k s13.1 s13.2.1) (fun _ => rfl) (0, ([] : List Int), (.slice none 0 0)) h (bD [0, 1, 2, 3, 4, 5] rfl rfl (aT rfl (aT rfl (bC ⟨rfl, rfl, rfl, rfl, rfl, rfl, trivial⟩)))) ?_
   rintro k15 ⟨p_2_13, row_2_13, w14⟩ h
   simp only [dQ] at h
   refine aG ?_
   refine aG ?_
   refine aC ?_
   refine tr1 rfl (aE (v := .d (.lit (.int .i64 p_2_13))) (aA rfl) rfl rfl) ?_
   refine tr1 rfl (bO (aA rfl) rfl (i := 0) rfl dY (es := (aR t_0)) rfl rfl) ?_
   refine tr1 rfl (aE (v := .d (.lit (.int .i64 r_0_7))) (aA rfl) rfl rfl) ?_
   obtain ⟨r16, h17, h⟩ := bind_some h
   refine tr1 rfl (cP (aA rfl) (.func _ _ Try.call42) rfl rfl (BVs.refl _ _) (qK _ _ h17) rfl) ?_
   refine tr1 rfl (bF (aA rfl) rfl rfl rfl) ?_
   refine aF ?_
   refine bR rfl (fun c18 => ?_) (fun c18 => ?_)
   ·have h := aY c18 h
    refine bL ?_
    refine aG ?_
    refine cE ?_
    refine aG ?_
    refine aC ?_
    refine tr1 rfl (aJ (v := .d (.lit (.int .i64 (-2)))) (aA rfl) rfl rfl) ?_
    refine aF ?_
    refine aG ?_
    refine aG ?_
    refine aC ?_
    refine tr1 rfl (aE (v := .d (.lit (.int .i64 r_0_7))) (aA rfl) rfl rfl) ?_
    refine tr1 rfl (bF (aA rfl) rfl rfl rfl) ?_
    refine tr1 rfl (aE (v := .d (.lit (.bool ((decide (r_0_7 = 0)))))) (aA rfl) rfl rfl) ?_
    obtain ⟨b19, h20, h⟩ := bind_some h
    refine cA 7 [1, 2, 4, 6, 8, 9, 10, 11, 12] 55 b19 ?_ ?_
    ·refine bE (decide (r_0_7 = 0)) (fun c52 => ?_) (fun c52 => ?_)
     ·have h20 := aY c52 h20
      refine aI rfl rfl (aA rfl) rfl c52 (aE (v := .d (.sl 1 (r3.1.map aP))) (aA rfl) rfl rfl) ?_
      refine aI rfl rfl (aA rfl) rfl c52 (aE (v := .d (.lit (.int .i64 p_2_13))) (aA rfl) rfl rfl) ?_
      refine aI rfl rfl (aA rfl) rfl c52 (bI (aA rfl) rfl rfl rfl) ?_
      obtain ⟨x53, h54, h20⟩ := bind_some h20
      refine aI rfl rfl (aA rfl) rfl c52 (bX (aA rfl) rfl rfl bY.of (cC aP h54)) ?_
      refine aI rfl rfl (aA rfl) rfl c52 (bU (aA rfl) rfl bG) ?_
      refine aI rfl rfl (aA rfl) rfl c52 (bF (aA rfl) rfl rfl rfl) ?_
      refine tr1 rfl (bN (v := .d (.lit (.bool ((decide (x53 = (-1))))))) (aA rfl) rfl c52 rfl rfl) ?_
      have h20 := Option.some.inj h20
      subst h20
      refine aF (bA rfl ⟨rfl, rfl, rfl, rfl, rfl, rfl, rfl, rfl, rfl, trivial⟩ rfl)
     ·have h20 := aX c52 h20
      refine aN rfl rfl (aA rfl) rfl (aA rfl) rfl c52 ?_
      refine aN rfl rfl (aA rfl) rfl (aA rfl) rfl c52 ?_
      refine aN rfl rfl (aA rfl) rfl (aA rfl) rfl c52 ?_
      refine aN rfl rfl (aA rfl) rfl (aA rfl) rfl c52 ?_
      refine aN rfl rfl (aA rfl) rfl (aA rfl) rfl c52 ?_
      refine aN rfl rfl (aA rfl) rfl (aA rfl) rfl c52 ?_
      refine tr1 rfl (bM (v := .d (.lit (.bool false))) (aA rfl) rfl c52 rfl rfl) ?_
      have h20 := Option.some.inj h20
      subst h20
      refine aF (bA rfl ⟨rfl, rfl, rfl, rfl, rfl, rfl, rfl, rfl, rfl, trivial⟩ rfl)
    ·refine aF ?_
     refine bR rfl (fun c21 => ?_) (fun c21 => ?_)
     ·have h := aY c21 h
      refine aC ?_
      refine tr1 rfl (aE (v := .d (.sl 1 (r3.1.map aP))) (aA rfl) rfl rfl) ?_
      refine tr1 rfl (aE (v := .d (.lit (.int .i64 p_2_13))) (aA rfl) rfl rfl) ?_
      refine tr1 rfl (bI (aA rfl) rfl rfl rfl) ?_
      refine tr1 rfl (bI (aA rfl) rfl rfl rfl) ?_
      obtain ⟨x22, h23, h⟩ := bind_some h
      refine tr1 rfl (bX (aA rfl) rfl rfl bY.of (cC aP h23)) ?_
      refine tr1 rfl (bU (aA rfl) rfl bG) ?_
      refine tr1 rfl (aJ (v := .d (.lit (.int .i64 x22))) (aA rfl) rfl rfl) ?_
      refine aF ?_
      refine aG ?_
      refine aG ?_
      refine aC ?_
      refine tr1 rfl (aE (v := .d (.lit (.int .i64 r_0_7))) (aA rfl) rfl rfl) ?_
      refine tr1 rfl (bF (aA rfl) rfl rfl rfl) ?_
      refine tr1 rfl (aE (v := .d (.lit (.bool ((decide (r_0_7 = 0)))))) (aA rfl) rfl rfl) ?_
      obtain ⟨b24, h25, h⟩ := bind_some h
      refine cA 8 [1, 2, 4, 6, 8, 9, 10, 11, 12] 72 b24 ?_ ?_
      ·refine bE (decide (r_0_7 = 0)) (fun c35 => ?_) (fun c35 => ?_)
       ·have h25 := aY c35 h25
        refine aI rfl rfl (aA rfl) rfl c35 (aE (v := .d (.sl 1 (r3.1.map aP))) (aA rfl) rfl rfl) ?_
        refine aI rfl rfl (aA rfl) rfl c35 (aE (v := .d (.lit (.int .i64 p_2_13))) (aA rfl) rfl rfl) ?_
        refine aI rfl rfl (aA rfl) rfl c35 (bI (aA rfl) rfl rfl rfl) ?_
        refine aI rfl rfl (aA rfl) rfl c35 (bI (aA rfl) rfl rfl rfl) ?_
        obtain ⟨x36, h37, h25⟩ := bind_some h25
        refine aI rfl rfl (aA rfl) rfl c35 (bX (aA rfl) rfl rfl bY.of (cC aP h37)) ?_
        refine aI rfl rfl (aA rfl) rfl c35 (bU (aA rfl) rfl bG) ?_
        refine aI rfl rfl (aA rfl) rfl c35 (bF (aA rfl) rfl rfl rfl) ?_
        refine tr1 rfl (bN (v := .d (.lit (.bool ((decide (x36 = (-1))))))) (aA rfl) rfl c35 rfl rfl) ?_
        have h25 := Option.some.inj h25
        subst h25
        refine aF (bA rfl ⟨rfl, rfl, rfl, rfl, rfl, rfl, rfl, rfl, rfl, trivial⟩ rfl)
       ·have h25 := aX c35 h25
        refine aN rfl rfl (aA rfl) rfl (aA rfl) rfl c35 ?_
        refine aN rfl rfl (aA rfl) rfl (aA rfl) rfl c35 ?_
        refine aN rfl rfl (aA rfl) rfl (aA rfl) rfl c35 ?_
        refine aN rfl rfl (aA rfl) rfl (aA rfl) rfl c35 ?_
        refine aN rfl rfl (aA rfl) rfl (aA rfl) rfl c35 ?_
        refine aN rfl rfl (aA rfl) rfl (aA rfl) rfl c35 ?_
        refine aN rfl rfl (aA rfl) rfl (aA rfl) rfl c35 ?_
        refine tr1 rfl (bM (v := .d (.lit (.bool false))) (aA rfl) rfl c35 rfl rfl) ?_
        have h25 := Option.some.inj h25
        subst h25
        refine aF (bA rfl ⟨rfl, rfl, rfl, rfl, rfl, rfl, rfl, rfl, rfl, trivial⟩ rfl)
      ·refine aF ?_
       refine bR rfl (fun c26 => ?_) (fun c26 => ?_)
       ·have h := aY c26 h
        refine aC ?_
        refine tr1 rfl (aE (v := .d (.sl 1 (r3.1.map aP))) (aA rfl) rfl rfl) ?_
        refine tr1 rfl (aE (v := .d (.lit (.int .i64 p_2_13))) (aA rfl) rfl rfl) ?_
        refine tr1 rfl (bI (aA rfl) rfl rfl rfl) ?_
        obtain ⟨x27, h28, h⟩ := bind_some h
        refine tr1 rfl (bX (aA rfl) rfl rfl bY.of (cC aP h28)) ?_
        refine tr1 rfl (bU (aA rfl) rfl bG) ?_
        refine tr1 rfl (aJ (v := .d (.lit (.int .i64 x27))) (aA rfl) rfl rfl) ?_
        refine aF ?_
        refine aC ?_
        refine tr1 rfl (aE (v := .d (.lit w14)) (aA rfl) rfl rfl) ?_
        refine tr1 rfl (aE (v := .d (.lit (.int .i64 x27))) (aA rfl) rfl rfl) ?_
        refine tr1 rfl (gD (aA rfl) bY rfl rfl (rows := ([x27]).map aP) rfl (dI (f := aP) fun _ => rfl) rfl (by decide)) ?_
        obtain ⟨x29, h30, h⟩ := bind_some h
        refine bW rfl (fN (i := 5) (aA rfl) bY rfl rfl rfl (fun _ => rfl) h30 rfl) ?_
        rintro _ ⟨v31, rfl⟩
        refine tr1 rfl (aJ (v := .d (.lit v31)) (aA rfl) rfl rfl) ?_
        refine fH ?_
        refine aC ?_
        refine tr1 rfl (aE (v := .d (.lit (.int .i64 p_2_13))) (aA rfl) rfl rfl) ?_
        refine tr1 rfl (bI (aA rfl) rfl rfl rfl) ?_
        refine tr1 rfl (aJ (v := .d (.lit (.int .i64 ((w64 (p_2_13 + 1)))))) (aA rfl) rfl rfl) ?_
        refine aF ?_
        exact ⟨(w64 (p_2_13 + 1), x29, v31), h, bD [0, 1, 2, 3, 4, 5] rfl rfl (aT rfl (aT rfl (bC ⟨rfl, rfl, rfl, rfl, rfl, rfl, trivial⟩)))⟩
       ·have h := aX c26 h
        refine bL ?_
        refine aC ?_
        refine tr1 rfl (aE (v := .d (.lit w14)) (aA rfl) rfl rfl) ?_
        refine tr1 rfl (aE (v := .d (.lit (.int .i64 x22))) (aA rfl) rfl rfl) ?_
        refine tr1 rfl (gD (aA rfl) bY rfl rfl (rows := ([x22]).map aP) rfl (dI (f := aP) fun _ => rfl) rfl (by decide)) ?_
        obtain ⟨x32, h33, h⟩ := bind_some h
        refine bW rfl (fN (i := 5) (aA rfl) bY rfl rfl rfl (fun _ => rfl) h33 rfl) ?_
        rintro _ ⟨v34, rfl⟩
        refine tr1 rfl (aJ (v := .d (.lit v34)) (aA rfl) rfl rfl) ?_
        refine fH ?_
        refine aC ?_
        refine tr1 rfl (aE (v := .d (.lit (.int .i64 p_2_13))) (aA rfl) rfl rfl) ?_
        refine tr1 rfl (bI (aA rfl) rfl rfl rfl) ?_
        refine tr1 rfl (aJ (v := .d (.lit (.int .i64 ((w64 (p_2_13 + 1)))))) (aA rfl) rfl rfl) ?_
        refine aF ?_
        exact ⟨(w64 (p_2_13 + 1), x32, v34), h, bD [0, 1, 2, 3, 4, 5] rfl rfl (aT rfl (aT rfl (bC ⟨rfl, rfl, rfl, rfl, rfl, rfl, trivial⟩)))⟩
     ·have h := aX c21 h
      refine bL ?_
      refine aG ?_
      refine aG ?_
      refine aC ?_
      refine tr1 rfl (aE (v := .d (.lit (.int .i64 r_0_7))) (aA rfl) rfl rfl) ?_
      refine tr1 rfl (bF (aA rfl) rfl rfl rfl) ?_
      refine tr1 rfl (aE (v := .d (.lit (.bool ((decide (r_0_7 = 0)))))) (aA rfl) rfl rfl) ?_
      obtain ⟨b38, h39, h⟩ := bind_some h
      refine cA 8 [1, 2, 4, 6, 8, 9, 10, 11, 12] 72 b38 ?_ ?_
      ·refine bE (decide (r_0_7 = 0)) (fun c49 => ?_) (fun c49 => ?_)
       ·have h39 := aY c49 h39
        refine aI rfl rfl (aA rfl) rfl c49 (aE (v := .d (.sl 1 (r3.1.map aP))) (aA rfl) rfl rfl) ?_
        refine aI rfl rfl (aA rfl) rfl c49 (aE (v := .d (.lit (.int .i64 p_2_13))) (aA rfl) rfl rfl) ?_
        refine aI rfl rfl (aA rfl) rfl c49 (bI (aA rfl) rfl rfl rfl) ?_
        refine aI rfl rfl (aA rfl) rfl c49 (bI (aA rfl) rfl rfl rfl) ?_
        obtain ⟨x50, h51, h39⟩ := bind_some h39
        refine aI rfl rfl (aA rfl) rfl c49 (bX (aA rfl) rfl rfl bY.of (cC aP h51)) ?_
        refine aI rfl rfl (aA rfl) rfl c49 (bU (aA rfl) rfl bG) ?_
        refine aI rfl rfl (aA rfl) rfl c49 (bF (aA rfl) rfl rfl rfl) ?_
        refine tr1 rfl (bN (v := .d (.lit (.bool ((decide (x50 = (-1))))))) (aA rfl) rfl c49 rfl rfl) ?_
        have h39 := Option.some.inj h39
        subst h39
        refine aF (bA rfl ⟨rfl, rfl, rfl, rfl, rfl, rfl, rfl, rfl, rfl, trivial⟩ rfl)
       ·have h39 := aX c49 h39
        refine aN rfl rfl (aA rfl) rfl (aA rfl) rfl c49 ?_
        refine aN rfl rfl (aA rfl) rfl (aA rfl) rfl c49 ?_
        refine aN rfl rfl (aA rfl) rfl (aA rfl) rfl c49 ?_
        refine aN rfl rfl (aA rfl) rfl (aA rfl) rfl c49 ?_
        refine aN rfl rfl (aA rfl) rfl (aA rfl) rfl c49 ?_
        refine aN rfl rfl (aA rfl) rfl (aA rfl) rfl c49 ?_
        refine aN rfl rfl (aA rfl) rfl (aA rfl) rfl c49 ?_
        refine tr1 rfl (bM (v := .d (.lit (.bool false))) (aA rfl) rfl c49 rfl rfl) ?_
        have h39 := Option.some.inj h39
        subst h39
        refine aF (bA rfl ⟨rfl, rfl, rfl, rfl, rfl, rfl, rfl, rfl, rfl, trivial⟩ rfl)
      ·refine aF ?_
       refine bR rfl (fun c40 => ?_) (fun c40 => ?_)
       ·have h := aY c40 h
        refine aC ?_
        refine tr1 rfl (aE (v := .d (.sl 1 (r3.1.map aP))) (aA rfl) rfl rfl) ?_
        refine tr1 rfl (aE (v := .d (.lit (.int .i64 p_2_13))) (aA rfl) rfl rfl) ?_
        refine tr1 rfl (bI (aA rfl) rfl rfl rfl) ?_
        obtain ⟨x41, h42, h⟩ := bind_some h
        refine tr1 rfl (bX (aA rfl) rfl rfl bY.of (cC aP h42)) ?_
        refine tr1 rfl (bU (aA rfl) rfl bG) ?_
        refine tr1 rfl (aJ (v := .d (.lit (.int .i64 x41))) (aA rfl) rfl rfl) ?_
        refine aF ?_
        refine aC ?_
        refine tr1 rfl (aE (v := .d (.lit w14)) (aA rfl) rfl rfl) ?_
        refine tr1 rfl (aE (v := .d (.lit (.int .i64 x41))) (aA rfl) rfl rfl) ?_
        refine tr1 rfl (gD (aA rfl) bY rfl rfl (rows := ([x41]).map aP) rfl (dI (f := aP) fun _ => rfl) rfl (by decide)) ?_
        obtain ⟨x43, h44, h⟩ := bind_some h
        refine bW rfl (fN (i := 5) (aA rfl) bY rfl rfl rfl (fun _ => rfl) h44 rfl) ?_
        rintro _ ⟨v45, rfl⟩
        refine tr1 rfl (aJ (v := .d (.lit v45)) (aA rfl) rfl rfl) ?_
        refine fH ?_
        refine aC ?_
        refine tr1 rfl (aE (v := .d (.lit (.int .i64 p_2_13))) (aA rfl) rfl rfl) ?_
        refine tr1 rfl (bI (aA rfl) rfl rfl rfl) ?_
        refine tr1 rfl (aJ (v := .d (.lit (.int .i64 ((w64 (p_2_13 + 1)))))) (aA rfl) rfl rfl) ?_
        refine aF ?_
        exact ⟨(w64 (p_2_13 + 1), x43, v45), h, bD [0, 1, 2, 3, 4, 5] rfl rfl (aT rfl (aT rfl (bC ⟨rfl, rfl, rfl, rfl, rfl, rfl, trivial⟩)))⟩
       ·have h := aX c40 h
        refine bL ?_
        refine aC ?_
        refine tr1 rfl (aE (v := .d (.lit w14)) (aA rfl) rfl rfl) ?_
        refine tr1 rfl (aE (v := .d (.lit (.int .i64 (-2)))) (aA rfl) rfl rfl) ?_
        refine tr1 rfl (gD (aA rfl) bY rfl rfl (rows := ([(-2)]).map aP) rfl (dI (f := aP) fun _ => rfl) rfl (by decide)) ?_
        obtain ⟨x46, h47, h⟩ := bind_some h
        refine bW rfl (fN (i := 5) (aA rfl) bY rfl rfl rfl (fun _ => rfl) h47 rfl) ?_
        rintro _ ⟨v48, rfl⟩
        refine tr1 rfl (aJ (v := .d (.lit v48)) (aA rfl) rfl rfl) ?_
        refine fH ?_
        refine aC ?_
        refine tr1 rfl (aE (v := .d (.lit (.int .i64 p_2_13))) (aA rfl) rfl rfl) ?_
        refine tr1 rfl (bI (aA rfl) rfl rfl rfl) ?_
        refine tr1 rfl (aJ (v := .d (.lit (.int .i64 ((w64 (p_2_13 + 1)))))) (aA rfl) rfl rfl) ?_
        refine aF ?_
        exact ⟨(w64 (p_2_13 + 1), x46, v48), h, bD [0, 1, 2, 3, 4, 5] rfl rfl (aT rfl (aT rfl (bC ⟨rfl, rfl, rfl, rfl, rfl, rfl, trivial⟩)))⟩
   ·have h := aX c18 h
    refine dA ?_
    refine .inl ⟨rfl, ?_⟩
    simp only [iO] at h
    refine aC ?_
    refine tr1 rfl (aS (aA rfl) rfl qV) ?_
    refine tr1 rfl (aV (aA rfl) rfl (i := 4) rfl rfl xD) ?_
    refine tr1 rfl (aE (v := .d (.lit w14)) (aA rfl) rfl rfl) ?_
    refine tr1 rfl (gD (aA rfl) xV rfl rfl (rows := [[.lit w14]]) rfl (fun r hr => by cases hr with | head => rfl | tail _ h => cases h) rfl (by decide)) ?_
    obtain ⟨x55, h56, h⟩ := bind_some h
    refine bW rfl (aDt (m := 3) (f := 2) (aA rfl) xV rfl rfl rfl rfl h56 rfl) ?_
    rintro _ ⟨v57, rfl⟩
    refine jS (aEj (i := 2) [.box b1 0 (aR t_0), .box b2 0 (cG (aQ.mk ([] : List Int) ([] : List (List Int)))), .fam 3 1 vs8 (d_0_7.map fun r => r.map aP), .arr v57 22 1 ((vs8 ++ [w14]).map fun v => [.lit v]), .box b6 0 [.sl 1 (d_0_7_2.map aP), .lit w9]] [.box b1 0 (aR t_0), .box b2 0 (cG (aQ.mk ([] : List Int) ([] : List (List Int)))), .fam 3 1 (vs8 ++ [w14]) (x55.map fun r => r.map aP), .arr v57 22 1 ((vs8 ++ [w14]).map fun v => [.lit v]), .box b6 0 [.sl 1 (d_0_7_2.map aP), .lit w9]] rfl rfl h56 rfl) ?_
    refine tr1 rfl (aS (aA rfl) rfl qV) ?_
    refine tr1 rfl (cH (i := 4) rfl rfl rfl rfl rfl Try.sizeOf53 rfl (aA rfl) (Nat.le_of_ble_eq_true rfl) (ds' := [.sl 1 (d_0_7_2.map aP), .lit v57]) rfl) ?_
    refine fH ?_
    simp only [nY] at h
    refine aC ?_
    refine tr1 rfl (aE (v := .d (.lit (.int .i64 r_0_7))) (aA rfl) rfl rfl) ?_
    refine tr1 rfl (bI (aA rfl) rfl rfl rfl) ?_
    refine tr1 rfl (aJ (v := .d (.lit (.int .i64 ((w64 (r_0_7 + 1)))))) (aA rfl) rfl rfl) ?_
    refine aF ?_
    exact ⟨(w64 (r_0_7 + 1), x55, d_0_7_2, (vs8 ++ [w14]), v57), h, bD [0, 1, 2, 3, 4] rfl rfl (aT rfl (bC ⟨rfl, rfl, rfl, rfl, rfl, trivial⟩))⟩
  ·have h := aX c11 h
   refine dA ?_
   refine .inl ⟨rfl, ?_⟩
   simp only [iN] at h
   refine aG ?_
   refine aC ?_
   refine tr1 rfl (aE (v := .d (.sl 5 (l_1.map aK))) (aA rfl) rfl rfl) ?_
   obtain ⟨r58, h59, h⟩ := bind_some h
   refine tr1 rfl (iB (aA rfl) (.func _ _ Try.call51) rfl rfl (sF _ h59)) ?_
   refine tr1 rfl (aJ (v := .d (.sl 5 (r58.map aK))) (aA rfl) rfl rfl) ?_
   refine aF ?_
   refine aG ?_
   refine aG ?_
   refine aC ?_
   refine tr1 rfl (aJ (v := .d (.lit (.int .i64 0))) (aA rfl) rfl rfl) ?_
   refine aF ?_
   refine cE ?_
   refine dN [4, 6, 8, 13] (fun (s60 : Int × aQ × (List (List Int)) × (List Value)) => [(14, .d (.lit (.int .i64 s60.1)))]) (fun (s60 : Int × aQ × (List (List Int)) × (List Value)) => [.box b2 0 (cG s60.2.1), .fam 3 1 s60.2.2.2 (s60.2.2.1.map fun r => r.map aP), .arr w9 22 1 (s60.2.2.2.map fun v => [.lit v]), .box b6 0 [.sl 1 (d_0_7_2.map aP), .lit w9]]) (fun (k : Nat) (s60 : Int × aQ × (List (List Int)) × (List Value)) => cX r3.1 r58 d_0_7_2 k s60.1 s60.2.1 s60.2.2.1) (fun _ => rfl) (0, (aQ.mk ([] : List Int) ([] : List (List Int))), d_0_7, vs8) h (bD [1, 2, 3, 4] rfl rfl (aT rfl (bC ⟨rfl, rfl, rfl, rfl, trivial⟩))) ?_
   rintro k62 ⟨i_4_60, o4_4_60, d_4_60, vs61⟩ h
   simp only [cX] at h
   refine aG ?_
   refine aG ?_
   refine aC ?_
   refine tr1 rfl (aE (v := .d (.lit (.int .i64 i_4_60))) (aA rfl) rfl rfl) ?_
   refine tr1 rfl (aE (v := .d (.sl 5 (r58.map aK))) (aA rfl) rfl rfl) ?_
   refine tr1 rfl (eG (aA rfl) rfl eN.of) ?_
   refine tr1 rfl (bF (aA rfl) rfl rfl rfl) ?_
   refine aF ?_
   refine bR rfl (fun c63 => ?_) (fun c63 => ?_)
   ·have h := aY c63 h
    refine bL ?_
    refine aG ?_
    refine cE ?_
    refine aG ?_
    refine aC ?_
    refine tr1 rfl (aE (v := .d (.sl 5 (r58.map aK))) (aA rfl) rfl rfl) ?_
    refine tr1 rfl (aE (v := .d (.lit (.int .i64 i_4_60))) (aA rfl) rfl rfl) ?_
    obtain ⟨x64, h65, h⟩ := bind_some h
    refine tr1 rfl (bX (aA rfl) rfl rfl eN.of (cC aK h65)) ?_
    refine tr1 rfl (jV (aA rfl) rfl jH (es := (aK x64)) rfl rfl) ?_
    refine bW rfl (eC (zs := [.lit (.int .i64 0), .lit (.int .i64 0), .lit (.int .i64 0), .lit (.int .i64 0), .lit (.int .i64 0)]) (aA rfl) Try.zeroValue32 rfl rfl) ?_
    rintro _ ⟨b66, rfl⟩
    refine tr1 rfl (cH (i := 4) rfl rfl rfl rfl rfl Try.sizeOf32 rfl (aA rfl) (Nat.le_of_ble_eq_true rfl) (ds' := (aK x64)) rfl) ?_
    refine aF ?_
    refine aG ?_
    refine aG ?_
    refine aC ?_
    refine tr1 rfl (aS (aA rfl) rfl lU) ?_
    refine tr1 rfl (aV (aA rfl) rfl (i := 4) rfl rfl bG) ?_
    refine tr1 rfl (bF (aA rfl) rfl rfl rfl) ?_
    refine aF ?_
    refine bR rfl (fun c67 => ?_) (fun c67 => ?_)
    ·have h := aY c67 h
     refine dA ?_
     refine .inl ⟨rfl, ?_⟩
     simp only [iP] at h
     refine aC ?_
     refine tr1 rfl (aE (v := .d (.lit (.int .i64 i_4_60))) (aA rfl) rfl rfl) ?_
     refine tr1 rfl (bI (aA rfl) rfl rfl rfl) ?_
     refine tr1 rfl (aJ (v := .d (.lit (.int .i64 ((w64 (i_4_60 + 1)))))) (aA rfl) rfl rfl) ?_
     refine aF ?_
     exact ⟨(w64 (i_4_60 + 1), o4_4_60, d_4_60, vs61), h, bD [0, 1, 2, 3] rfl rfl (aT rfl (bC ⟨rfl, rfl, rfl, rfl, trivial⟩))⟩
    ·have h := aX c67 h
     refine bL ?_
     refine aG ?_
     refine aG ?_
     refine aC ?_
     refine tr1 rfl (aJ (v := .d (.lit (.int .i64 0))) (aA rfl) rfl rfl) ?_
     refine aF ?_
     refine cE ?_
     refine dN [4, 6, 8, 13, 14, 15] (fun (s68 : Int × aQ) => [(16, .d (.lit (.int .i64 s68.1)))]) (fun (s68 : Int × aQ) => [.box b2 0 (cG s68.2), .fam 3 1 vs61 (d_4_60.map fun r => r.map aP), .arr w9 22 1 (vs61.map fun v => [.lit v]), .box b6 0 [.sl 1 (d_0_7_2.map aP), .lit w9], .box b66 0 (aK x64)]) (fun (k : Nat) (s68 : Int × aQ) => fL (cX r3.1 r58 d_0_7_2 k62) r3.1 r58 i_4_60 d_4_60 d_0_7_2 x64 k s68.1 s68.2) (fun _ => rfl) (0, o4_4_60) h (bD [0, 1, 2, 3, 4] rfl rfl (aT rfl (bC ⟨rfl, rfl, rfl, rfl, rfl, rfl, trivial⟩))) ?_
     rintro k69 ⟨k_6_68, o4_6_68⟩ h
     simp only [fL] at h
     refine aG ?_
     refine aG ?_
     refine aC ?_
     refine tr1 rfl (aE (v := .d (.lit (.int .i64 k_6_68))) (aA rfl) rfl rfl) ?_
     refine tr1 rfl (aE (v := .d (.lit (.int .i64 i_4_60))) (aA rfl) rfl rfl) ?_
     refine tr1 rfl (bF (aA rfl) rfl rfl rfl) ?_
     refine aF ?_
     refine bR rfl (fun c70 => ?_) (fun c70 => ?_)
     ·have h := aY c70 h
      refine bL ?_
      refine aG ?_
      refine cE ?_
      refine aG ?_
      refine aC ?_
      refine tr1 rfl (aE (v := .d (.sl 5 (r58.map aK))) (aA rfl) rfl rfl) ?_
      refine tr1 rfl (aE (v := .d (.lit (.int .i64 k_6_68))) (aA rfl) rfl rfl) ?_
      obtain ⟨x71, h72, h⟩ := bind_some h
      refine tr1 rfl (bX (aA rfl) rfl rfl eN.of (cC aK h72)) ?_
      refine tr1 rfl (jV (aA rfl) rfl jH (es := (aK x71)) rfl rfl) ?_
      refine bW rfl (eC (zs := [.lit (.int .i64 0), .lit (.int .i64 0), .lit (.int .i64 0), .lit (.int .i64 0), .lit (.int .i64 0)]) (aA rfl) Try.zeroValue32 rfl rfl) ?_
      rintro _ ⟨b73, rfl⟩
      refine tr1 rfl (cH (i := 5) rfl rfl rfl rfl rfl Try.sizeOf32 rfl (aA rfl) (Nat.le_of_ble_eq_true rfl) (ds' := (aK x71)) rfl) ?_
      refine aF ?_
      refine aG ?_
      refine aC ?_
      refine tr1 rfl (aS (aA rfl) rfl lU) ?_
      refine tr1 rfl (aV (aA rfl) rfl (i := 5) rfl rfl bG) ?_
      refine tr1 rfl (bF (aA rfl) rfl rfl rfl) ?_
      refine tr1 rfl (aE (v := .d (.lit (.bool ((!decide (x71.Kind = 5)))))) (aA rfl) rfl rfl) ?_
      obtain ⟨b74, h75, h⟩ := bind_some h
      refine cA 6 [4, 6, 8, 13, 14, 15, 16, 17] 121 b74 ?_ ?_
      ·refine bE (!decide (x71.Kind = 5)) (fun c80 => ?_) (fun c80 => ?_)
       ·have h75 := aY c80 h75
        refine aI rfl rfl (aA rfl) rfl c80 (aS (aA rfl) rfl kL) ?_
        refine aI rfl rfl (aA rfl) rfl c80 (aV (aA rfl) rfl (i := 5) rfl rfl bG) ?_
        refine aI rfl rfl (aA rfl) rfl c80 (aS (aA rfl) rfl kL) ?_
        refine aI rfl rfl (aA rfl) rfl c80 (aV (aA rfl) rfl (i := 4) rfl rfl bG) ?_
        refine aI rfl rfl (aA rfl) rfl c80 (bF (aA rfl) rfl rfl rfl) ?_
        refine tr1 rfl (bN (v := .d (.lit (.bool ((decide (x71.Round = x64.Round)))))) (aA rfl) rfl c80 rfl rfl) ?_
        have h75 := Option.some.inj h75
        subst h75
        refine aF (bA rfl ⟨rfl, rfl, rfl, rfl, rfl, rfl, rfl, rfl, trivial⟩ rfl)
       ·have h75 := aX c80 h75
        refine aN rfl rfl (aA rfl) rfl (aA rfl) rfl c80 ?_
        refine aN rfl rfl (aA rfl) rfl (aA rfl) rfl c80 ?_
        refine aN rfl rfl (aA rfl) rfl (aA rfl) rfl c80 ?_
        refine aN rfl rfl (aA rfl) rfl (aA rfl) rfl c80 ?_
        refine aN rfl rfl (aA rfl) rfl (aA rfl) rfl c80 ?_
        refine tr1 rfl (bM (v := .d (.lit (.bool false))) (aA rfl) rfl c80 rfl rfl) ?_
        have h75 := Option.some.inj h75
        subst h75
        refine aF (bA rfl ⟨rfl, rfl, rfl, rfl, rfl, rfl, rfl, rfl, trivial⟩ rfl)
      ·refine tr1 rfl (aE (v := .d (.lit (.bool b74))) (aA rfl) rfl rfl) ?_
       obtain ⟨b76, h77, h⟩ := bind_some h
       refine cA 6 [4, 6, 8, 13, 14, 15, 16] 128 b76 ?_ ?_
       ·refine bE (b74) (fun c79 => ?_) (fun c79 => ?_)
        ·have h77 := aY c79 h77
         refine aI rfl rfl (aA rfl) rfl c79 (aS (aA rfl) rfl gY) ?_
         refine aI rfl rfl (aA rfl) rfl c79 (aV (aA rfl) rfl (i := 5) rfl rfl bG) ?_
         refine aI rfl rfl (aA rfl) rfl c79 (aS (aA rfl) rfl gY) ?_
         refine aI rfl rfl (aA rfl) rfl c79 (aV (aA rfl) rfl (i := 4) rfl rfl bG) ?_
         refine aI rfl rfl (aA rfl) rfl c79 (bF (aA rfl) rfl rfl rfl) ?_
         refine tr1 rfl (bN (v := .d (.lit (.bool ((decide (x71.Place = x64.Place)))))) (aA rfl) rfl c79 rfl rfl) ?_
         have h77 := Option.some.inj h77
         subst h77
         refine aF (bA rfl ⟨rfl, rfl, rfl, rfl, rfl, rfl, rfl, trivial⟩ rfl)
        ·have h77 := aX c79 h77
         refine aN rfl rfl (aA rfl) rfl (aA rfl) rfl c79 ?_
         refine aN rfl rfl (aA rfl) rfl (aA rfl) rfl c79 ?_
         refine aN rfl rfl (aA rfl) rfl (aA rfl) rfl c79 ?_
         refine aN rfl rfl (aA rfl) rfl (aA rfl) rfl c79 ?_
         refine aN rfl rfl (aA rfl) rfl (aA rfl) rfl c79 ?_
         refine tr1 rfl (bM (v := .d (.lit (.bool false))) (aA rfl) rfl c79 rfl rfl) ?_
         have h77 := Option.some.inj h77
         subst h77
         refine aF (bA rfl ⟨rfl, rfl, rfl, rfl, rfl, rfl, rfl, trivial⟩ rfl)
       ·refine aF ?_
        refine bR rfl (fun c78 => ?_) (fun c78 => ?_)
        ·have h := aY c78 h
         refine aG ?_
         refine aC ?_
         refine tr1 rfl (eT (aA rfl) xN (zs := [.sl 1 ((([] : List Int)).map aP), .sl 1 ((([] : List (List Int))).map kY)]) rfl rfl rfl rfl (es := [.sl 1 ((([] : List Int)).map aP), .sl 1 ((([] : List (List Int))).map kY)]) rfl) ?_
         refine tr1 rfl (cH (i := 0) rfl rfl rfl rfl rfl Try.sizeOf89 rfl (aA rfl) (Nat.le_of_ble_eq_true rfl) (ds' := (cG (aQ.mk ([] : List Int) ([] : List (List Int))))) rfl) ?_
         refine tr1 rfl (aJ (v := .d (.lit (.bool false))) (aA rfl) rfl rfl) ?_
         refine aF ?_
         have h := Option.some.inj h
         subst h
         exact bK ⟨rfl, _, [.box b2 0 (cG (aQ.mk ([] : List Int) ([] : List (List Int)))), .fam 3 1 vs61 (d_4_60.map fun r => r.map aP), .arr w9 22 1 (vs61.map fun v => [.lit v]), .box b6 0 [.sl 1 (d_0_7_2.map aP), .lit w9], .box b66 0 (aK x64), .box b73 0 (aK x71)], .two (.cell 4 89 rfl (i := 0) rfl uI (es := (cG (aQ.mk ([] : List Int) ([] : List (List Int))))) rfl rfl) (.tmp 5 (v := .d (.lit (.bool false))) rfl), .refl _, .same _⟩
        ·have h := aX c78 h
         refine eL ?_
         refine aC ?_
         refine tr1 rfl (aE (v := .d (.lit (.int .i64 k_6_68))) (aA rfl) rfl rfl) ?_
         refine tr1 rfl (bI (aA rfl) rfl rfl rfl) ?_
         refine tr1 rfl (aJ (v := .d (.lit (.int .i64 ((w64 (k_6_68 + 1)))))) (aA rfl) rfl rfl) ?_
         refine aF ?_
         exact ⟨(w64 (k_6_68 + 1), o4_6_68), h, bD [0, 1, 2, 3, 4] rfl rfl (aT rfl (bC ⟨rfl, rfl, rfl, rfl, rfl, rfl, trivial⟩))⟩
     ·have h := aX c70 h
      refine dA ?_
      refine .inl ⟨rfl, ?_⟩
      simp only [lO] at h
      refine aG ?_
      refine aC ?_
      refine tr1 rfl (aJ (v := .d (.lit (.int .i64 (-1)))) (aA rfl) rfl rfl) ?_
      refine aF ?_
      refine aG ?_
      refine aG ?_
      refine aC ?_
      refine tr1 rfl (aJ (v := .d (.lit (.int .i64 0))) (aA rfl) rfl rfl) ?_
      refine aF ?_
      refine cE ?_
      refine dN [4, 6, 8, 13, 14, 15] (fun (s81 : Int × Int) => [(18, .d (.lit (.int .i64 s81.1))), (19, .d (.lit (.int .i64 s81.2)))]) (fun (s81 : Int × Int) => [.box b2 0 (cG o4_6_68), .fam 3 1 vs61 (d_4_60.map fun r => r.map aP), .arr w9 22 1 (vs61.map fun v => [.lit v]), .box b6 0 [.sl 1 (d_0_7_2.map aP), .lit w9], .box b66 0 (aK x64)]) (fun (k : Nat) (s81 : Int × Int) => dL (cX r3.1 r58 d_0_7_2 k62) r3.1 r58 i_4_60 o4_6_68 d_4_60 d_0_7_2 x64 k s81.1 s81.2) (fun _ => rfl) ((-1), 0) h (bD [0, 1, 2, 3, 4] rfl rfl (aT rfl (aT rfl (bC ⟨rfl, rfl, rfl, rfl, rfl, rfl, trivial⟩)))) ?_
      rintro k82 ⟨atv_8_81, s_8_81⟩ h
      simp only [dL] at h
      refine aG ?_
      refine aG ?_
      refine aC ?_
      refine tr1 rfl (aE (v := .d (.lit (.int .i64 s_8_81))) (aA rfl) rfl rfl) ?_
      refine tr1 rfl (aE (v := .d (.sl 1 (r3.1.map aP))) (aA rfl) rfl rfl) ?_
      refine tr1 rfl (eG (aA rfl) rfl bY.of) ?_
      refine tr1 rfl (bF (aA rfl) rfl rfl rfl) ?_
      refine aF ?_
      refine bR rfl (fun c83 => ?_) (fun c83 => ?_)
      ·have h := aY c83 h
       refine bL ?_
       refine aG ?_
       refine cE ?_
       refine aG ?_
       obtain ⟨x84, h85, h⟩ := bind_some h
       refine eE mix 6 [4, 6, 8, 13, 14, 15, 18, 19] [(139, .d (.lit (.int .i64 x84))), (141, .d (.lit (.int .i64 x64.Player)))] ?_ ?_
       ·refine ⟨[(136, 0, .d (.sl 1 (r3.1.map aP))), (137, 1, .d (.lit (.int .i64 s_8_81))), (138, 2, .cp [.lit (.int .i64 x84)]), (139, 3, .d (.lit (.int .i64 x84))), (140, 4, .bp b66 0 3), (141, 5, .d (.lit (.int .i64 x64.Player)))], ?_, ?_⟩
        · exact ⟨by kernel_rfl, by kernel_rfl, by kernel_rfl, by kernel_rfl, by kernel_rfl, [([], []), ([], []), ([0, 1], []), ([2], []), ([], []), ([4], [])], by kernel_rfl, ⟨fun S hS => aL rfl (aU rfl (aE (v := .d (.sl 1 (r3.1.map aP))) (aA rfl) (aM hS rfl) rfl)),
      fun S hS => aL rfl (aU rfl (aE (v := .d (.lit (.int .i64 s_8_81))) (aA rfl) (aM hS rfl) rfl)),
      fun S hS => aL rfl (aU rfl (bX (aA rfl) (aM hS rfl) (aM hS rfl) bY.of (cC aP h85))),
      fun S hS => aL rfl (aU rfl (bU (aA rfl) (aM hS rfl) bG)),
      fun S hS => aL rfl (aU rfl (aS (aA rfl) (aM hS rfl) lD)),
      fun S hS => aL rfl (aU rfl (aV (aA rfl) (aM hS rfl) (i := 4) rfl rfl bG)), trivial⟩⟩
        · exact dM (aT rfl (aT rfl (bC ⟨rfl, rfl, rfl, rfl, rfl, rfl, rfl, rfl, trivial⟩)))
       ·refine tr1 rfl (bF (aA rfl) rfl rfl rfl) ?_
        refine aF ?_
        refine bR rfl (fun c86 => ?_) (fun c86 => ?_)
        ·have h := aY c86 h
         refine aC ?_
         refine tr1 rfl (aE (v := .d (.lit (.int .i64 s_8_81))) (aA rfl) rfl rfl) ?_
         refine tr1 rfl (aJ (v := .d (.lit (.int .i64 s_8_81))) (aA rfl) rfl rfl) ?_
         refine fH ?_
         refine aC ?_
         refine tr1 rfl (aE (v := .d (.lit (.int .i64 s_8_81))) (aA rfl) rfl rfl) ?_
         refine tr1 rfl (bI (aA rfl) rfl rfl rfl) ?_
         refine tr1 rfl (aJ (v := .d (.lit (.int .i64 ((w64 (s_8_81 + 1)))))) (aA rfl) rfl rfl) ?_
         refine aF ?_
         exact ⟨(s_8_81, w64 (s_8_81 + 1)), h, bD [0, 1, 2, 3, 4] rfl rfl (aT rfl (aT rfl (bC ⟨rfl, rfl, rfl, rfl, rfl, rfl, trivial⟩)))⟩
        ·have h := aX c86 h
         refine eL ?_
         refine aC ?_
         refine tr1 rfl (aE (v := .d (.lit (.int .i64 s_8_81))) (aA rfl) rfl rfl) ?_
         refine tr1 rfl (bI (aA rfl) rfl rfl rfl) ?_
         refine tr1 rfl (aJ (v := .d (.lit (.int .i64 ((w64 (s_8_81 + 1)))))) (aA rfl) rfl rfl) ?_
         refine aF ?_
         exact ⟨(atv_8_81, w64 (s_8_81 + 1)), h, bD [0, 1, 2, 3, 4] rfl rfl (aT rfl (aT rfl (bC ⟨rfl, rfl, rfl, rfl, rfl, rfl, trivial⟩)))⟩
      ·have h := aX c83 h
       refine dA ?_
       refine .inl ⟨rfl, ?_⟩
       simp only [fK] at h
       refine aG ?_
       refine aG ?_
       refine aC ?_
       refine tr1 rfl (aE (v := .d (.lit (.int .i64 atv_8_81))) (aA rfl) rfl rfl) ?_
       refine tr1 rfl (bF (aA rfl) rfl rfl rfl) ?_
       refine tr1 rfl (aE (v := .d (.lit (.bool ((decide (atv_8_81 < 0)))))) (aA rfl) rfl rfl) ?_
       obtain ⟨b87, h88, h⟩ := bind_some h
       refine cA 10 [4, 6, 8, 13, 14, 15, 18] 156 b87 ?_ ?_
       ·refine bE (decide (atv_8_81 < 0)) (fun c112 => ?_) (fun c112 => ?_)
        ·have h88 := aY c112 h88
         refine aN rfl rfl (aA rfl) rfl (aA rfl) rfl c112 ?_
         refine aN rfl rfl (aA rfl) rfl (aA rfl) rfl c112 ?_
         refine aN rfl rfl (aA rfl) rfl (aA rfl) rfl c112 ?_
         refine aN rfl rfl (aA rfl) rfl (aA rfl) rfl c112 ?_
         refine aN rfl rfl (aA rfl) rfl (aA rfl) rfl c112 ?_
         refine aN rfl rfl (aA rfl) rfl (aA rfl) rfl c112 ?_
         refine aN rfl rfl (aA rfl) rfl (aA rfl) rfl c112 ?_
         refine aN rfl rfl (aA rfl) rfl (aA rfl) rfl c112 ?_
         refine aN rfl rfl (aA rfl) rfl (aA rfl) rfl c112 ?_
         refine tr1 rfl (bN (v := .d (.lit (.bool true))) (aA rfl) rfl c112 rfl rfl) ?_
         have h88 := Option.some.inj h88
         subst h88
         refine aF (bA rfl ⟨rfl, rfl, rfl, rfl, rfl, rfl, rfl, trivial⟩ rfl)
        ·have h88 := aX c112 h88
         refine aI rfl rfl (aA rfl) rfl c112 (aE (v := .d (.lit (.int .i64 atv_8_81))) (aA rfl) rfl rfl) ?_
         refine aI rfl rfl (aA rfl) rfl c112 (aS (aA rfl) rfl kL) ?_
         refine aI rfl rfl (aA rfl) rfl c112 (aV (aA rfl) rfl (i := 4) rfl rfl bG) ?_
         refine aI rfl rfl (aA rfl) rfl c112 (bI (aA rfl) rfl rfl rfl) ?_
         refine aI rfl rfl (aA rfl) rfl c112 (uS (aA rfl) rfl Try.runUnderlying3 Try.runUnderlying45) ?_
         obtain ⟨u113, h114, h88⟩ := bind_some h88
         refine aI rfl rfl (aA rfl) rfl c112 (vU (aA rfl) rfl rfl (rA h114)) ?_
         refine aI rfl rfl (aA rfl) rfl c112 (aS (aA rfl) rfl gY) ?_
         refine aI rfl rfl (aA rfl) rfl c112 (aV (aA rfl) rfl (i := 4) rfl rfl bG) ?_
         refine aI rfl rfl (aA rfl) rfl c112 (bF (aA rfl) rfl rfl rfl) ?_
         refine tr1 rfl (bM (v := .d (.lit (.bool ((!decide ((atv_8_81.fdiv (2 ^ (min (IntKind.u64.wrap (w64 (x64.Round + 1))).toNat 64))) = x64.Place)))))) (aA rfl) rfl c112 rfl rfl) ?_
         have h88 := Option.some.inj h88
         subst h88
         refine aF (bA rfl ⟨rfl, rfl, rfl, rfl, rfl, rfl, rfl, trivial⟩ rfl)
       ·refine aF ?_
        refine bR rfl (fun c89 => ?_) (fun c89 => ?_)
        ·have h := aY c89 h
         refine aG ?_
         refine aC ?_
         refine tr1 rfl (eT (aA rfl) xN (zs := [.sl 1 ((([] : List Int)).map aP), .sl 1 ((([] : List (List Int))).map kY)]) rfl rfl rfl rfl (es := [.sl 1 ((([] : List Int)).map aP), .sl 1 ((([] : List (List Int))).map kY)]) rfl) ?_
         refine tr1 rfl (cH (i := 0) rfl rfl rfl rfl rfl Try.sizeOf89 rfl (aA rfl) (Nat.le_of_ble_eq_true rfl) (ds' := (cG (aQ.mk ([] : List Int) ([] : List (List Int))))) rfl) ?_
         refine tr1 rfl (aJ (v := .d (.lit (.bool false))) (aA rfl) rfl rfl) ?_
         refine aF ?_
         have h := Option.some.inj h
         subst h
         exact bK ⟨rfl, _, [.box b2 0 (cG (aQ.mk ([] : List Int) ([] : List (List Int)))), .fam 3 1 vs61 (d_4_60.map fun r => r.map aP), .arr w9 22 1 (vs61.map fun v => [.lit v]), .box b6 0 [.sl 1 (d_0_7_2.map aP), .lit w9], .box b66 0 (aK x64)], .two (.cell 4 89 rfl (i := 0) rfl uI (es := (cG (aQ.mk ([] : List Int) ([] : List (List Int))))) rfl rfl) (.tmp 5 (v := .d (.lit (.bool false))) rfl), .refl _, .same _⟩
        ·have h := aX c89 h
         refine bL ?_
         refine aG ?_
         refine aC ?_
         refine tr1 rfl (aJ (v := .d (.lit (.int .i64 0))) (aA rfl) rfl rfl) ?_
         refine aF ?_
         refine xX ?_
         refine dN [4, 6, 8, 13, 14, 15, 18] (fun (s90 : Int × aQ × (List (List Int)) × (List Value)) => [(20, .d (.lit (.int .i64 s90.1)))]) (fun (s90 : Int × aQ × (List (List Int)) × (List Value)) => [.box b2 0 (cG s90.2.1), .fam 3 1 s90.2.2.2 (s90.2.2.1.map fun r => r.map aP), .arr w9 22 1 (s90.2.2.2.map fun v => [.lit v]), .box b6 0 [.sl 1 (d_0_7_2.map aP), .lit w9], .box b66 0 (aK x64)]) (fun (k : Nat) (s90 : Int × aQ × (List (List Int)) × (List Value)) => fE (cX r3.1 r58 d_0_7_2 k62) r3.1 r58 i_4_60 atv_8_81 d_0_7_2 x64 k s90.1 s90.2.1 s90.2.2.1) (fun _ => rfl) (0, o4_6_68, d_4_60, vs61) h (bD [0, 1, 2, 3, 4] rfl rfl (aT rfl (bC ⟨rfl, rfl, rfl, rfl, rfl, rfl, rfl, trivial⟩))) ?_
         rintro k92 ⟨r_10_90, o4_10_90, d_10_90, vs91⟩ h
         simp only [fE] at h
         refine aG ?_
         refine aG ?_
         refine aC ?_
         refine tr1 rfl (aE (v := .d (.lit (.int .i64 r_10_90))) (aA rfl) rfl rfl) ?_
         refine tr1 rfl (aS (aA rfl) rfl kL) ?_
         refine tr1 rfl (aV (aA rfl) rfl (i := 4) rfl rfl bG) ?_
         refine tr1 rfl (bF (aA rfl) rfl rfl rfl) ?_
         refine aF ?_
         refine bR rfl (fun c93 => ?_) (fun c93 => ?_)
         ·have h := aY c93 h
          refine bL ?_
          refine aG ?_
          refine cE ?_
          refine aG ?_
          refine aC ?_
          refine tr1 rfl (aE (v := .d (.lit (.int .i64 atv_8_81))) (aA rfl) rfl rfl) ?_
          refine tr1 rfl (aE (v := .d (.lit (.int .i64 r_10_90))) (aA rfl) rfl rfl) ?_
          refine tr1 rfl (bI (aA rfl) rfl rfl rfl) ?_
          refine tr1 rfl (uS (aA rfl) rfl Try.runUnderlying3 Try.runUnderlying45) ?_
          obtain ⟨u94, h95, h⟩ := bind_some h
          refine tr1 rfl (vU (aA rfl) rfl rfl (rA h95)) ?_
          refine tr1 rfl (aJ (v := .d (.lit (.int .i64 ((atv_8_81.fdiv (2 ^ (min (IntKind.u64.wrap (w64 (r_10_90 + 1))).toNat 64))))))) (aA rfl) rfl rfl) ?_
          refine aF ?_
          refine aG ?_
          refine aG ?_
          obtain ⟨x96, h97, h⟩ := bind_some h
          obtain ⟨x98, h99, h⟩ := bind_some h
          obtain ⟨b100, h101, h⟩ := bind_some h
          refine eE mix 22 [4, 6, 8, 13, 14, 15, 18, 20, 21] [(190, .d (.lit (.bool b100)))] ?_ ?_
          ·refine bE (!decide (x98 = (-2))) (fun c102 => ?_) (fun c102 => ?_)
           ·have h101 := aY c102 h101
            obtain ⟨x103, h104, h101⟩ := bind_some h101
            obtain ⟨x105, h106, h101⟩ := bind_some h101
            have h101 := Option.some.inj h101
            subst h101
            refine ⟨[(169, 0, .bp b6 0 1), (170, 1, .d (.lit w9)), (171, 2, .d (.lit (.int .i64 r_10_90))), (172, 3, .ep w9 1 r_10_90.toNat 0), (173, 4, .d (.lit (pF vs91 r_10_90))), (174, 5, .d (.lit (.int .i64 ((atv_8_81.fdiv (2 ^ (min (IntKind.u64.wrap (w64 (r_10_90 + 1))).toNat 64))))))), (175, 6, .ep (pF vs91 r_10_90) 1 (atv_8_81.fdiv (2 ^ (min (IntKind.u64.wrap (w64 (r_10_90 + 1))).toNat 64))).toNat 0), (176, 7, .d (.lit (.int .i64 x98))), (177, 8, .d (.lit (.bool ((!decide (x98 = (-2))))))), (178, 9, .d (.lit (.bool ((!decide (x98 = (-2))))))), (179, 10, .bp b6 0 1), (180, 11, .d (.lit w9)), (181, 12, .d (.lit (.int .i64 r_10_90))), (182, 13, .ep w9 1 r_10_90.toNat 0), (183, 14, .d (.lit (pF vs91 r_10_90))), (184, 15, .d (.lit (.int .i64 ((atv_8_81.fdiv (2 ^ (min (IntKind.u64.wrap (w64 (r_10_90 + 1))).toNat 64))))))), (185, 16, .ep (pF vs91 r_10_90) 1 (atv_8_81.fdiv (2 ^ (min (IntKind.u64.wrap (w64 (r_10_90 + 1))).toNat 64))).toNat 0), (186, 17, .d (.lit (.int .i64 x105))), (187, 18, .bp b66 0 3), (188, 19, .d (.lit (.int .i64 x64.Player))), (189, 20, .d (.lit (.bool ((!decide (x105 = x64.Player)))))), (190, 21, .d (.lit (.bool ((!decide (x105 = x64.Player))))))], ?_, ?_⟩
            · exact ⟨by kernel_rfl, by kernel_rfl, by kernel_rfl, by kernel_rfl, by kernel_rfl, [([], []), ([0], []), ([], []), ([1, 2], []), ([3], []), ([], []), ([4, 5], []), ([6], []), ([7], []), ([8], []), ([9], []), ([9, 10], []), ([9], []), ([9, 11, 12], []), ([9, 13], []), ([9], []), ([9, 14, 15], []), ([9, 16], []), ([9], []), ([9, 18], []), ([9, 17, 19], []), ([9, 20], [])], by kernel_rfl, ⟨fun S hS => aL rfl (aU rfl (aS (aA rfl) (aM hS rfl) qV)),
      fun S hS => aL rfl (aU rfl (aV (aA rfl) (aM hS rfl) (i := 3) rfl rfl xD)),
      fun S hS => aL rfl (aU rfl (aE (v := .d (.lit (.int .i64 r_10_90))) (aA rfl) (aM hS rfl) rfl)),
      fun S hS => aL rfl (aU rfl (qD (m := 2) (f := 1) (aA rfl) (aM hS rfl) rfl rfl (aM hS rfl) xV.of h97)),
      fun S hS => aL rfl (aU rfl (rF (m := 2) (f := 1) (aA rfl) (aM hS rfl) rfl rfl h97 dD)),
      fun S hS => aL rfl (aU rfl (aE (v := .d (.lit (.int .i64 ((atv_8_81.fdiv (2 ^ (min (IntKind.u64.wrap (w64 (r_10_90 + 1))).toNat 64))))))) (aA rfl) (aM hS rfl) rfl)),
      fun S hS => aL rfl (aU rfl (rE (f := 1) (g := aP) (aA rfl) (aM hS rfl) rfl h97 (aM hS rfl) bY.of h99)),
      fun S hS => aL rfl (aU rfl (vS (f := 1) (g := aP) (aA rfl) (aM hS rfl) rfl h97 h99 rfl bG)),
      fun S hS => aL rfl (aU rfl (bF (aA rfl) (aM hS rfl) rfl rfl)),
      fun S hS => aL rfl (aU rfl (aE (v := .d (.lit (.bool ((!decide (x98 = (-2))))))) (aA rfl) (aM hS rfl) rfl)),
      fun S hS => aL rfl (bQ rfl rfl (aA rfl) (bB hS rfl) c102 (aS (aA rfl) (aM hS rfl) qV)),
      fun S hS => aL rfl (bQ rfl rfl (aA rfl) (bB hS rfl) c102 (aV (aA rfl) (aM hS rfl) (i := 3) rfl rfl xD)),
      fun S hS => aL rfl (bQ rfl rfl (aA rfl) (bB hS rfl) c102 (aE (v := .d (.lit (.int .i64 r_10_90))) (aA rfl) (aM hS rfl) rfl)),
      fun S hS => aL rfl (bQ rfl rfl (aA rfl) (bB hS rfl) c102 (qD (m := 2) (f := 1) (aA rfl) (aM hS rfl) rfl rfl (aM hS rfl) xV.of h104)),
      fun S hS => aL rfl (bQ rfl rfl (aA rfl) (bB hS rfl) c102 (rF (m := 2) (f := 1) (aA rfl) (aM hS rfl) rfl rfl h104 dD)),
      fun S hS => aL rfl (bQ rfl rfl (aA rfl) (bB hS rfl) c102 (aE (v := .d (.lit (.int .i64 ((atv_8_81.fdiv (2 ^ (min (IntKind.u64.wrap (w64 (r_10_90 + 1))).toNat 64))))))) (aA rfl) (aM hS rfl) rfl)),
      fun S hS => aL rfl (bQ rfl rfl (aA rfl) (bB hS rfl) c102 (rE (f := 1) (g := aP) (aA rfl) (aM hS rfl) rfl h104 (aM hS rfl) bY.of h106)),
      fun S hS => aL rfl (bQ rfl rfl (aA rfl) (bB hS rfl) c102 (vS (f := 1) (g := aP) (aA rfl) (aM hS rfl) rfl h104 h106 rfl bG)),
      fun S hS => aL rfl (bQ rfl rfl (aA rfl) (bB hS rfl) c102 (aS (aA rfl) (aM hS rfl) lD)),
      fun S hS => aL rfl (bQ rfl rfl (aA rfl) (bB hS rfl) c102 (aV (aA rfl) (aM hS rfl) (i := 4) rfl rfl bG)),
      fun S hS => aL rfl (bQ rfl rfl (aA rfl) (bB hS rfl) c102 (bF (aA rfl) (aM hS rfl) (aM hS rfl) rfl)),
      fun S hS => aL rfl (aU rfl (bN (v := .d (.lit (.bool ((!decide (x105 = x64.Player)))))) (aA rfl) (aM hS rfl) c102 (aM hS rfl) rfl)), trivial⟩⟩
            · exact dM (aT rfl (bC ⟨rfl, rfl, rfl, rfl, rfl, rfl, rfl, rfl, rfl, trivial⟩))
           ·have h101 := aX c102 h101
            have h101 := Option.some.inj h101
            subst h101
            refine ⟨[(169, 0, .bp b6 0 1), (170, 1, .d (.lit w9)), (171, 2, .d (.lit (.int .i64 r_10_90))), (172, 3, .ep w9 1 r_10_90.toNat 0), (173, 4, .d (.lit (pF vs91 r_10_90))), (174, 5, .d (.lit (.int .i64 ((atv_8_81.fdiv (2 ^ (min (IntKind.u64.wrap (w64 (r_10_90 + 1))).toNat 64))))))), (175, 6, .ep (pF vs91 r_10_90) 1 (atv_8_81.fdiv (2 ^ (min (IntKind.u64.wrap (w64 (r_10_90 + 1))).toNat 64))).toNat 0), (176, 7, .d (.lit (.int .i64 x98))), (177, 8, .d (.lit (.bool ((!decide (x98 = (-2))))))), (178, 9, .d (.lit (.bool ((!decide (x98 = (-2))))))), (179, 10, .tup []), (180, 11, .tup []), (181, 12, .tup []), (182, 13, .tup []), (183, 14, .tup []), (184, 15, .tup []), (185, 16, .tup []), (186, 17, .tup []), (187, 18, .tup []), (188, 19, .tup []), (189, 20, .tup []), (190, 21, .d (.lit (.bool false)))], ?_, ?_⟩
            · exact ⟨by kernel_rfl, by kernel_rfl, by kernel_rfl, by kernel_rfl, by kernel_rfl, [([], []), ([0], []), ([], []), ([1, 2], []), ([3], []), ([], []), ([4, 5], []), ([6], []), ([7], []), ([8], []), ([9], []), ([9, 10], []), ([9], []), ([9, 11, 12], []), ([9, 13], []), ([9], []), ([9, 14, 15], []), ([9, 16], []), ([9], []), ([9, 18], []), ([9, 17, 19], []), ([9, 20], [])], by kernel_rfl, ⟨fun S hS => aL rfl (aU rfl (aS (aA rfl) (aM hS rfl) qV)),
      fun S hS => aL rfl (aU rfl (aV (aA rfl) (aM hS rfl) (i := 3) rfl rfl xD)),
      fun S hS => aL rfl (aU rfl (aE (v := .d (.lit (.int .i64 r_10_90))) (aA rfl) (aM hS rfl) rfl)),
      fun S hS => aL rfl (aU rfl (qD (m := 2) (f := 1) (aA rfl) (aM hS rfl) rfl rfl (aM hS rfl) xV.of h97)),
      fun S hS => aL rfl (aU rfl (rF (m := 2) (f := 1) (aA rfl) (aM hS rfl) rfl rfl h97 dD)),
      fun S hS => aL rfl (aU rfl (aE (v := .d (.lit (.int .i64 ((atv_8_81.fdiv (2 ^ (min (IntKind.u64.wrap (w64 (r_10_90 + 1))).toNat 64))))))) (aA rfl) (aM hS rfl) rfl)),
      fun S hS => aL rfl (aU rfl (rE (f := 1) (g := aP) (aA rfl) (aM hS rfl) rfl h97 (aM hS rfl) bY.of h99)),
      fun S hS => aL rfl (aU rfl (vS (f := 1) (g := aP) (aA rfl) (aM hS rfl) rfl h97 h99 rfl bG)),
      fun S hS => aL rfl (aU rfl (bF (aA rfl) (aM hS rfl) rfl rfl)),
      fun S hS => aL rfl (aU rfl (aE (v := .d (.lit (.bool ((!decide (x98 = (-2))))))) (aA rfl) (aM hS rfl) rfl)),
      fun S hS => aL rfl (bP rfl rfl (aA rfl) rfl (aA rfl) (bB hS rfl) c102),
      fun S hS => aL rfl (bP rfl rfl (aA rfl) rfl (aA rfl) (bB hS rfl) c102),
      fun S hS => aL rfl (bP rfl rfl (aA rfl) rfl (aA rfl) (bB hS rfl) c102),
      fun S hS => aL rfl (bP rfl rfl (aA rfl) rfl (aA rfl) (bB hS rfl) c102),
      fun S hS => aL rfl (bP rfl rfl (aA rfl) rfl (aA rfl) (bB hS rfl) c102),
      fun S hS => aL rfl (bP rfl rfl (aA rfl) rfl (aA rfl) (bB hS rfl) c102),
      fun S hS => aL rfl (bP rfl rfl (aA rfl) rfl (aA rfl) (bB hS rfl) c102),
      fun S hS => aL rfl (bP rfl rfl (aA rfl) rfl (aA rfl) (bB hS rfl) c102),
      fun S hS => aL rfl (bP rfl rfl (aA rfl) rfl (aA rfl) (bB hS rfl) c102),
      fun S hS => aL rfl (bP rfl rfl (aA rfl) rfl (aA rfl) (bB hS rfl) c102),
      fun S hS => aL rfl (bP rfl rfl (aA rfl) rfl (aA rfl) (bB hS rfl) c102),
      fun S hS => aL rfl (aU rfl (bM (v := .d (.lit (.bool false))) (aA rfl) (aM hS rfl) c102 rfl rfl)), trivial⟩⟩
            · exact dM (aT rfl (bC ⟨rfl, rfl, rfl, rfl, rfl, rfl, rfl, rfl, rfl, trivial⟩))
          ·refine aF ?_
           refine bR rfl (fun c107 => ?_) (fun c107 => ?_)
           ·have h := aY c107 h
            refine aG ?_
            refine aC ?_
            refine tr1 rfl (eT (aA rfl) xN (zs := [.sl 1 ((([] : List Int)).map aP), .sl 1 ((([] : List (List Int))).map kY)]) rfl rfl rfl rfl (es := [.sl 1 ((([] : List Int)).map aP), .sl 1 ((([] : List (List Int))).map kY)]) rfl) ?_
            refine tr1 rfl (cH (i := 0) rfl rfl rfl rfl rfl Try.sizeOf89 rfl (aA rfl) (Nat.le_of_ble_eq_true rfl) (ds' := (cG (aQ.mk ([] : List Int) ([] : List (List Int))))) rfl) ?_
            refine tr1 rfl (aJ (v := .d (.lit (.bool false))) (aA rfl) rfl rfl) ?_
            refine aF ?_
            have h := Option.some.inj h
            subst h
            exact bK ⟨rfl, _, [.box b2 0 (cG (aQ.mk ([] : List Int) ([] : List (List Int)))), .fam 3 1 vs91 (d_10_90.map fun r => r.map aP), .arr w9 22 1 (vs91.map fun v => [.lit v]), .box b6 0 [.sl 1 (d_0_7_2.map aP), .lit w9], .box b66 0 (aK x64)], .two (.cell 4 89 rfl (i := 0) rfl uI (es := (cG (aQ.mk ([] : List Int) ([] : List (List Int))))) rfl rfl) (.tmp 5 (v := .d (.lit (.bool false))) rfl), .refl _, .same _⟩
           ·have h := aX c107 h
            refine bL ?_
            obtain ⟨x108, h109, h⟩ := bind_some h
            refine eE mix 8 [4, 6, 8, 13, 14, 15, 18, 20] [(196, .d (.lit (pF vs91 r_10_90))), (197, .d (.lit (.int .i64 ((atv_8_81.fdiv (2 ^ (min (IntKind.u64.wrap (w64 (r_10_90 + 1))).toNat 64))))))), (199, .d (.lit (.int .i64 x64.Player)))] ?_ ?_
            ·refine ⟨[(192, 0, .bp b6 0 1), (193, 1, .d (.lit w9)), (194, 2, .d (.lit (.int .i64 r_10_90))), (195, 3, .ep w9 1 r_10_90.toNat 0), (196, 4, .d (.lit (pF vs91 r_10_90))), (197, 5, .d (.lit (.int .i64 ((atv_8_81.fdiv (2 ^ (min (IntKind.u64.wrap (w64 (r_10_90 + 1))).toNat 64))))))), (198, 6, .bp b66 0 3), (199, 7, .d (.lit (.int .i64 x64.Player)))], ?_, ?_⟩
             · exact ⟨by kernel_rfl, by kernel_rfl, by kernel_rfl, by kernel_rfl, by kernel_rfl, [([], []), ([0], []), ([], []), ([1, 2], []), ([3], []), ([], []), ([], []), ([6], [])], by kernel_rfl, ⟨fun S hS => aL rfl (aU rfl (aS (aA rfl) (aM hS rfl) qV)),
      fun S hS => aL rfl (aU rfl (aV (aA rfl) (aM hS rfl) (i := 3) rfl rfl xD)),
      fun S hS => aL rfl (aU rfl (aE (v := .d (.lit (.int .i64 r_10_90))) (aA rfl) (aM hS rfl) rfl)),
      fun S hS => aL rfl (aU rfl (qD (m := 2) (f := 1) (aA rfl) (aM hS rfl) rfl rfl (aM hS rfl) xV.of h109)),
      fun S hS => aL rfl (aU rfl (rF (m := 2) (f := 1) (aA rfl) (aM hS rfl) rfl rfl h109 dD)),
      fun S hS => aL rfl (aU rfl (aE (v := .d (.lit (.int .i64 ((atv_8_81.fdiv (2 ^ (min (IntKind.u64.wrap (w64 (r_10_90 + 1))).toNat 64))))))) (aA rfl) (aM hS rfl) rfl)),
      fun S hS => aL rfl (aU rfl (aS (aA rfl) (aM hS rfl) lD)),
      fun S hS => aL rfl (aU rfl (aV (aA rfl) (aM hS rfl) (i := 4) rfl rfl bG)), trivial⟩⟩
             · exact dM (aT rfl (aT rfl (aT rfl (bC ⟨rfl, rfl, rfl, rfl, rfl, rfl, rfl, rfl, trivial⟩))))
            ·obtain ⟨x110, h111, h⟩ := bind_some h
             refine tr1 rfl (rE (f := 1) (g := aP) (aA rfl) rfl rfl h109 rfl bY.of h111) ?_
             refine tr1 rfl (aEu (f := 1) (g := aP) rfl rfl h109 h111 rfl rfl rfl Try.sizeOf3 rfl (aA rfl) (Nat.le_of_ble_eq_true rfl) (a' := x64.Player) rfl (c' := (d_10_90.set r_10_90.toNat (x108.set (atv_8_81.fdiv (2 ^ (min (IntKind.u64.wrap (w64 (r_10_90 + 1))).toNat 64))).toNat x64.Player))) rfl) ?_
             refine fH ?_
             refine aC ?_
             refine tr1 rfl (aE (v := .d (.lit (.int .i64 r_10_90))) (aA rfl) rfl rfl) ?_
             refine tr1 rfl (bI (aA rfl) rfl rfl rfl) ?_
             refine tr1 rfl (aJ (v := .d (.lit (.int .i64 ((w64 (r_10_90 + 1)))))) (aA rfl) rfl rfl) ?_
             refine aF ?_
             exact ⟨(w64 (r_10_90 + 1), o4_10_90, (d_10_90.set r_10_90.toNat (x108.set (atv_8_81.fdiv (2 ^ (min (IntKind.u64.wrap (w64 (r_10_90 + 1))).toNat 64))).toNat x64.Player)), vs91), h, bD [0, 1, 2, 3, 4] rfl rfl (aT rfl (bC ⟨rfl, rfl, rfl, rfl, rfl, rfl, rfl, trivial⟩))⟩
         ·have h := aX c93 h
          refine dA ?_
          refine .inl ⟨rfl, ?_⟩
          simp only [nL] at h
          simp only [iP] at h
          refine aC ?_
          refine tr1 rfl (aE (v := .d (.lit (.int .i64 i_4_60))) (aA rfl) rfl rfl) ?_
          refine tr1 rfl (bI (aA rfl) rfl rfl rfl) ?_
          refine tr1 rfl (aJ (v := .d (.lit (.int .i64 ((w64 (i_4_60 + 1)))))) (aA rfl) rfl rfl) ?_
          refine aF ?_
          exact ⟨(w64 (i_4_60 + 1), o4_10_90, d_10_90, vs91), h, bD [0, 1, 2, 3] rfl rfl (aT rfl (bC ⟨rfl, rfl, rfl, rfl, trivial⟩))⟩
   ·have h := aX c63 h
    refine dA ?_
    refine .inl ⟨rfl, ?_⟩
    simp only [nZ] at h
    refine aG ?_
    refine aC ?_
    refine tr1 rfl (bO (aA rfl) rfl (i := 3) rfl uI (es := [.sl 1 (d_0_7_2.map aP), .lit w9]) rfl rfl) ?_
    refine tr1 rfl (cH (i := 0) rfl rfl rfl rfl rfl Try.sizeOf89 rfl (aA rfl) (Nat.le_of_ble_eq_true rfl) (ds' := [.sl 1 (d_0_7_2.map aP), .lit w9]) rfl) ?_
    refine tr1 rfl (aJ (v := .d (.lit (.bool true))) (aA rfl) rfl rfl) ?_
    refine aF ?_
    have h := Option.some.inj h
    subst h
    exact bK ⟨rfl, _, [.box b2 0 [.sl 1 (d_0_7_2.map aP), .lit w9], .fam 3 1 vs61 (d_4_60.map fun r => r.map aP), .arr w9 22 1 (vs61.map fun v => [.lit v]), .box b6 0 [.sl 1 (d_0_7_2.map aP), .lit w9]], .two (.cell 4 89 rfl (i := 0) rfl uI (es := [.sl 1 (d_0_7_2.map aP), .lit w9]) rfl rfl) (.tmp 5 (v := .d (.lit (.bool true))) rfl), .refl _, sT (.cons (.agg (dvc (.same _) (dvc (aLr 2 1 rfl rfl (h := kY) (fun _ => rfl)) dvn))) (.cons (.same _) .nil))⟩

theorem wN (t_0 : aO) (l_1 : List aD) {r : Int} (h : dS t_0 l_1 = some r) : Fn Try.prog 29 [.agg (aR t_0), .d (.sl 5 (l_1.map aK))] (.d (.lit (.int .i64 r))) := by
 unfold dS at h
 refine Fn.of_tr Try.func29 rfl (rs := [.tmp 4]) Try.results29 Try.ntmps29 (Nat.le_of_ble_eq_true rfl) ?_
 refine aG ?_
 refine aC ?_
 refine bW rfl (fU (v := .agg (aR t_0)) (aA rfl) rfl rfl rfl) ?_
 rintro _ ⟨b1, rfl⟩
 refine tr1 rfl (aJ (v := .d (.lit (.int .i64 0))) (aA rfl) rfl rfl) ?_
 refine aF ?_
 refine aG ?_
 refine aG ?_
 refine aC ?_
 refine tr1 rfl (bO (aA rfl) rfl (i := 0) rfl dY (es := (aR t_0)) rfl rfl) ?_
 obtain ⟨r2, h3, h⟩ := bind_some h
 refine tr1 rfl (cP (aA rfl) (.func _ _ Try.call53) rfl rfl (BVs.refl _ _) (wB _ h3) rfl) ?_
 refine tr1 rfl (gL (aA rfl) rfl) ?_
 refine aF ?_
 refine bR rfl (fun c4 => ?_) (fun c4 => ?_)
 ·have h := aY c4 h
  refine aG ?_
  refine aC ?_
  refine tr1 rfl (aJ (v := .d (.lit (.int .i64 70))) (aA rfl) rfl rfl) ?_
  refine aF ?_
  have h := Option.some.inj h
  subst h
  refine cN (cM (cO (l := [4]) ⟨rfl, trivial⟩)) ?_
  exact bK ⟨rfl, _, .one _, rfl, rfl⟩
 ·have h := aX c4 h
  refine bL ?_
  refine aG ?_
  refine aG ?_
  refine aC ?_
  refine tr1 rfl (aE (v := .d (.sl 5 (l_1.map aK))) (aA rfl) rfl rfl) ?_
  refine tr1 rfl (eG (aA rfl) rfl eN.of) ?_
  refine tr1 rfl (bF (aA rfl) rfl rfl rfl) ?_
  refine aF ?_
  refine bR rfl (fun c5 => ?_) (fun c5 => ?_)
  ·have h := aY c5 h
   refine aG ?_
   refine aC ?_
   refine tr1 rfl (aJ (v := .d (.lit (.int .i64 71))) (aA rfl) rfl rfl) ?_
   refine aF ?_
   have h := Option.some.inj h
   subst h
   refine cN (cM (cO (l := [4]) ⟨rfl, trivial⟩)) ?_
   exact bK ⟨rfl, _, .one _, rfl, rfl⟩
  ·have h := aX c5 h
   refine bL ?_
   refine aG ?_
   refine aG ?_
   refine aC ?_
   refine tr1 rfl (aJ (v := .d (.lit (.int .i64 0))) (aA rfl) rfl rfl) ?_
   refine aF ?_
   refine cE ?_
   refine dN [1, 2] (fun (s6 : Int) => [(5, .d (.lit (.int .i64 s6)))]) (fun (s6 : Int) => [.box b1 0 (aR t_0)]) (fun (k : Nat) (s6 : Int) => fD l_1 t_0 k s6) (fun _ => rfl) (0) h (bD [0] rfl rfl (aT rfl (bC ⟨rfl, rfl, trivial⟩))) ?_
   rintro k7 i_0_6 h
   simp only [fD] at h
   refine aG ?_
   refine aG ?_
   refine aC ?_
   refine tr1 rfl (aE (v := .d (.lit (.int .i64 i_0_6))) (aA rfl) rfl rfl) ?_
   refine tr1 rfl (aE (v := .d (.sl 5 (l_1.map aK))) (aA rfl) rfl rfl) ?_
   refine tr1 rfl (eG (aA rfl) rfl eN.of) ?_
   refine tr1 rfl (bF (aA rfl) rfl rfl rfl) ?_
   refine aF ?_
   refine bR rfl (fun c8 => ?_) (fun c8 => ?_)
   ·have h := aY c8 h
    refine bL ?_
    refine aG ?_
    refine cE ?_
    refine aG ?_
    obtain ⟨x9, h10, h⟩ := bind_some h
    refine eE mix 5 [1, 2, 5] [(20, .agg (aR t_0)), (24, .agg (aK x9))] ?_ ?_
    ·refine ⟨[(20, 0, .agg (aR t_0)), (21, 1, .d (.sl 5 (l_1.map aK))), (22, 2, .d (.lit (.int .i64 i_0_6))), (23, 3, .cp [.lit (.int .i64 x9.Kind), .lit (.int .i64 x9.Round), .lit (.int .i64 x9.Place), .lit (.int .i64 x9.Player), .lit (.int .i64 x9.Old)]), (24, 4, .agg (aK x9))], ?_, ?_⟩
     · exact ⟨by kernel_rfl, by kernel_rfl, by kernel_rfl, by kernel_rfl, by kernel_rfl, [([], []), ([], []), ([], []), ([1, 2], []), ([3], [])], by kernel_rfl, ⟨fun S hS => aL rfl (aU rfl (bO (aA rfl) (aM hS rfl) (i := 0) rfl dY (es := (aR t_0)) rfl rfl)),
      fun S hS => aL rfl (aU rfl (aE (v := .d (.sl 5 (l_1.map aK))) (aA rfl) (aM hS rfl) rfl)),
      fun S hS => aL rfl (aU rfl (aE (v := .d (.lit (.int .i64 i_0_6))) (aA rfl) (aM hS rfl) rfl)),
      fun S hS => aL rfl (aU rfl (bX (aA rfl) (aM hS rfl) (aM hS rfl) eN.of (cC aK h10))),
      fun S hS => aL rfl (aU rfl (jV (aA rfl) (aM hS rfl) jH (es := (aK x9)) rfl rfl)), trivial⟩⟩
     · exact dM (aT rfl (aT rfl (bC ⟨rfl, rfl, rfl, trivial⟩)))
    ·obtain ⟨r11, h12, h⟩ := bind_some h
     refine tr1 rfl (cP (aA rfl) (.func _ _ Try.call54) rfl rfl (BVs.refl _ _) (wC _ _ h12) rfl) ?_
     refine tr1 rfl (gL (aA rfl) rfl) ?_
     refine aF ?_
     refine bR rfl (fun c13 => ?_) (fun c13 => ?_)
     ·have h := aY c13 h
      refine aG ?_
      refine aC ?_
      refine tr1 rfl (aJ (v := .d (.lit (.int .i64 71))) (aA rfl) rfl rfl) ?_
      refine aF ?_
      have h := Option.some.inj h
      subst h
      refine cN (cM (cO (l := [4]) ⟨rfl, trivial⟩)) ?_
      exact bK ⟨rfl, _, .one _, rfl, rfl⟩
     ·have h := aX c13 h
      refine eL ?_
      refine aC ?_
      refine tr1 rfl (aE (v := .d (.lit (.int .i64 i_0_6))) (aA rfl) rfl rfl) ?_
      refine tr1 rfl (bI (aA rfl) rfl rfl rfl) ?_
      refine tr1 rfl (aJ (v := .d (.lit (.int .i64 ((w64 (i_0_6 + 1)))))) (aA rfl) rfl rfl) ?_
      refine aF ?_
      exact ⟨(w64 (i_0_6 + 1)), h, bD [0] rfl rfl (aT rfl (bC ⟨rfl, rfl, trivial⟩))⟩
   ·have h := aX c8 h
    refine dA ?_
    refine .inl ⟨rfl, ?_⟩
    simp only [hZ] at h
    refine aG ?_
    refine aG ?_
    refine aC ?_
    refine tr1 rfl (bO (aA rfl) rfl (i := 0) rfl dY (es := (aR t_0)) rfl rfl) ?_
    refine tr1 rfl (aE (v := .d (.sl 5 (l_1.map aK))) (aA rfl) rfl rfl) ?_
    obtain ⟨r14, h15, h⟩ := bind_some h
    refine tr1 rfl (iB (aA rfl) (.func _ _ Try.call55) rfl rfl (yC _ _ h15)) ?_
    refine tr1 rfl (aE (v := .tup [.agg (cG r14.1), .d (.lit (.bool r14.2))]) (aA rfl) rfl rfl) ?_
    refine tr1 rfl (bS (aA rfl) rfl rfl) ?_
    refine tr1 rfl (bS (aA rfl) rfl rfl) ?_
    refine bW rfl (eC (zs := [.sl 1 ((([] : List Int)).map aP), .sl 1 ((([] : List (List Int))).map kY)]) (aA rfl) Try.zeroValue89 rfl rfl) ?_
    rintro _ ⟨b16, rfl⟩
    refine tr1 rfl (cH (i := 1) rfl rfl rfl rfl rfl Try.sizeOf89 rfl (aA rfl) (Nat.le_of_ble_eq_true rfl) (ds' := (cG r14.1)) rfl) ?_
    refine tr1 rfl (aJ (v := .d (.lit (.bool r14.2))) (aA rfl) rfl rfl) ?_
    refine aF ?_
    refine aG ?_
    refine aC ?_
    refine tr1 rfl (aE (v := .d (.lit (.bool r14.2))) (aA rfl) rfl rfl) ?_
    refine tr1 rfl (gL (aA rfl) rfl) ?_
    refine aF ?_
    refine bR rfl (fun c17 => ?_) (fun c17 => ?_)
    ·have h := aY c17 h
     refine aG ?_
     refine aC ?_
     refine tr1 rfl (aJ (v := .d (.lit (.int .i64 72))) (aA rfl) rfl rfl) ?_
     refine aF ?_
     have h := Option.some.inj h
     subst h
     refine cN (cM (cO (l := [4]) ⟨rfl, trivial⟩)) ?_
     exact bK ⟨rfl, _, .one _, rfl, rfl⟩
    ·have h := aX c17 h
     refine bL ?_
     refine aG ?_
     refine aC ?_
     refine tr1 rfl (aJ (v := .d (.lit (.int .i64 0))) (aA rfl) rfl rfl) ?_
     refine aF ?_
     have h := Option.some.inj h
     subst h
     refine cN (cM (cO (l := [4]) ⟨rfl, trivial⟩)) ?_
     exact bK ⟨rfl, _, .one _, rfl, rfl⟩

theorem wM (t_0 : aO) (l_1 : List aD) {r : Bool} (h : jO t_0 l_1 = some r) : Fn Try.prog 12 [.agg (aR t_0), .d (.sl 5 (l_1.map aK))] (.d (.lit (.bool r))) := by
 unfold jO at h
 refine Fn.of_tr Try.func12 rfl (rs := [.tmp 4]) Try.results12 Try.ntmps12 (Nat.le_of_ble_eq_true rfl) ?_
 refine aG ?_
 refine aC ?_
 refine bW rfl (fU (v := .agg (aR t_0)) (aA rfl) rfl rfl rfl) ?_
 rintro _ ⟨b1, rfl⟩
 refine tr1 rfl (aJ (v := .d (.lit (.bool false))) (aA rfl) rfl rfl) ?_
 refine aF ?_
 refine aG ?_
 refine aC ?_
 refine tr1 rfl (bO (aA rfl) rfl (i := 0) rfl dY (es := (aR t_0)) rfl rfl) ?_
 refine tr1 rfl (aE (v := .d (.sl 5 (l_1.map aK))) (aA rfl) rfl rfl) ?_
 obtain ⟨r2, h3, h⟩ := bind_some h
 refine tr1 rfl (cP (aA rfl) (.func _ _ Try.call27) rfl rfl (BVs.refl _ _) (yR _ _ h3) rfl) ?_
 refine tr1 rfl (gL (aA rfl) rfl) ?_
 refine tr1 rfl (aE (v := .d (.lit (.bool (!r2)))) (aA rfl) rfl rfl) ?_
 obtain ⟨b4, h5, h⟩ := bind_some h
 refine cA 5 [] 14 b4 ?_ ?_
 ·refine bE (!r2) (fun c6 => ?_) (fun c6 => ?_)
  ·have h5 := aY c6 h5
   refine aI rfl rfl (aA rfl) rfl c6 (bO (aA rfl) rfl (i := 0) rfl dY (es := (aR t_0)) rfl rfl) ?_
   refine aI rfl rfl (aA rfl) rfl c6 (aE (v := .d (.sl 5 (l_1.map aK))) (aA rfl) rfl rfl) ?_
   obtain ⟨r7, h8, h5⟩ := bind_some h5
   refine aI rfl rfl (aA rfl) rfl c6 (cP (aA rfl) (.func _ _ Try.call29) rfl rfl (BVs.refl _ _) (wN _ _ h8) rfl) ?_
   refine aI rfl rfl (aA rfl) rfl c6 (bF (aA rfl) rfl rfl rfl) ?_
   refine tr1 rfl (bN (v := .d (.lit (.bool ((decide (r7 = 0)))))) (aA rfl) rfl c6 rfl rfl) ?_
   have h5 := Option.some.inj h5
   subst h5
   refine aF (bA rfl trivial rfl)
  ·have h5 := aX c6 h5
   refine aN rfl rfl (aA rfl) rfl (aA rfl) rfl c6 ?_
   refine aN rfl rfl (aA rfl) rfl (aA rfl) rfl c6 ?_
   refine aN rfl rfl (aA rfl) rfl (aA rfl) rfl c6 ?_
   refine aN rfl rfl (aA rfl) rfl (aA rfl) rfl c6 ?_
   refine tr1 rfl (bM (v := .d (.lit (.bool false))) (aA rfl) rfl c6 rfl rfl) ?_
   have h5 := Option.some.inj h5
   subst h5
   refine aF (bA rfl trivial rfl)
 ·refine tr1 rfl (aJ (v := .d (.lit (.bool b4))) (aA rfl) rfl rfl) ?_
  refine aF ?_
  have h := Option.some.inj h
  subst h
  refine cN (cM (cO (l := [4]) ⟨rfl, trivial⟩)) ?_
  exact bK ⟨rfl, _, .one _, rfl, rfl⟩

theorem vB {r : aO × (List aD)} (h : nW = some r) : Fn Try.prog 43 [] (.tup [.agg (aR r.1), .d (.sl 5 (r.2.map aK))]) := by
 unfold nW at h
 refine rV Try.func43 rfl (rs := [.cell 0 24, .tmp 1]) Try.results43 Try.ntmps43 (Nat.le_of_ble_eq_true rfl) ?_
 refine aG ?_
 refine aC ?_
 refine bW rfl (eC (zs := [.lit (.int .i64 0), .sl 1 ((([] : List Int)).map aP)]) (aA rfl) Try.zeroValue24 rfl rfl) ?_
 rintro _ ⟨b1, rfl⟩
 refine tr1 rfl (tW 5 (aA rfl)) ?_
 refine aF ?_
 refine aG ?_
 refine aC ?_
 refine tr1 rfl (gD (aA rfl) bY rfl rfl (rows := ([1, (-1), 2, 3, 4, 5, 6, 7]).map aP) rfl (dI (f := aP) fun _ => rfl) rfl (by decide)) ?_
 refine tr1 rfl (eT (aA rfl) aMc (zs := [.lit (.int .i64 0), .sl 1 ((([] : List Int)).map aP)]) rfl rfl rfl rfl (es := [.lit (.int .i64 3), .sl 1 ((([1, (-1), 2, 3, 4, 5, 6, 7])).map aP)]) rfl) ?_
 refine bW rfl (eC (zs := [.lit (.int .i64 0), .sl 1 ((([] : List Int)).map aP)]) (aA rfl) Try.zeroValue24 rfl rfl) ?_
 rintro _ ⟨b2, rfl⟩
 refine tr1 rfl (cH (i := 1) rfl rfl rfl rfl rfl Try.sizeOf24 rfl (aA rfl) (Nat.le_of_ble_eq_true rfl) (ds' := (aR (aO.mk 3 ([1, (-1), 2, 3, 4, 5, 6, 7])))) rfl) ?_
 refine aF ?_
 refine aG ?_
 refine aC ?_
 refine tr1 rfl (bO (aA rfl) rfl (i := 1) rfl dY (es := (aR (aO.mk 3 ([1, (-1), 2, 3, 4, 5, 6, 7])))) rfl rfl) ?_
 refine tr1 rfl (eT (aA rfl) xM (zs := [.lit (.int .i64 0), .lit (.int .i64 0), .lit (.int .i64 0), .lit (.int .i64 0), .lit (.int .i64 0)]) rfl rfl rfl rfl (es := [.lit (.int .i64 1), .lit (.int .i64 1), .lit (.int .i64 0), .lit (.int .i64 2), .lit (.int .i64 0)]) rfl) ?_
 refine tr1 rfl (eT (aA rfl) xM (zs := [.lit (.int .i64 0), .lit (.int .i64 0), .lit (.int .i64 0), .lit (.int .i64 0), .lit (.int .i64 0)]) rfl rfl rfl rfl (es := [.lit (.int .i64 3), .lit (.int .i64 0), .lit (.int .i64 3), .lit (.int .i64 7), .lit (.int .i64 0)]) rfl) ?_
 refine tr1 rfl (eT (aA rfl) xM (zs := [.lit (.int .i64 0), .lit (.int .i64 0), .lit (.int .i64 0), .lit (.int .i64 0), .lit (.int .i64 0)]) rfl rfl rfl rfl (es := [.lit (.int .i64 5), .lit (.int .i64 0), .lit (.int .i64 4), .lit (.int .i64 8), .lit (.int .i64 4)]) rfl) ?_
 refine tr1 rfl (gD (aA rfl) eN rfl rfl (rows := ([(aD.mk 1 1 0 2 0), (aD.mk 3 0 3 7 0), (aD.mk 5 0 4 8 4)]).map aK) rfl (dI (f := aK) fun _ => rfl) rfl (by decide)) ?_
 refine tr1 rfl (cH (i := 0) rfl rfl rfl rfl rfl Try.sizeOf24 rfl (aA rfl) (Nat.le_of_ble_eq_true rfl) (ds' := (aR (aO.mk 3 ([1, (-1), 2, 3, 4, 5, 6, 7])))) rfl) ?_
 refine tr1 rfl (aJ (v := .d (.sl 5 ((([(aD.mk 1 1 0 2 0), (aD.mk 3 0 3 7 0), (aD.mk 5 0 4 8 4)])).map aK))) (aA rfl) rfl rfl) ?_
 refine aF ?_
 have h := Option.some.inj h
 subst h
 exact bK ⟨rfl, _, [.box b1 0 (aR (aO.mk 3 ([1, (-1), 2, 3, 4, 5, 6, 7]))), .box b2 0 (aR (aO.mk 3 ([1, (-1), 2, 3, 4, 5, 6, 7])))], .two (.cell 0 24 rfl (i := 0) rfl dY (es := (aR (aO.mk 3 ([1, (-1), 2, 3, 4, 5, 6, 7])))) rfl rfl) (.tmp 1 (v := .d (.sl 5 ((([(aD.mk 1 1 0 2 0), (aD.mk 3 0 3 7 0), (aD.mk 5 0 4 8 4)])).map aK))) rfl), .refl _, .same _⟩

theorem eJ (n_0 : Int) (low_1 : Int) (high_2 : Int) {r : Bool} (h : eH n_0 low_1 high_2 = some r) : Fn Try.prog 72 [.d (.lit (.int .i64 n_0)), .d (.lit (.int .i64 low_1)), .d (.lit (.int .i64 high_2))] (.d (.lit (.bool r))) := by
 unfold eH at h
 refine Fn.of_tr Try.func72 rfl (rs := [.tmp 6]) Try.results72 Try.ntmps72 (Nat.le_of_ble_eq_true rfl) ?_
 refine aG ?_
 refine aC ?_
 refine tr1 rfl (aJ (v := .d (.lit (.bool false))) (aA rfl) rfl rfl) ?_
 refine aF ?_
 refine aG ?_
 refine aC ?_
 refine tr1 rfl (aE (v := .d (.lit (.int .i64 low_1))) (aA rfl) rfl rfl) ?_
 refine tr1 rfl (aE (v := .d (.lit (.int .i64 n_0))) (aA rfl) rfl rfl) ?_
 refine tr1 rfl (bF (aA rfl) rfl rfl rfl) ?_
 refine tr1 rfl (aE (v := .d (.lit (.bool ((decide (low_1 ≤ n_0)))))) (aA rfl) rfl rfl) ?_
 obtain ⟨b1, h2, h⟩ := bind_some h
 refine cA 4 [] 14 b1 ?_ ?_
 ·refine bE (decide (low_1 ≤ n_0)) (fun c3 => ?_) (fun c3 => ?_)
  ·have h2 := aY c3 h2
   refine aI rfl rfl (aA rfl) rfl c3 (aE (v := .d (.lit (.int .i64 n_0))) (aA rfl) rfl rfl) ?_
   refine aI rfl rfl (aA rfl) rfl c3 (aE (v := .d (.lit (.int .i64 high_2))) (aA rfl) rfl rfl) ?_
   refine aI rfl rfl (aA rfl) rfl c3 (bF (aA rfl) rfl rfl rfl) ?_
   refine tr1 rfl (bN (v := .d (.lit (.bool ((decide (n_0 ≤ high_2)))))) (aA rfl) rfl c3 rfl rfl) ?_
   have h2 := Option.some.inj h2
   subst h2
   refine aF (bA rfl trivial rfl)
  ·have h2 := aX c3 h2
   refine aN rfl rfl (aA rfl) rfl (aA rfl) rfl c3 ?_
   refine aN rfl rfl (aA rfl) rfl (aA rfl) rfl c3 ?_
   refine aN rfl rfl (aA rfl) rfl (aA rfl) rfl c3 ?_
   refine tr1 rfl (bM (v := .d (.lit (.bool false))) (aA rfl) rfl c3 rfl rfl) ?_
   have h2 := Option.some.inj h2
   subst h2
   refine aF (bA rfl trivial rfl)
 ·refine tr1 rfl (aJ (v := .d (.lit (.bool b1))) (aA rfl) rfl rfl) ?_
  refine aF ?_
  have h := Option.some.inj h
  subst h
  exact bK ⟨rfl, _, .one _, rfl, rfl⟩

theorem yP (t_0 : aO) {r : Bool} (h : kW t_0 = some r) : Fn Try.prog 67 [.agg (aR t_0)] (.d (.lit (.bool r))) := by
 unfold kW at h
 refine Fn.of_tr Try.func67 rfl (rs := [.tmp 2]) Try.results67 Try.ntmps67 (Nat.le_of_ble_eq_true rfl) ?_
 refine aG ?_
 refine aC ?_
 refine bW rfl (fU (v := .agg (aR t_0)) (aA rfl) rfl rfl rfl) ?_
 rintro _ ⟨b1, rfl⟩
 refine tr1 rfl (aJ (v := .d (.lit (.bool false))) (aA rfl) rfl rfl) ?_
 refine aF ?_
 refine aG ?_
 refine aG ?_
 obtain ⟨r2, h3, h⟩ := bind_some h
 obtain ⟨b4, h5, h⟩ := bind_some h
 refine eE mix 13 [1] [(18, .d (.lit (.bool b4)))] ?_ ?_
 ·refine bE (!r2) (fun c6 => ?_) (fun c6 => ?_)
  ·have h5 := aY c6 h5
   have h5 := Option.some.inj h5
   subst h5
   refine ⟨[(6, 0, .bp b1 0 0), (7, 1, .d (.lit (.int .i64 t_0.Rounds))), (8, 2, .d (.lit (.bool r2))), (9, 3, .d (.lit (.bool (!r2)))), (10, 4, .d (.lit (.bool (!r2)))), (11, 5, .tup []), (12, 6, .tup []), (13, 7, .tup []), (14, 8, .tup []), (15, 9, .tup []), (16, 10, .tup []), (17, 11, .tup []), (18, 12, .d (.lit (.bool true)))], ?_, ?_⟩
   · exact ⟨by kernel_rfl, by kernel_rfl, by kernel_rfl, by kernel_rfl, by kernel_rfl, [([], []), ([0], []), ([1], []), ([2], []), ([3], []), ([4], []), ([4, 5], []), ([4, 6], []), ([4], []), ([4, 8], []), ([4, 9], []), ([4, 7, 10], []), ([4, 11], [])], by kernel_rfl, ⟨fun S hS => aL rfl (aU rfl (aS (aA rfl) (aM hS rfl) gS)),
      fun S hS => aL rfl (aU rfl (aV (aA rfl) (aM hS rfl) (i := 0) rfl rfl bG)),
      fun S hS => aL rfl (aU rfl (cP (aA rfl) (.func _ _ Try.call72) (ev2 (aM hS rfl) (ev2 rfl (ev2 rfl evn))) rfl (BVs.refl _ _) (eJ _ _ _ h3) rfl)),
      fun S hS => aL rfl (aU rfl (gL (aA rfl) (aM hS rfl))),
      fun S hS => aL rfl (aU rfl (aE (v := .d (.lit (.bool (!r2)))) (aA rfl) (aM hS rfl) rfl)),
      fun S hS => aL rfl (bP rfl rfl (aA rfl) rfl (aA rfl) (bB hS rfl) c6),
      fun S hS => aL rfl (bP rfl rfl (aA rfl) rfl (aA rfl) (bB hS rfl) c6),
      fun S hS => aL rfl (bP rfl rfl (aA rfl) rfl (aA rfl) (bB hS rfl) c6),
      fun S hS => aL rfl (bP rfl rfl (aA rfl) rfl (aA rfl) (bB hS rfl) c6),
      fun S hS => aL rfl (bP rfl rfl (aA rfl) rfl (aA rfl) (bB hS rfl) c6),
      fun S hS => aL rfl (bP rfl rfl (aA rfl) rfl (aA rfl) (bB hS rfl) c6),
      fun S hS => aL rfl (bP rfl rfl (aA rfl) rfl (aA rfl) (bB hS rfl) c6),
      fun S hS => aL rfl (aU rfl (bN (v := .d (.lit (.bool true))) (aA rfl) (aM hS rfl) c6 rfl rfl)), trivial⟩⟩
   · exact dM (aT rfl (bC ⟨rfl, trivial⟩))
  ·have h5 := aX c6 h5
   obtain ⟨u7, h8, h5⟩ := bind_some h5
   have h5 := Option.some.inj h5
   subst h5
   refine ⟨[(6, 0, .bp b1 0 0), (7, 1, .d (.lit (.int .i64 t_0.Rounds))), (8, 2, .d (.lit (.bool r2))), (9, 3, .d (.lit (.bool (!r2)))), (10, 4, .d (.lit (.bool (!r2)))), (11, 5, .bp b1 0 1), (12, 6, .d (.sl 1 (t_0.Slots.map aP))), (13, 7, .d (.lit (.int .i64 ((t_0.Slots.length : Int))))), (14, 8, .bp b1 0 0), (15, 9, .d (.lit (.int .i64 t_0.Rounds))), (16, 10, .d (.lit (.int .i64 ((w64 (1 * 2 ^ (min t_0.Rounds.toNat 64))))))), (17, 11, .d (.lit (.bool ((!decide ((t_0.Slots.length : Int) = (w64 (1 * 2 ^ (min t_0.Rounds.toNat 64))))))))), (18, 12, .d (.lit (.bool ((!decide ((t_0.Slots.length : Int) = (w64 (1 * 2 ^ (min t_0.Rounds.toNat 64)))))))))], ?_, ?_⟩
   · exact ⟨by kernel_rfl, by kernel_rfl, by kernel_rfl, by kernel_rfl, by kernel_rfl, [([], []), ([0], []), ([1], []), ([2], []), ([3], []), ([4], []), ([4, 5], []), ([4, 6], []), ([4], []), ([4, 8], []), ([4, 9], []), ([4, 7, 10], []), ([4, 11], [])], by kernel_rfl, ⟨fun S hS => aL rfl (aU rfl (aS (aA rfl) (aM hS rfl) gS)),
      fun S hS => aL rfl (aU rfl (aV (aA rfl) (aM hS rfl) (i := 0) rfl rfl bG)),
      fun S hS => aL rfl (aU rfl (cP (aA rfl) (.func _ _ Try.call72) (ev2 (aM hS rfl) (ev2 rfl (ev2 rfl evn))) rfl (BVs.refl _ _) (eJ _ _ _ h3) rfl)),
      fun S hS => aL rfl (aU rfl (gL (aA rfl) (aM hS rfl))),
      fun S hS => aL rfl (aU rfl (aE (v := .d (.lit (.bool (!r2)))) (aA rfl) (aM hS rfl) rfl)),
      fun S hS => aL rfl (bQ rfl rfl (aA rfl) (bB hS rfl) c6 (aS (aA rfl) (aM hS rfl) dO)),
      fun S hS => aL rfl (bQ rfl rfl (aA rfl) (bB hS rfl) c6 (aV (aA rfl) (aM hS rfl) (i := 0) rfl rfl dD)),
      fun S hS => aL rfl (bQ rfl rfl (aA rfl) (bB hS rfl) c6 (eG (aA rfl) (aM hS rfl) bY.of)),
      fun S hS => aL rfl (bQ rfl rfl (aA rfl) (bB hS rfl) c6 (aS (aA rfl) (aM hS rfl) gS)),
      fun S hS => aL rfl (bQ rfl rfl (aA rfl) (bB hS rfl) c6 (aV (aA rfl) (aM hS rfl) (i := 0) rfl rfl bG)),
      fun S hS => aL rfl (bQ rfl rfl (aA rfl) (bB hS rfl) c6 (aGq (aA rfl) rfl (aM hS rfl) (rA h8))),
      fun S hS => aL rfl (bQ rfl rfl (aA rfl) (bB hS rfl) c6 (bF (aA rfl) (aM hS rfl) (aM hS rfl) rfl)),
      fun S hS => aL rfl (aU rfl (bM (v := .d (.lit (.bool ((!decide ((t_0.Slots.length : Int) = (w64 (1 * 2 ^ (min t_0.Rounds.toNat 64))))))))) (aA rfl) (aM hS rfl) c6 (aM hS rfl) rfl)), trivial⟩⟩
   · exact dM (aT rfl (bC ⟨rfl, trivial⟩))
 ·refine aF ?_
  refine bR rfl (fun c9 => ?_) (fun c9 => ?_)
  ·have h := aY c9 h
   refine aG ?_
   refine aC ?_
   refine tr1 rfl (aJ (v := .d (.lit (.bool false))) (aA rfl) rfl rfl) ?_
   refine aF ?_
   have h := Option.some.inj h
   subst h
   refine cN (cM (cO (l := [2]) ⟨rfl, trivial⟩)) ?_
   exact bK ⟨rfl, _, .one _, rfl, rfl⟩
  ·have h := aX c9 h
   refine bL ?_
   refine aG ?_
   refine aC ?_
   refine bW rfl (tV (aA rfl)) ?_
   rintro _ ⟨r10, rfl⟩
   refine tr1 rfl (aJ (v := .d (.lit (.map (some r10)))) (aA rfl) rfl rfl) ?_
   refine aF ?_
   refine aG ?_
   refine aG ?_
   refine aC ?_
   refine tr1 rfl (aS (aA rfl) rfl dO) ?_
   refine tr1 rfl (aV (aA rfl) rfl (i := 0) rfl rfl dD) ?_
   refine tr1 rfl (eG (aA rfl) rfl bY.of) ?_
   refine tr1 rfl (aE (v := .d (.lit (.int .i64 0))) (aA rfl) rfl rfl) ?_
   refine aF ?_
   refine cE ?_
   refine dN [1, 3, 21, 22] (fun (s11 : Int × (List (Int × Int)) × (List Nat) × Nat) => [(23, .d (.lit (.int .i64 s11.1)))]) (fun (s11 : Int × (List (Int × Int)) × (List Nat) × Nat) => [.box b1 0 (aR t_0), .map r10 (s11.2.1.map fun p : Int × Int => ((fun n : Int => Value.int .i64 n) p.1, (fun v : Int => AV.d (.lit (.int .i64 v))) p.2)) s11.2.2.1 s11.2.2.2]) (fun (k : Nat) (s11 : Int × (List (Int × Int)) × (List Nat) × Nat) => fX t_0.Slots (t_0.Slots.length : Int) t_0 k s11.1 s11.2.1) (fun _ => rfl) (0, ([] : List (Int × Int)), [], 0) h (bD [0, 1] rfl rfl (aT rfl (bC ⟨rfl, rfl, rfl, rfl, trivial⟩))) ?_
   rintro k14 ⟨t23_0_11, o19_0_11, bs12, ck13⟩ h
   simp only [fX] at h
   refine aG ?_
   refine aC ?_
   refine tr1 rfl (bF (aA rfl) rfl rfl rfl) ?_
   refine aF ?_
   refine aG ?_
   refine bR rfl (fun c15 => ?_) (fun c15 => ?_)
   ·have h := aY c15 h
    refine bL ?_
    refine aG ?_
    refine cE ?_
    refine aG ?_
    refine aC ?_
    refine tr1 rfl (aE (v := .d (.lit (.int .i64 t23_0_11))) (aA rfl) rfl rfl) ?_
    obtain ⟨x16, h17, h⟩ := bind_some h
    refine tr1 rfl (bX (aA rfl) rfl rfl bY.of (cC aP h17)) ?_
    refine tr1 rfl (bU (aA rfl) rfl bG) ?_
    refine tr1 rfl (aJ (v := .d (.lit (.int .i64 t23_0_11))) (aA rfl) rfl rfl) ?_
    refine tr1 rfl (aJ (v := .d (.lit (.int .i64 x16))) (aA rfl) rfl rfl) ?_
    refine aF ?_
    refine aG ?_
    refine aG ?_
    refine aC ?_
    refine tr1 rfl (aE (v := .d (.lit (.int .i64 x16))) (aA rfl) rfl rfl) ?_
    refine tr1 rfl (bF (aA rfl) rfl rfl rfl) ?_
    refine aF ?_
    refine bR rfl (fun c18 => ?_) (fun c18 => ?_)
    ·have h := aY c18 h
     refine aG ?_
     refine aG ?_
     refine aC ?_
     refine tr1 rfl (aS (aA rfl) rfl dO) ?_
     refine tr1 rfl (aV (aA rfl) rfl (i := 0) rfl rfl dD) ?_
     refine tr1 rfl (aE (v := .d (.lit (.int .i64 t23_0_11))) (aA rfl) rfl rfl) ?_
     refine tr1 rfl (aIa (aA rfl) rfl rfl (.inr (.inr ⟨rfl, rfl⟩))) ?_
     obtain ⟨x19, h20, h⟩ := bind_some h
     refine tr1 rfl (bX (aA rfl) rfl rfl bY.of (cC aP h20)) ?_
     refine tr1 rfl (bU (aA rfl) rfl bG) ?_
     refine tr1 rfl (bF (aA rfl) rfl rfl rfl) ?_
     refine aF ?_
     refine bR rfl (fun c21 => ?_) (fun c21 => ?_)
     ·have h := aY c21 h
      refine aG ?_
      refine aC ?_
      refine tr1 rfl (aJ (v := .d (.lit (.bool false))) (aA rfl) rfl rfl) ?_
      refine aF ?_
      have h := Option.some.inj h
      subst h
      refine cN (cM (cO (l := [2]) ⟨rfl, trivial⟩)) ?_
      exact bK ⟨rfl, _, .one _, rfl, rfl⟩
     ·have h := aX c21 h
      refine bL ?_
      refine dA ?_
      refine .inl ⟨rfl, ?_⟩
      refine aC ?_
      refine tr1 rfl (bI (aA rfl) rfl rfl rfl) ?_
      refine tr1 rfl (aE (v := .d (.lit (.int .i64 ((w64 (t23_0_11 + 1)))))) (aA rfl) rfl rfl) ?_
      refine aF ?_
      exact ⟨(w64 (t23_0_11 + 1), o19_0_11, bs12, ck13), h, bD [0, 1] rfl rfl (aT rfl (bC ⟨rfl, rfl, rfl, rfl, trivial⟩))⟩
    ·have h := aX c18 h
     refine bL ?_
     refine aG ?_
     refine aC ?_
     refine tr1 rfl (aE (v := .d (.lit (.map (some r10)))) (aA rfl) rfl rfl) ?_
     refine tr1 rfl (aE (v := .d (.lit (.int .i64 x16))) (aA rfl) rfl rfl) ?_
     refine tr1 rfl (vT (av := (fun v : Int => AV.d (.lit (.int .i64 v)))) (l := o19_0_11) (z := 0) (a := x16) (m := 1) (aA rfl) aGc Try.underlying121 Try.zeroValue3 (fun _ _ => .d (.lit _ rfl)) rfl rfl rfl rfl (wT (kv := (fun n : Int => Value.int .i64 n)) x16)) ?_
     refine tr1 rfl (bI (aA rfl) rfl rfl rfl) ?_
     refine tr1 rfl (uH (av := (fun v : Int => AV.d (.lit (.int .i64 v)))) (l := o19_0_11) (v := w64 ((cK x16 0 o19_0_11) + 1)) (a := x16) (m := 1) aGc Try.underlying121 rfl rfl rfl rfl (wT (kv := (fun n : Int => Value.int .i64 n)) x16) rfl rfl) ?_
     refine aF ?_
     refine aG ?_
     refine aC ?_
     refine tr1 rfl (aE (v := .d (.lit (.map (some r10)))) (aA rfl) rfl rfl) ?_
     refine tr1 rfl (aE (v := .d (.lit (.int .i64 x16))) (aA rfl) rfl rfl) ?_
     refine tr1 rfl (vT (av := (fun v : Int => AV.d (.lit (.int .i64 v)))) (l := (eR x16 (w64 ((cK x16 0 o19_0_11) + 1)) o19_0_11)) (z := 0) (a := x16) (m := 1) (aA rfl) aGc Try.underlying121 Try.zeroValue3 (fun _ _ => .d (.lit _ rfl)) rfl rfl rfl rfl (wT (kv := (fun n : Int => Value.int .i64 n)) x16)) ?_
     refine tr1 rfl (bF (aA rfl) rfl rfl rfl) ?_
     refine tr1 rfl (aE (v := .d (.lit (.bool ((decide (1 < (cK x16 0 (eR x16 (w64 ((cK x16 0 o19_0_11) + 1)) o19_0_11)))))))) (aA rfl) rfl rfl) ?_
     obtain ⟨b22, h23, h⟩ := bind_some h
     refine cA 4 [1, 3, 21, 22, 23] 49 b22 ?_ ?_
     ·refine bE (decide (1 < (cK x16 0 (eR x16 (w64 ((cK x16 0 o19_0_11) + 1)) o19_0_11)))) (fun c25 => ?_) (fun c25 => ?_)
      ·have h23 := aY c25 h23
       refine aN rfl rfl (aA rfl) rfl (aA rfl) rfl c25 ?_
       refine aN rfl rfl (aA rfl) rfl (aA rfl) rfl c25 ?_
       refine aN rfl rfl (aA rfl) rfl (aA rfl) rfl c25 ?_
       refine tr1 rfl (bN (v := .d (.lit (.bool true))) (aA rfl) rfl c25 rfl rfl) ?_
       have h23 := Option.some.inj h23
       subst h23
       refine aF (bA rfl ⟨rfl, rfl, rfl, rfl, rfl, trivial⟩ rfl)
      ·have h23 := aX c25 h23
       refine aI rfl rfl (aA rfl) rfl c25 (aE (v := .d (.lit (.int .i64 x16))) (aA rfl) rfl rfl) ?_
       obtain ⟨r26, h27, h23⟩ := bind_some h23
       refine aI rfl rfl (aA rfl) rfl c25 (cP (aA rfl) (.func _ _ Try.call72) rfl rfl (BVs.refl _ _) (eJ _ _ _ h27) rfl) ?_
       refine aI rfl rfl (aA rfl) rfl c25 (gL (aA rfl) rfl) ?_
       refine tr1 rfl (bM (v := .d (.lit (.bool (!r26)))) (aA rfl) rfl c25 rfl rfl) ?_
       have h23 := Option.some.inj h23
       subst h23
       refine aF (bA rfl ⟨rfl, rfl, rfl, rfl, rfl, trivial⟩ rfl)
     ·refine aF ?_
      refine bR rfl (fun c24 => ?_) (fun c24 => ?_)
      ·have h := aY c24 h
       refine aG ?_
       refine aC ?_
       refine tr1 rfl (aJ (v := .d (.lit (.bool false))) (aA rfl) rfl rfl) ?_
       refine aF ?_
       have h := Option.some.inj h
       subst h
       refine cN (cM (cO (l := [2]) ⟨rfl, trivial⟩)) ?_
       exact bK ⟨rfl, _, .one _, rfl, rfl⟩
      ·have h := aX c24 h
       refine eL ?_
       refine aC ?_
       refine tr1 rfl (bI (aA rfl) rfl rfl rfl) ?_
       refine tr1 rfl (aE (v := .d (.lit (.int .i64 ((w64 (t23_0_11 + 1)))))) (aA rfl) rfl rfl) ?_
       refine aF ?_
       exact ⟨(w64 (t23_0_11 + 1), (eR x16 (w64 ((cK x16 0 o19_0_11) + 1)) o19_0_11), (mbs x16 o19_0_11 bs12 ck13), (mck x16 o19_0_11 ck13)), h, bD [0, 1] rfl rfl (aT rfl (bC ⟨rfl, rfl, rfl, rfl, trivial⟩))⟩
   ·have h := aX c15 h
    refine dA ?_
    refine .inl ⟨rfl, ?_⟩
    simp only [oP] at h
    refine aG ?_
    refine aC ?_
    refine tr1 rfl (aJ (v := .d (.lit (.bool true))) (aA rfl) rfl rfl) ?_
    refine aF ?_
    have h := Option.some.inj h
    subst h
    refine cN (cM (cO (l := [2]) ⟨rfl, trivial⟩)) ?_
    exact bK ⟨rfl, _, .one _, rfl, rfl⟩

theorem rT (s_0 : List aD) (f_1 : aD → Option Bool) {r : Int} (f_1_f : Nat) (f_1_v : List AV) (f_1_e : ∀ args w, (callFunc f_1_f args).run Try.prog w = .ok (.enter f_1_f args) w) (f_1_h : ∀ (x0 : aD) r, f_1 x0 = some r → Fn Try.prog f_1_f ([.agg (aK x0)] ++ f_1_v) (.d (.lit (.bool r)))) (h : gH s_0 f_1 = some r) : Fn Try.prog 87 [.d (.sl 5 (s_0.map aK)), .fn f_1_f f_1_v] (.d (.lit (.int .i64 r))) := by
 unfold gH at h
 refine Fn.of_tr Try.func87 rfl (rs := [.tmp 4]) Try.results87 Try.ntmps87 (Nat.le_of_ble_eq_true rfl) ?_
 refine aG ?_
 refine aC ?_
 refine tr1 rfl (aJ (v := .d (.lit (.int .i64 0))) (aA rfl) rfl rfl) ?_
 refine aF ?_
 refine aG ?_
 refine aG ?_
 refine aC ?_
 refine tr1 rfl (aE (v := .d (.sl 5 (s_0.map aK))) (aA rfl) rfl rfl) ?_
 refine tr1 rfl (eG (aA rfl) rfl eN.of) ?_
 refine tr1 rfl (aE (v := .d (.lit (.int .i64 0))) (aA rfl) rfl rfl) ?_
 refine aF ?_
 refine cE ?_
 refine dN [0, 1, 7] (fun (s1 : Int) => [(8, .d (.lit (.int .i64 s1)))]) (fun (s1 : Int) => []) (fun (k : Nat) (s1 : Int) => dT s_0 f_1 (s_0.length : Int) k s1) (fun _ => rfl) (0) h (bD [] rfl rfl (aT rfl (bC ⟨rfl, rfl, rfl, trivial⟩))) ?_
 rintro k2 t8_0_1 h
 simp only [dT] at h
 refine aG ?_
 refine aC ?_
 refine tr1 rfl (bF (aA rfl) rfl rfl rfl) ?_
 refine aF ?_
 refine aG ?_
 refine bR rfl (fun c3 => ?_) (fun c3 => ?_)
 ·have h := aY c3 h
  refine bL ?_
  refine aG ?_
  refine cE ?_
  refine aG ?_
  refine aC ?_
  refine tr1 rfl (aE (v := .d (.lit (.int .i64 t8_0_1))) (aA rfl) rfl rfl) ?_
  refine tr1 rfl (aJ (v := .d (.lit (.int .i64 t8_0_1))) (aA rfl) rfl rfl) ?_
  refine aF ?_
  refine aG ?_
  refine aC ?_
  refine tr1 rfl (aE (v := .fn f_1_f f_1_v) (aA rfl) rfl rfl) ?_
  refine tr1 rfl (aE (v := .d (.sl 5 (s_0.map aK))) (aA rfl) rfl rfl) ?_
  refine tr1 rfl (aE (v := .d (.lit (.int .i64 t8_0_1))) (aA rfl) rfl rfl) ?_
  obtain ⟨x4, h5, h⟩ := bind_some h
  refine tr1 rfl (bX (aA rfl) rfl rfl eN.of (cC aK h5)) ?_
  refine tr1 rfl (jV (aA rfl) rfl jH (es := (aK x4)) rfl rfl) ?_
  obtain ⟨r6, h7, h⟩ := bind_some h
  refine tr1 rfl (cP (aA rfl) (.clo _ _ _ _ f_1_e rfl) (aMn rfl) rfl (BVs.refl _ _) (f_1_h _ _  h7) rfl) ?_
  refine aF ?_
  refine bR rfl (fun c8 => ?_) (fun c8 => ?_)
  ·have h := aY c8 h
   refine aG ?_
   refine aC ?_
   refine tr1 rfl (aE (v := .d (.lit (.int .i64 t8_0_1))) (aA rfl) rfl rfl) ?_
   refine tr1 rfl (aJ (v := .d (.lit (.int .i64 t8_0_1))) (aA rfl) rfl rfl) ?_
   refine aF ?_
   have h := Option.some.inj h
   subst h
   exact bK ⟨rfl, _, .one _, rfl, rfl⟩
  ·have h := aX c8 h
   refine eL ?_
   refine aC ?_
   refine tr1 rfl (bI (aA rfl) rfl rfl rfl) ?_
   refine tr1 rfl (aE (v := .d (.lit (.int .i64 ((w64 (t8_0_1 + 1)))))) (aA rfl) rfl rfl) ?_
   refine aF ?_
   exact ⟨(w64 (t8_0_1 + 1)), h, bD [] rfl rfl (aT rfl (bC ⟨rfl, rfl, rfl, trivial⟩))⟩
 ·have h := aX c3 h
  refine dA ?_
  refine .inl ⟨rfl, ?_⟩
  simp only [jR] at h
  refine aG ?_
  refine aC ?_
  refine tr1 rfl (aJ (v := .d (.lit (.int .i64 (-1)))) (aA rfl) rfl rfl) ?_
  refine aF ?_
  have h := Option.some.inj h
  subst h
  exact bK ⟨rfl, _, .one _, rfl, rfl⟩

theorem qE (s_0 : List aD) (f_1 : aD → Option Bool) {r : Bool} (f_1_f : Nat) (f_1_v : List AV) (f_1_e : ∀ args w, (callFunc f_1_f args).run Try.prog w = .ok (.enter f_1_f args) w) (f_1_h : ∀ (x0 : aD) r, f_1 x0 = some r → Fn Try.prog f_1_f ([.agg (aK x0)] ++ f_1_v) (.d (.lit (.bool r)))) (h : fG s_0 f_1 = some r) : Fn Try.prog 68 [.d (.sl 5 (s_0.map aK)), .fn f_1_f f_1_v] (.d (.lit (.bool r))) := by
 unfold fG at h
 refine Fn.of_tr Try.func68 rfl (rs := [.tmp 4]) Try.results68 Try.ntmps68 (Nat.le_of_ble_eq_true rfl) ?_
 refine aG ?_
 refine aC ?_
 refine tr1 rfl (aJ (v := .d (.lit (.bool false))) (aA rfl) rfl rfl) ?_
 refine aF ?_
 refine aG ?_
 refine aC ?_
 refine tr1 rfl (aE (v := .d (.sl 5 (s_0.map aK))) (aA rfl) rfl rfl) ?_
 refine tr1 rfl (aE (v := .fn f_1_f f_1_v) (aA rfl) rfl rfl) ?_
 obtain ⟨r1, h2, h⟩ := bind_some h
 refine tr1 rfl (cP (aA rfl) (.func _ _ Try.call87) rfl rfl (BVs.refl _ _) (rT _ _ f_1_f f_1_v f_1_e f_1_h h2) rfl) ?_
 refine tr1 rfl (bF (aA rfl) rfl rfl rfl) ?_
 refine tr1 rfl (aJ (v := .d (.lit (.bool ((decide (0 ≤ r1)))))) (aA rfl) rfl rfl) ?_
 refine aF ?_
 have h := Option.some.inj h
 subst h
 exact bK ⟨rfl, _, .one _, rfl, rfl⟩

theorem rK (m_0 : aB) (t_1 : aO) {r : Bool} (h : jM m_0 t_1 = some r) : Fn Try.prog 64 [.agg (aH m_0), .agg (aR t_1)] (.d (.lit (.bool r))) := by
 unfold jM at h
 refine Fn.of_tr Try.func64 rfl (rs := [.tmp 4]) Try.results64 Try.ntmps64 (Nat.le_of_ble_eq_true rfl) ?_
 refine aG ?_
 refine aC ?_
 refine bW rfl (fU (v := .agg (aH m_0)) (aA rfl) rfl rfl rfl) ?_
 rintro _ ⟨b1, rfl⟩
 refine bW rfl (fU (v := .agg (aR t_1)) (aA rfl) rfl rfl rfl) ?_
 rintro _ ⟨b2, rfl⟩
 refine tr1 rfl (aJ (v := .d (.lit (.bool false))) (aA rfl) rfl rfl) ?_
 refine aF ?_
 refine aG ?_
 obtain ⟨r3, h4, h⟩ := bind_some h
 obtain ⟨b5, h6, h⟩ := bind_some h
 refine eE mix 19 [] [(23, .d (.lit (.bool b5)))] ?_ ?_
 ·refine bE (r3) (fun c7 => ?_) (fun c7 => ?_)
  ·have h6 := aY c7 h6
   obtain ⟨u8, h9, h6⟩ := bind_some h6
   obtain ⟨r10, h11, h6⟩ := bind_some h6
   have h6 := Option.some.inj h6
   subst h6
   refine ⟨[(5, 0, .bp b1 0 0), (6, 1, .d (.lit (.int .i64 m_0.round))), (7, 2, .bp b2 0 0), (8, 3, .d (.lit (.int .i64 t_1.Rounds))), (9, 4, .d (.lit (.int .i64 ((w64 (t_1.Rounds - 1)))))), (10, 5, .d (.lit (.bool r3))), (11, 6, .d (.lit (.bool r3))), (12, 7, .bp b1 0 1), (13, 8, .d (.lit (.int .i64 m_0.place))), (14, 9, .bp b2 0 1), (15, 10, .d (.sl 1 (t_1.Slots.map aP))), (16, 11, .d (.lit (.int .i64 ((t_1.Slots.length : Int))))), (17, 12, .bp b1 0 0), (18, 13, .d (.lit (.int .i64 m_0.round))), (19, 14, .d (.lit (.int .i64 ((w64 (m_0.round + 1)))))), (20, 15, .d (.lit (.int .i64 (((t_1.Slots.length : Int).fdiv (2 ^ (min (w64 (m_0.round + 1)).toNat 64))))))), (21, 16, .d (.lit (.int .i64 ((w64 (((t_1.Slots.length : Int).fdiv (2 ^ (min (w64 (m_0.round + 1)).toNat 64))) - 1)))))), (22, 17, .d (.lit (.bool r10))), (23, 18, .d (.lit (.bool r10)))], ?_, ?_⟩
   · exact ⟨by kernel_rfl, by kernel_rfl, by kernel_rfl, by kernel_rfl, by kernel_rfl, [([], []), ([0], []), ([], []), ([2], []), ([3], []), ([1, 4], []), ([5], []), ([6], []), ([6, 7], []), ([6], []), ([6, 9], []), ([6, 10], []), ([6], []), ([6, 12], []), ([6, 13], []), ([6, 11, 14], []), ([6, 15], []), ([6, 8, 16], []), ([6, 17], [])], by kernel_rfl, ⟨fun S hS => aL rfl (aU rfl (aS (aA rfl) (aM hS rfl) mW)),
      fun S hS => aL rfl (aU rfl (aV (aA rfl) (aM hS rfl) (i := 0) rfl rfl bG)),
      fun S hS => aL rfl (aU rfl (aS (aA rfl) (aM hS rfl) gS)),
      fun S hS => aL rfl (aU rfl (aV (aA rfl) (aM hS rfl) (i := 1) rfl rfl bG)),
      fun S hS => aL rfl (aU rfl (bI (aA rfl) (aM hS rfl) rfl rfl)),
      fun S hS => aL rfl (aU rfl (cP (aA rfl) (.func _ _ Try.call72) (ev2 (aM hS rfl) (ev2 rfl (ev2 (aM hS rfl) evn))) rfl (BVs.refl _ _) (eJ _ _ _ h4) rfl)),
      fun S hS => aL rfl (aU rfl (aE (v := .d (.lit (.bool r3))) (aA rfl) (aM hS rfl) rfl)),
      fun S hS => aL rfl (bQ rfl rfl (aA rfl) (bB hS rfl) c7 (aS (aA rfl) (aM hS rfl) aDa)),
      fun S hS => aL rfl (bQ rfl rfl (aA rfl) (bB hS rfl) c7 (aV (aA rfl) (aM hS rfl) (i := 0) rfl rfl bG)),
      fun S hS => aL rfl (bQ rfl rfl (aA rfl) (bB hS rfl) c7 (aS (aA rfl) (aM hS rfl) dO)),
      fun S hS => aL rfl (bQ rfl rfl (aA rfl) (bB hS rfl) c7 (aV (aA rfl) (aM hS rfl) (i := 1) rfl rfl dD)),
      fun S hS => aL rfl (bQ rfl rfl (aA rfl) (bB hS rfl) c7 (eG (aA rfl) (aM hS rfl) bY.of)),
      fun S hS => aL rfl (bQ rfl rfl (aA rfl) (bB hS rfl) c7 (aS (aA rfl) (aM hS rfl) mW)),
      fun S hS => aL rfl (bQ rfl rfl (aA rfl) (bB hS rfl) c7 (aV (aA rfl) (aM hS rfl) (i := 0) rfl rfl bG)),
      fun S hS => aL rfl (bQ rfl rfl (aA rfl) (bB hS rfl) c7 (bI (aA rfl) (aM hS rfl) rfl rfl)),
      fun S hS => aL rfl (bQ rfl rfl (aA rfl) (bB hS rfl) c7 (vU (aA rfl) (aM hS rfl) (aM hS rfl) (rA h9))),
      fun S hS => aL rfl (bQ rfl rfl (aA rfl) (bB hS rfl) c7 (bI (aA rfl) (aM hS rfl) rfl rfl)),
      fun S hS => aL rfl (bQ rfl rfl (aA rfl) (bB hS rfl) c7 (cP (aA rfl) (.func _ _ Try.call72) (ev2 (aM hS rfl) (ev2 rfl (ev2 (aM hS rfl) evn))) rfl (BVs.refl _ _) (eJ _ _ _ h11) rfl)),
      fun S hS => aL rfl (aU rfl (bN (v := .d (.lit (.bool r10))) (aA rfl) (aM hS rfl) c7 (aM hS rfl) rfl)), trivial⟩⟩
   · exact dM (aT rfl (bC trivial))
  ·have h6 := aX c7 h6
   have h6 := Option.some.inj h6
   subst h6
   refine ⟨[(5, 0, .bp b1 0 0), (6, 1, .d (.lit (.int .i64 m_0.round))), (7, 2, .bp b2 0 0), (8, 3, .d (.lit (.int .i64 t_1.Rounds))), (9, 4, .d (.lit (.int .i64 ((w64 (t_1.Rounds - 1)))))), (10, 5, .d (.lit (.bool r3))), (11, 6, .d (.lit (.bool r3))), (12, 7, .tup []), (13, 8, .tup []), (14, 9, .tup []), (15, 10, .tup []), (16, 11, .tup []), (17, 12, .tup []), (18, 13, .tup []), (19, 14, .tup []), (20, 15, .tup []), (21, 16, .tup []), (22, 17, .tup []), (23, 18, .d (.lit (.bool false)))], ?_, ?_⟩
   · exact ⟨by kernel_rfl, by kernel_rfl, by kernel_rfl, by kernel_rfl, by kernel_rfl, [([], []), ([0], []), ([], []), ([2], []), ([3], []), ([1, 4], []), ([5], []), ([6], []), ([6, 7], []), ([6], []), ([6, 9], []), ([6, 10], []), ([6], []), ([6, 12], []), ([6, 13], []), ([6, 11, 14], []), ([6, 15], []), ([6, 8, 16], []), ([6, 17], [])], by kernel_rfl, ⟨fun S hS => aL rfl (aU rfl (aS (aA rfl) (aM hS rfl) mW)),
      fun S hS => aL rfl (aU rfl (aV (aA rfl) (aM hS rfl) (i := 0) rfl rfl bG)),
      fun S hS => aL rfl (aU rfl (aS (aA rfl) (aM hS rfl) gS)),
      fun S hS => aL rfl (aU rfl (aV (aA rfl) (aM hS rfl) (i := 1) rfl rfl bG)),
      fun S hS => aL rfl (aU rfl (bI (aA rfl) (aM hS rfl) rfl rfl)),
      fun S hS => aL rfl (aU rfl (cP (aA rfl) (.func _ _ Try.call72) (ev2 (aM hS rfl) (ev2 rfl (ev2 (aM hS rfl) evn))) rfl (BVs.refl _ _) (eJ _ _ _ h4) rfl)),
      fun S hS => aL rfl (aU rfl (aE (v := .d (.lit (.bool r3))) (aA rfl) (aM hS rfl) rfl)),
      fun S hS => aL rfl (bP rfl rfl (aA rfl) rfl (aA rfl) (bB hS rfl) c7),
      fun S hS => aL rfl (bP rfl rfl (aA rfl) rfl (aA rfl) (bB hS rfl) c7),
      fun S hS => aL rfl (bP rfl rfl (aA rfl) rfl (aA rfl) (bB hS rfl) c7),
      fun S hS => aL rfl (bP rfl rfl (aA rfl) rfl (aA rfl) (bB hS rfl) c7),
      fun S hS => aL rfl (bP rfl rfl (aA rfl) rfl (aA rfl) (bB hS rfl) c7),
      fun S hS => aL rfl (bP rfl rfl (aA rfl) rfl (aA rfl) (bB hS rfl) c7),
      fun S hS => aL rfl (bP rfl rfl (aA rfl) rfl (aA rfl) (bB hS rfl) c7),
      fun S hS => aL rfl (bP rfl rfl (aA rfl) rfl (aA rfl) (bB hS rfl) c7),
      fun S hS => aL rfl (bP rfl rfl (aA rfl) rfl (aA rfl) (bB hS rfl) c7),
      fun S hS => aL rfl (bP rfl rfl (aA rfl) rfl (aA rfl) (bB hS rfl) c7),
      fun S hS => aL rfl (bP rfl rfl (aA rfl) rfl (aA rfl) (bB hS rfl) c7),
      fun S hS => aL rfl (aU rfl (bM (v := .d (.lit (.bool false))) (aA rfl) (aM hS rfl) c7 rfl rfl)), trivial⟩⟩
   · exact dM (aT rfl (bC trivial))
 ·refine tr1 rfl (aJ (v := .d (.lit (.bool b5))) (aA rfl) rfl rfl) ?_
  refine aF ?_
  have h := Option.some.inj h
  subst h
  refine cN (cM (cO (l := [4]) ⟨rfl, trivial⟩)) ?_
  exact bK ⟨rfl, _, .one _, rfl, rfl⟩

theorem oJ (s_0 : List Int) (v_1 : Int) {r : Int} (h : fA s_0 v_1 = some r) : Fn Try.prog 73 [.d (.sl 1 (s_0.map aP)), .d (.lit (.int .i64 v_1))] (.d (.lit (.int .i64 r))) := by
 unfold fA at h
 refine Fn.of_tr Try.func73 rfl (rs := [.tmp 4]) Try.results73 Try.ntmps73 (Nat.le_of_ble_eq_true rfl) ?_
 refine aG ?_
 refine aC ?_
 refine tr1 rfl (aJ (v := .d (.lit (.int .i64 0))) (aA rfl) rfl rfl) ?_
 refine aF ?_
 refine aG ?_
 refine aG ?_
 refine aC ?_
 refine tr1 rfl (aE (v := .d (.sl 1 (s_0.map aP))) (aA rfl) rfl rfl) ?_
 refine tr1 rfl (eG (aA rfl) rfl bY.of) ?_
 refine tr1 rfl (aE (v := .d (.lit (.int .i64 0))) (aA rfl) rfl rfl) ?_
 refine aF ?_
 refine cE ?_
 refine dN [0, 1, 7] (fun (s1 : Int) => [(8, .d (.lit (.int .i64 s1)))]) (fun (s1 : Int) => []) (fun (k : Nat) (s1 : Int) => gF s_0 v_1 (s_0.length : Int) k s1) (fun _ => rfl) (0) h (bD [] rfl rfl (aT rfl (bC ⟨rfl, rfl, rfl, trivial⟩))) ?_
 rintro k2 t8_0_1 h
 simp only [gF] at h
 refine aG ?_
 refine aC ?_
 refine tr1 rfl (bF (aA rfl) rfl rfl rfl) ?_
 refine aF ?_
 refine aG ?_
 refine bR rfl (fun c3 => ?_) (fun c3 => ?_)
 ·have h := aY c3 h
  refine bL ?_
  refine aG ?_
  refine cE ?_
  refine aG ?_
  refine aC ?_
  refine tr1 rfl (aE (v := .d (.lit (.int .i64 t8_0_1))) (aA rfl) rfl rfl) ?_
  refine tr1 rfl (aJ (v := .d (.lit (.int .i64 t8_0_1))) (aA rfl) rfl rfl) ?_
  refine aF ?_
  refine aG ?_
  refine aC ?_
  refine tr1 rfl (aE (v := .d (.lit (.int .i64 v_1))) (aA rfl) rfl rfl) ?_
  refine tr1 rfl (aE (v := .d (.sl 1 (s_0.map aP))) (aA rfl) rfl rfl) ?_
  refine tr1 rfl (aE (v := .d (.lit (.int .i64 t8_0_1))) (aA rfl) rfl rfl) ?_
  obtain ⟨x4, h5, h⟩ := bind_some h
  refine tr1 rfl (bX (aA rfl) rfl rfl bY.of (cC aP h5)) ?_
  refine tr1 rfl (bU (aA rfl) rfl bG) ?_
  refine tr1 rfl (bF (aA rfl) rfl rfl rfl) ?_
  refine aF ?_
  refine bR rfl (fun c6 => ?_) (fun c6 => ?_)
  ·have h := aY c6 h
   refine aG ?_
   refine aC ?_
   refine tr1 rfl (aE (v := .d (.lit (.int .i64 t8_0_1))) (aA rfl) rfl rfl) ?_
   refine tr1 rfl (aJ (v := .d (.lit (.int .i64 t8_0_1))) (aA rfl) rfl rfl) ?_
   refine aF ?_
   have h := Option.some.inj h
   subst h
   exact bK ⟨rfl, _, .one _, rfl, rfl⟩
  ·have h := aX c6 h
   refine eL ?_
   refine aC ?_
   refine tr1 rfl (bI (aA rfl) rfl rfl rfl) ?_
   refine tr1 rfl (aE (v := .d (.lit (.int .i64 ((w64 (t8_0_1 + 1)))))) (aA rfl) rfl rfl) ?_
   refine aF ?_
   exact ⟨(w64 (t8_0_1 + 1)), h, bD [] rfl rfl (aT rfl (bC ⟨rfl, rfl, rfl, trivial⟩))⟩
 ·have h := aX c3 h
  refine dA ?_
  refine .inl ⟨rfl, ?_⟩
  simp only [nO] at h
  refine aG ?_
  refine aC ?_
  refine tr1 rfl (aJ (v := .d (.lit (.int .i64 (-1)))) (aA rfl) rfl rfl) ?_
  refine aF ?_
  have h := Option.some.inj h
  subst h
  exact bK ⟨rfl, _, .one _, rfl, rfl⟩

theorem pO (s_0 : List Int) (v_1 : Int) {r : Bool} (h : gE s_0 v_1 = some r) : Fn Try.prog 88 [.d (.sl 1 (s_0.map aP)), .d (.lit (.int .i64 v_1))] (.d (.lit (.bool r))) := by
 unfold gE at h
 refine Fn.of_tr Try.func88 rfl (rs := [.tmp 4]) Try.results88 Try.ntmps88 (Nat.le_of_ble_eq_true rfl) ?_
 refine aG ?_
 refine aC ?_
 refine tr1 rfl (aJ (v := .d (.lit (.bool false))) (aA rfl) rfl rfl) ?_
 refine aF ?_
 refine aG ?_
 refine aC ?_
 refine tr1 rfl (aE (v := .d (.sl 1 (s_0.map aP))) (aA rfl) rfl rfl) ?_
 refine tr1 rfl (aE (v := .d (.lit (.int .i64 v_1))) (aA rfl) rfl rfl) ?_
 obtain ⟨r1, h2, h⟩ := bind_some h
 refine tr1 rfl (cP (aA rfl) (.func _ _ Try.call73) rfl rfl (BVs.refl _ _) (oJ _ _ h2) rfl) ?_
 refine tr1 rfl (bF (aA rfl) rfl rfl rfl) ?_
 refine tr1 rfl (aJ (v := .d (.lit (.bool ((decide (0 ≤ r1)))))) (aA rfl) rfl rfl) ?_
 refine aF ?_
 have h := Option.some.inj h
 subst h
 exact bK ⟨rfl, _, .one _, rfl, rfl⟩

theorem yO (t_0 : aO) (s_1 : aD) {r : Bool} (h : mB t_0 s_1 = some r) : Fn Try.prog 70 [.agg (aR t_0), .agg (aK s_1)] (.d (.lit (.bool r))) := by
 unfold mB at h
 refine Fn.of_tr Try.func70 rfl (rs := [.tmp 4]) Try.results70 Try.ntmps70 (Nat.le_of_ble_eq_true rfl) ?_
 refine aG ?_
 refine aC ?_
 refine bW rfl (fU (v := .agg (aR t_0)) (aA rfl) rfl rfl rfl) ?_
 rintro _ ⟨b1, rfl⟩
 refine bW rfl (fU (v := .agg (aK s_1)) (aA rfl) rfl rfl rfl) ?_
 rintro _ ⟨b2, rfl⟩
 refine tr1 rfl (aJ (v := .d (.lit (.bool false))) (aA rfl) rfl rfl) ?_
 refine aF ?_
 refine aG ?_
 refine aG ?_
 refine aC ?_
 refine tr1 rfl (aS (aA rfl) rfl lD) ?_
 refine tr1 rfl (aV (aA rfl) rfl (i := 1) rfl rfl bG) ?_
 obtain ⟨r3, h4, h⟩ := bind_some h
 refine tr1 rfl (cP (aA rfl) (.func _ _ Try.call72) rfl rfl (BVs.refl _ _) (eJ _ _ _ h4) rfl) ?_
 refine tr1 rfl (gL (aA rfl) rfl) ?_
 refine aF ?_
 refine bR rfl (fun c5 => ?_) (fun c5 => ?_)
 ·have h := aY c5 h
  refine aG ?_
  refine aC ?_
  refine tr1 rfl (aJ (v := .d (.lit (.bool false))) (aA rfl) rfl rfl) ?_
  refine aF ?_
  have h := Option.some.inj h
  subst h
  refine cN (cM (cO (l := [4]) ⟨rfl, trivial⟩)) ?_
  exact bK ⟨rfl, _, .one _, rfl, rfl⟩
 ·have h := aX c5 h
  refine bL ?_
  refine aG ?_
  refine aG ?_
  refine aC ?_
  refine tr1 rfl (aS (aA rfl) rfl lU) ?_
  refine tr1 rfl (aV (aA rfl) rfl (i := 1) rfl rfl bG) ?_
  refine tr1 rfl (bF (aA rfl) rfl rfl rfl) ?_
  refine aF ?_
  refine bR rfl (fun c6 => ?_) (fun c6 => ?_)
  ·have h := aY c6 h
   refine aG ?_
   refine aC ?_
   refine tr1 rfl (aS (aA rfl) rfl kL) ?_
   refine tr1 rfl (aV (aA rfl) rfl (i := 1) rfl rfl bG) ?_
   refine tr1 rfl (bF (aA rfl) rfl rfl rfl) ?_
   refine tr1 rfl (aE (v := .d (.lit (.bool ((decide (s_1.Round = 0)))))) (aA rfl) rfl rfl) ?_
   obtain ⟨b7, h8, h⟩ := bind_some h
   refine cA 8 [3] 24 b7 ?_ ?_
   ·refine bE (decide (s_1.Round = 0)) (fun c14 => ?_) (fun c14 => ?_)
    ·have h8 := aY c14 h8
     refine aI rfl rfl (aA rfl) rfl c14 (aS (aA rfl) rfl gY) ?_
     refine aI rfl rfl (aA rfl) rfl c14 (aV (aA rfl) rfl (i := 1) rfl rfl bG) ?_
     refine aI rfl rfl (aA rfl) rfl c14 (aS (aA rfl) rfl dO) ?_
     refine aI rfl rfl (aA rfl) rfl c14 (aV (aA rfl) rfl (i := 0) rfl rfl dD) ?_
     refine aI rfl rfl (aA rfl) rfl c14 (eG (aA rfl) rfl bY.of) ?_
     refine aI rfl rfl (aA rfl) rfl c14 (bI (aA rfl) rfl rfl rfl) ?_
     obtain ⟨r15, h16, h8⟩ := bind_some h8
     refine aI rfl rfl (aA rfl) rfl c14 (cP (aA rfl) (.func _ _ Try.call72) rfl rfl (BVs.refl _ _) (eJ _ _ _ h16) rfl) ?_
     refine tr1 rfl (bN (v := .d (.lit (.bool r15))) (aA rfl) rfl c14 rfl rfl) ?_
     have h8 := Option.some.inj h8
     subst h8
     refine aF (bA rfl ⟨rfl, trivial⟩ rfl)
    ·have h8 := aX c14 h8
     refine aN rfl rfl (aA rfl) rfl (aA rfl) rfl c14 ?_
     refine aN rfl rfl (aA rfl) rfl (aA rfl) rfl c14 ?_
     refine aN rfl rfl (aA rfl) rfl (aA rfl) rfl c14 ?_
     refine aN rfl rfl (aA rfl) rfl (aA rfl) rfl c14 ?_
     refine aN rfl rfl (aA rfl) rfl (aA rfl) rfl c14 ?_
     refine aN rfl rfl (aA rfl) rfl (aA rfl) rfl c14 ?_
     refine aN rfl rfl (aA rfl) rfl (aA rfl) rfl c14 ?_
     refine tr1 rfl (bM (v := .d (.lit (.bool false))) (aA rfl) rfl c14 rfl rfl) ?_
     have h8 := Option.some.inj h8
     subst h8
     refine aF (bA rfl ⟨rfl, trivial⟩ rfl)
   ·refine tr1 rfl (aE (v := .d (.lit (.bool b7))) (aA rfl) rfl rfl) ?_
    obtain ⟨b9, h10, h⟩ := bind_some h
    refine cA 4 [] 29 b9 ?_ ?_
    ·refine bE (b7) (fun c11 => ?_) (fun c11 => ?_)
     ·have h10 := aY c11 h10
      refine aI rfl rfl (aA rfl) rfl c11 (aS (aA rfl) rfl qT) ?_
      refine aI rfl rfl (aA rfl) rfl c11 (aV (aA rfl) rfl (i := 1) rfl rfl bG) ?_
      obtain ⟨r12, h13, h10⟩ := bind_some h10
      refine aI rfl rfl (aA rfl) rfl c11 (cP (aA rfl) (.func _ _ Try.call72) rfl rfl (BVs.refl _ _) (eJ _ _ _ h13) rfl) ?_
      refine tr1 rfl (bN (v := .d (.lit (.bool r12))) (aA rfl) rfl c11 rfl rfl) ?_
      have h10 := Option.some.inj h10
      subst h10
      refine aF (bA rfl trivial rfl)
     ·have h10 := aX c11 h10
      refine aN rfl rfl (aA rfl) rfl (aA rfl) rfl c11 ?_
      refine aN rfl rfl (aA rfl) rfl (aA rfl) rfl c11 ?_
      refine aN rfl rfl (aA rfl) rfl (aA rfl) rfl c11 ?_
      refine tr1 rfl (bM (v := .d (.lit (.bool false))) (aA rfl) rfl c11 rfl rfl) ?_
      have h10 := Option.some.inj h10
      subst h10
      refine aF (bA rfl trivial rfl)
    ·refine tr1 rfl (aJ (v := .d (.lit (.bool b9))) (aA rfl) rfl rfl) ?_
     refine aF ?_
     have h := Option.some.inj h
     subst h
     refine cN (cM (cO (l := [4]) ⟨rfl, trivial⟩)) ?_
     exact bK ⟨rfl, _, .one _, rfl, rfl⟩
  ·have h := aX c6 h
   refine bL ?_
   refine aG ?_
   refine aC ?_
   refine tr1 rfl (aS (aA rfl) rfl kL) ?_
   refine tr1 rfl (aV (aA rfl) rfl (i := 1) rfl rfl bG) ?_
   refine tr1 rfl (aS (aA rfl) rfl gY) ?_
   refine tr1 rfl (aV (aA rfl) rfl (i := 1) rfl rfl bG) ?_
   refine tr1 rfl (eT (aA rfl) uT (zs := [.lit (.int .i64 0), .lit (.int .i64 0)]) rfl rfl rfl rfl (es := [.lit (.int .i64 s_1.Round), .lit (.int .i64 s_1.Place)]) rfl) ?_
   refine bW rfl (eC (zs := [.lit (.int .i64 0), .lit (.int .i64 0)]) (aA rfl) Try.zeroValue70 rfl rfl) ?_
   rintro _ ⟨b17, rfl⟩
   refine tr1 rfl (cH (i := 2) rfl rfl rfl rfl rfl Try.sizeOf70 rfl (aA rfl) (Nat.le_of_ble_eq_true rfl) (ds' := (aH (aB.mk s_1.Round s_1.Place))) rfl) ?_
   refine aF ?_
   refine aG ?_
   refine aG ?_
   refine aC ?_
   refine tr1 rfl (aS (aA rfl) rfl lU) ?_
   refine tr1 rfl (aV (aA rfl) rfl (i := 1) rfl rfl bG) ?_
   obtain ⟨r18, h19, h⟩ := bind_some h
   refine tr1 rfl (cP (aA rfl) (.func _ _ Try.call72) rfl rfl (BVs.refl _ _) (eJ _ _ _ h19) rfl) ?_
   refine tr1 rfl (gL (aA rfl) rfl) ?_
   refine tr1 rfl (aE (v := .d (.lit (.bool (!r18)))) (aA rfl) rfl rfl) ?_
   obtain ⟨b20, h21, h⟩ := bind_some h
   refine cA 4 [2, 3, 5] 43 b20 ?_ ?_
   ·refine bE (!r18) (fun c35 => ?_) (fun c35 => ?_)
    ·have h21 := aY c35 h21
     refine aN rfl rfl (aA rfl) rfl (aA rfl) rfl c35 ?_
     refine aN rfl rfl (aA rfl) rfl (aA rfl) rfl c35 ?_
     refine aN rfl rfl (aA rfl) rfl (aA rfl) rfl c35 ?_
     refine tr1 rfl (bN (v := .d (.lit (.bool true))) (aA rfl) rfl c35 rfl rfl) ?_
     have h21 := Option.some.inj h21
     subst h21
     refine aF (bA rfl ⟨rfl, rfl, rfl, trivial⟩ rfl)
    ·have h21 := aX c35 h21
     refine aI rfl rfl (aA rfl) rfl c35 (aS (aA rfl) rfl qT) ?_
     refine aI rfl rfl (aA rfl) rfl c35 (aV (aA rfl) rfl (i := 1) rfl rfl bG) ?_
     refine aI rfl rfl (aA rfl) rfl c35 (bF (aA rfl) rfl rfl rfl) ?_
     refine tr1 rfl (bM (v := .d (.lit (.bool ((!decide (s_1.Old = 0)))))) (aA rfl) rfl c35 rfl rfl) ?_
     have h21 := Option.some.inj h21
     subst h21
     refine aF (bA rfl ⟨rfl, rfl, rfl, trivial⟩ rfl)
   ·refine tr1 rfl (aE (v := .d (.lit (.bool b20))) (aA rfl) rfl rfl) ?_
    obtain ⟨b22, h23, h⟩ := bind_some h
    refine cA 5 [2, 3] 49 b22 ?_ ?_
    ·refine bE (b20) (fun c32 => ?_) (fun c32 => ?_)
     ·have h23 := aY c32 h23
      refine aN rfl rfl (aA rfl) rfl (aA rfl) rfl c32 ?_
      refine aN rfl rfl (aA rfl) rfl (aA rfl) rfl c32 ?_
      refine aN rfl rfl (aA rfl) rfl (aA rfl) rfl c32 ?_
      refine aN rfl rfl (aA rfl) rfl (aA rfl) rfl c32 ?_
      refine tr1 rfl (bN (v := .d (.lit (.bool true))) (aA rfl) rfl c32 rfl rfl) ?_
      have h23 := Option.some.inj h23
      subst h23
      refine aF (bA rfl ⟨rfl, rfl, trivial⟩ rfl)
     ·have h23 := aX c32 h23
      refine aI rfl rfl (aA rfl) rfl c32 (bO (aA rfl) rfl (i := 2) rfl jI (es := (aH (aB.mk s_1.Round s_1.Place))) rfl rfl) ?_
      refine aI rfl rfl (aA rfl) rfl c32 (bO (aA rfl) rfl (i := 0) rfl dY (es := (aR t_0)) rfl rfl) ?_
      obtain ⟨r33, h34, h23⟩ := bind_some h23
      refine aI rfl rfl (aA rfl) rfl c32 (cP (aA rfl) (.func _ _ Try.call64) rfl rfl (BVs.refl _ _) (rK _ _ h34) rfl) ?_
      refine aI rfl rfl (aA rfl) rfl c32 (gL (aA rfl) rfl) ?_
      refine tr1 rfl (bM (v := .d (.lit (.bool (!r33)))) (aA rfl) rfl c32 rfl rfl) ?_
      have h23 := Option.some.inj h23
      subst h23
      refine aF (bA rfl ⟨rfl, rfl, trivial⟩ rfl)
    ·refine aF ?_
     refine bR rfl (fun c24 => ?_) (fun c24 => ?_)
     ·have h := aY c24 h
      refine aG ?_
      refine aC ?_
      refine tr1 rfl (aJ (v := .d (.lit (.bool false))) (aA rfl) rfl rfl) ?_
      refine aF ?_
      have h := Option.some.inj h
      subst h
      refine cN (cM (cO (l := [4]) ⟨rfl, trivial⟩)) ?_
      exact bK ⟨rfl, _, .one _, rfl, rfl⟩
     ·have h := aX c24 h
      refine bL ?_
      refine aG ?_
      refine aC ?_
      refine tr1 rfl (aS (aA rfl) rfl kL) ?_
      refine tr1 rfl (aV (aA rfl) rfl (i := 1) rfl rfl bG) ?_
      refine tr1 rfl (bF (aA rfl) rfl rfl rfl) ?_
      refine tr1 rfl (aE (v := .d (.lit (.bool ((decide (0 < s_1.Round)))))) (aA rfl) rfl rfl) ?_
      obtain ⟨b25, h26, h⟩ := bind_some h
      refine cA 13 [] 66 b25 ?_ ?_
      ·refine bE (decide (0 < s_1.Round)) (fun c27 => ?_) (fun c27 => ?_)
       ·have h26 := aY c27 h26
        refine aN rfl rfl (aA rfl) rfl (aA rfl) rfl c27 ?_
        refine aN rfl rfl (aA rfl) rfl (aA rfl) rfl c27 ?_
        refine aN rfl rfl (aA rfl) rfl (aA rfl) rfl c27 ?_
        refine aN rfl rfl (aA rfl) rfl (aA rfl) rfl c27 ?_
        refine aN rfl rfl (aA rfl) rfl (aA rfl) rfl c27 ?_
        refine aN rfl rfl (aA rfl) rfl (aA rfl) rfl c27 ?_
        refine aN rfl rfl (aA rfl) rfl (aA rfl) rfl c27 ?_
        refine aN rfl rfl (aA rfl) rfl (aA rfl) rfl c27 ?_
        refine aN rfl rfl (aA rfl) rfl (aA rfl) rfl c27 ?_
        refine aN rfl rfl (aA rfl) rfl (aA rfl) rfl c27 ?_
        refine aN rfl rfl (aA rfl) rfl (aA rfl) rfl c27 ?_
        refine aN rfl rfl (aA rfl) rfl (aA rfl) rfl c27 ?_
        refine tr1 rfl (bN (v := .d (.lit (.bool true))) (aA rfl) rfl c27 rfl rfl) ?_
        have h26 := Option.some.inj h26
        subst h26
        refine aF (bA rfl trivial rfl)
       ·have h26 := aX c27 h26
        refine aI rfl rfl (aA rfl) rfl c27 (aS (aA rfl) rfl dO) ?_
        refine aI rfl rfl (aA rfl) rfl c27 (aV (aA rfl) rfl (i := 0) rfl rfl dD) ?_
        refine aI rfl rfl (aA rfl) rfl c27 (aS (aA rfl) rfl gY) ?_
        refine aI rfl rfl (aA rfl) rfl c27 (aV (aA rfl) rfl (i := 1) rfl rfl bG) ?_
        refine aI rfl rfl (aA rfl) rfl c27 (bI (aA rfl) rfl rfl rfl) ?_
        refine aI rfl rfl (aA rfl) rfl c27 (aS (aA rfl) rfl gY) ?_
        refine aI rfl rfl (aA rfl) rfl c27 (aV (aA rfl) rfl (i := 1) rfl rfl bG) ?_
        refine aI rfl rfl (aA rfl) rfl c27 (bI (aA rfl) rfl rfl rfl) ?_
        refine aI rfl rfl (aA rfl) rfl c27 (bI (aA rfl) rfl rfl rfl) ?_
        obtain ⟨x28, h29, h26⟩ := bind_some h26
        refine aI rfl rfl (aA rfl) rfl c27 (aGr (aA rfl) bY.of rfl rfl rfl (aLf aP h29)) ?_
        obtain ⟨r30, h31, h26⟩ := bind_some h26
        refine aI rfl rfl (aA rfl) rfl c27 (cP (aA rfl) (.func _ _ Try.call88) rfl rfl (BVs.refl _ _) (pO _ _ h31) rfl) ?_
        refine aI rfl rfl (aA rfl) rfl c27 (gL (aA rfl) rfl) ?_
        refine tr1 rfl (bM (v := .d (.lit (.bool (!r30)))) (aA rfl) rfl c27 rfl rfl) ?_
        have h26 := Option.some.inj h26
        subst h26
        refine aF (bA rfl trivial rfl)
      ·refine tr1 rfl (aJ (v := .d (.lit (.bool b25))) (aA rfl) rfl rfl) ?_
       refine aF ?_
       have h := Option.some.inj h
       subst h
       refine cN (cM (cO (l := [4]) ⟨rfl, trivial⟩)) ?_
       exact bK ⟨rfl, _, .one _, rfl, rfl⟩

theorem yQ (s_0 : aD) (c_1 : aO) {r : Bool} (h : kX s_0 c_1 = some r) : Fn Try.prog 69 [.agg (aK s_0), .cp (aR c_1)] (.d (.lit (.bool r))) := by
 unfold kX at h
 refine Fn.of_tr Try.func69 rfl (rs := [.tmp 3]) Try.results69 Try.ntmps69 (Nat.le_of_ble_eq_true rfl) ?_
 refine aG ?_
 refine aC ?_
 refine bW rfl (fU (v := .agg (aK s_0)) (aA rfl) rfl rfl rfl) ?_
 rintro _ ⟨b1, rfl⟩
 refine tr1 rfl (aJ (v := .d (.lit (.bool false))) (aA rfl) rfl rfl) ?_
 refine aF ?_
 refine aG ?_
 refine aC ?_
 refine tr1 rfl (jV (aA rfl) rfl dY (es := (aR c_1)) rfl rfl) ?_
 refine tr1 rfl (bO (aA rfl) rfl (i := 0) rfl jH (es := (aK s_0)) rfl rfl) ?_
 obtain ⟨r2, h3, h⟩ := bind_some h
 refine tr1 rfl (cP (aA rfl) (.func _ _ Try.call70) rfl rfl (BVs.refl _ _) (yO _ _ h3) rfl) ?_
 refine tr1 rfl (gL (aA rfl) rfl) ?_
 refine tr1 rfl (aJ (v := .d (.lit (.bool (!r2)))) (aA rfl) rfl rfl) ?_
 refine aF ?_
 have h := Option.some.inj h
 subst h
 refine cN (cM (cO (l := [3]) ⟨rfl, trivial⟩)) ?_
 exact bK ⟨rfl, _, .one _, rfl, rfl⟩

theorem qN (s_0 : List Int) {r : (List Int)} (h : jQ s_0 = some r) : eS Try.prog 89 [.d (.sl 1 (s_0.map aP))] [] (fun r' o' => ∃ (w0 : Value), r' = .d (.lit w0) ∧ o' = [.arr w0 3 1 (r.map aP)]) := by
 unfold jQ at h
 refine fO Try.func89 rfl (rs := [.tmp 2]) Try.results89 Try.ntmps89 (Nat.le_of_ble_eq_true rfl) ?_
 refine aG ?_
 refine aC ?_
 refine tr1 rfl (kD 3 1 (.inl rfl) (aA rfl)) ?_
 refine aF ?_
 refine aG ?_
 refine aG ?_
 refine aC ?_
 refine tr1 rfl (aE (v := .d (.sl 1 (s_0.map aP))) (aA rfl) rfl rfl) ?_
 refine bW rfl (aGl (aA rfl) rfl rfl Try.underlying22) ?_
 rintro _ ⟨b2, h3, rfl⟩
 refine aF ?_
 refine bR rfl (fun c4 => ?_) (fun c4 => ?_)
 ·obtain rfl := aGg (h3 c4)
  simp [app] at h
  subst h
  refine aG ?_
  refine aC ?_
  refine tr1 rfl (kD 3 1 (.inl rfl) (aA rfl)) ?_
  refine aF ?_
  refine cN (bD [1, 0] rfl rfl (le_refl _)) ?_
  exact bK ⟨rfl, _, [.arr (.slice none 0 0) 3 1 (([] : List Int).map aP)], [.arr (.slice none 0 0) 3 1 (([] : List Int).map aP)], _, .one (.tmp 2 (v := .d (.lit (.slice none 0 0))) rfl), .refl _, .same _, (.slice none 0 0), rfl, rfl⟩
 ·refine bL ?_
  refine aG ?_
  refine aC ?_
  refine bW rfl (xG (aA rfl) bY rfl rfl (rows := (([] : List Int)).map aP) rfl (dI (f := aP) fun _ => rfl) rfl (by decide)) ?_
  rintro _ ⟨v5, rfl⟩
  refine tr1 rfl (aE (v := .d (.sl 1 (s_0.map aP))) (aA rfl) rfl rfl) ?_
  obtain ⟨x6, h7, h⟩ := bind_some h
  refine bW rfl (fN (i := 1) (aA rfl) bY rfl rfl rfl (fun _ => rfl) h7 rfl) ?_
  rintro _ ⟨v8, rfl⟩
  refine tr1 rfl (aJ (v := .d (.lit v8)) (aA rfl) rfl rfl) ?_
  refine aF ?_
  have h := Option.some.inj h
  subst h
  refine cN (bD [1, 0] rfl rfl (le_refl _)) ?_
  exact bK ⟨rfl, _, [.arr v8 3 1 (x6.map aP)], [.arr (.slice none 0 0) 3 1 (([] : List Int).map aP)], _, .one (.tmp 2 (v := .d (.lit v8)) rfl), .refl _, .same _, v8, rfl, rfl⟩

theorem qH (d_0_Tree : aO) (d_0_players : List Int) (lucky_1 : List (aD × Int)) (slot_2 : Int) {Q : (aD × Bool) → Prop} {d_0_b d_0_o : Nat} {d_0_players_v : Value} {d_0_won_r : Nat} {lucky_1_r : Nat} {lucky_1_bs : List Nat} {lucky_1_ck : Nat} (h : fW d_0_Tree d_0_players lucky_1 slot_2 Q) : eS Try.prog 98 [.bp d_0_b d_0_o 0, .d (.lit (.map (some lucky_1_r))), .d (.lit (.int .i64 slot_2))] [.box d_0_b d_0_o [.lit (.int .i64 d_0_Tree.Rounds), .sl 1 (d_0_Tree.Slots.map aP), .lit d_0_players_v, .lit (.map (some d_0_won_r))], .arr d_0_players_v 3 1 (d_0_players.map aP), .map lucky_1_r (lucky_1.map fun p : aD × Int => ((fun a : aD => Value.agg ((aK a).map bH).toArray) p.1, (fun v : Int => AV.d (.lit (.int .i64 v))) p.2)) lucky_1_bs lucky_1_ck] (fun r' o' => ∃ (r : aD × Bool), Q r ∧ r' = .tup [.agg (aK r.1), .d (.lit (.bool r.2))] ∧ o' = [.box d_0_b d_0_o [.lit (.int .i64 d_0_Tree.Rounds), .sl 1 (d_0_Tree.Slots.map aP), .lit d_0_players_v, .lit (.map (some d_0_won_r))], .arr d_0_players_v 3 1 (d_0_players.map aP), .map lucky_1_r (lucky_1.map fun p : aD × Int => ((fun a : aD => Value.agg ((aK a).map bH).toArray) p.1, (fun v : Int => AV.d (.lit (.int .i64 v))) p.2)) lucky_1_bs lucky_1_ck]) := by
 unfold fW at h
 refine fO Try.func98 rfl (rs := [.cell 6 32, .tmp 7]) Try.results98 Try.ntmps98 (Nat.le_of_ble_eq_true rfl) ?_
 refine aG ?_
 refine aC ?_
 refine bW rfl (eC (zs := [.lit (.int .i64 0), .lit (.int .i64 0), .lit (.int .i64 0), .lit (.int .i64 0), .lit (.int .i64 0)]) (aA rfl) Try.zeroValue32 rfl rfl) ?_
 rintro _ ⟨b1, rfl⟩
 refine tr1 rfl (aJ (v := .d (.lit (.bool false))) (aA rfl) rfl rfl) ?_
 refine aF ?_
 refine aG ?_
 refine aG ?_
 refine aC ?_
 refine tr1 rfl (aE (v := .d (.lit (.map (some lucky_1_r)))) (aA rfl) rfl rfl) ?_
 refine bW rfl (aFh (m := 2) (aA rfl) Try.underlying123 rfl rfl) ?_
 rintro _ ⟨q2, h4, rfl⟩
 have h := wZ h h4
 refine aF ?_
 refine cE ?_
 refine oK [0, 2, 6, 10] (fun (s5 : aD × (List Nat)) => []) (fun (s5 : aD × (List Nat)) => [.arr d_0_players_v 3 1 (d_0_players.map aP), .box d_0_b d_0_o [.lit (.int .i64 d_0_Tree.Rounds), .sl 1 (d_0_Tree.Slots.map aP), .lit d_0_players_v, .lit (.map (some d_0_won_r))], .map lucky_1_r (lucky_1.map fun p : aD × Int => ((fun a : aD => Value.agg ((aK a).map bH).toArray) p.1, (fun v : Int => AV.d (.lit (.int .i64 v))) p.2)) lucky_1_bs lucky_1_ck, .box b1 0 (aK s5.1), .iter q2 lucky_1_r lucky_1_ck s5.2 lucky_1_ck]) (fun (k : Nat) (s5 : aD × (List Nat)) => fR Q slot_2 d_0_players d_0_Tree lucky_1 k s5.1 (kK lucky_1 lucky_1_bs s5.2)) (fun _ h => h) ((aD.mk 0 0 0 0 0), []) h (bD [1, 0, 2, 3, 4] rfl rfl (bC ⟨rfl, rfl, rfl, rfl, trivial⟩)) ?_
 rintro k7 ⟨o6_0_5, seen6⟩ h
 simp only [fR] at h
 refine aG ?_
 refine aC ?_
 refine bW rfl (aIe (kv := (fun a : aD => Value.agg ((aK a).map bH).toArray)) (av := (fun v : Int => AV.d (.lit (.int .i64 v)))) (l := lucky_1) (mi := 4) (mm := 2) (aA rfl) rfl rfl rfl) ?_
 rintro _ (⟨h12, rfl⟩ | ⟨j9, b10, p8, h11, rfl⟩)
 ·have h := h.1 h12
  refine tr1 rfl (bS (aA rfl) rfl rfl) ?_
  refine aF ?_
  refine aG ?_
  refine bR rfl (fun c13 => ?_) (fun c13 => ?_)
  ·exact absurd c13 (by decide)
  ·refine dA ?_
   refine .inl ⟨rfl, ?_⟩
   simp only [kQ] at h
   refine aG ?_
   refine aC ?_
   refine tr1 rfl (eT (aA rfl) xM (zs := [.lit (.int .i64 0), .lit (.int .i64 0), .lit (.int .i64 0), .lit (.int .i64 0), .lit (.int .i64 0)]) rfl rfl rfl rfl (es := [.lit (.int .i64 0), .lit (.int .i64 0), .lit (.int .i64 0), .lit (.int .i64 0), .lit (.int .i64 0)]) rfl) ?_
   refine tr1 rfl (cH (i := 3) rfl rfl rfl rfl rfl Try.sizeOf32 rfl (aA rfl) (Nat.le_of_ble_eq_true rfl) (ds' := (aK (aD.mk 0 0 0 0 0))) rfl) ?_
   refine tr1 rfl (aJ (v := .d (.lit (.bool false))) (aA rfl) rfl rfl) ?_
   refine aF ?_
   refine cN (bD [1, 0, 2, 3, 4] rfl rfl (le_refl _)) ?_
   exact bK ⟨rfl, _, [.box d_0_b d_0_o [.lit (.int .i64 d_0_Tree.Rounds), .sl 1 (d_0_Tree.Slots.map aP), .lit d_0_players_v, .lit (.map (some d_0_won_r))], .arr d_0_players_v 3 1 (d_0_players.map aP), .map lucky_1_r (lucky_1.map fun p : aD × Int => ((fun a : aD => Value.agg ((aK a).map bH).toArray) p.1, (fun v : Int => AV.d (.lit (.int .i64 v))) p.2)) lucky_1_bs lucky_1_ck], [.box b1 0 (aK (aD.mk 0 0 0 0 0)), .iter q2 lucky_1_r lucky_1_ck seen6 lucky_1_ck], _, .two (.cell 6 32 rfl (i := 3) rfl jH (es := (aK (aD.mk 0 0 0 0 0))) rfl rfl) (.tmp 7 (v := .d (.lit (.bool false))) rfl), .refl _, .same _, ((aD.mk 0 0 0 0 0), false), h, rfl, rfl⟩
 ·have h := yH h h11
  refine tr1 rfl (bS (aA rfl) rfl rfl) ?_
  refine aF ?_
  refine aG ?_
  refine bR rfl (fun c21 => ?_) (fun c21 => ?_)
  ·refine bL ?_
   refine cE ?_
   refine aG ?_
   refine aC ?_
   refine tr1 rfl (aFg (kv := (fun a : aD => Value.agg ((aK a).map bH).toArray)) (av := (fun v : Int => AV.d (.lit (.int .i64 v)))) (l := lucky_1) (mi := 4) (mm := 2) (ka := .agg (aK p8.1)) (aA rfl) rfl rfl rfl h11 (fun _ _ => .agg (wV rfl))) ?_
   refine tr1 rfl (bS (aA rfl) rfl rfl) ?_
   refine bW rfl (eC (zs := [.lit (.int .i64 0), .lit (.int .i64 0), .lit (.int .i64 0), .lit (.int .i64 0), .lit (.int .i64 0)]) (aA rfl) Try.zeroValue32 rfl rfl) ?_
   rintro _ ⟨b14, rfl⟩
   refine tr1 rfl (cH (i := 5) rfl rfl rfl rfl rfl Try.sizeOf32 rfl (aA rfl) (Nat.le_of_ble_eq_true rfl) (ds' := (aK p8.1)) rfl) ?_
   refine aF ?_
   refine aG ?_
   obtain ⟨b15, h16, h⟩ := dE h
   refine eE mix 16 [0, 2, 6, 8, 10] [(30, .d (.lit (.bool b15)))] ?_ ?_
   ·refine bE (decide (p8.1.Place = slot_2)) (fun c17 => ?_) (fun c17 => ?_)
    ·have h16 := aY c17 h16
     obtain ⟨x18, h19, h16⟩ := bind_some h16
     have h16 := Option.some.inj h16
     subst h16
     refine ⟨[(15, 0, .bp b14 0 2), (16, 1, .d (.lit (.int .i64 p8.1.Place))), (17, 2, .d (.lit (.int .i64 slot_2))), (18, 3, .d (.lit (.bool ((decide (p8.1.Place = slot_2)))))), (19, 4, .d (.lit (.bool ((decide (p8.1.Place = slot_2)))))), (20, 5, .bp b14 0 4), (21, 6, .d (.lit (.int .i64 p8.1.Old))), (22, 7, .bp d_0_b d_0_o 0), (23, 8, .bp d_0_b d_0_o 0), (24, 9, .bp d_0_b d_0_o 2), (25, 10, .d (.lit d_0_players_v)), (26, 11, .d (.lit (.int .i64 slot_2))), (27, 12, .ep d_0_players_v 1 slot_2.toNat 0), (28, 13, .d (.lit (.int .i64 x18))), (29, 14, .d (.lit (.bool ((decide (p8.1.Old = x18)))))), (30, 15, .d (.lit (.bool ((decide (p8.1.Old = x18))))))], ?_, ?_⟩
     · exact ⟨by kernel_rfl, by kernel_rfl, by kernel_rfl, by kernel_rfl, by kernel_rfl, [([], []), ([0], []), ([], []), ([1, 2], []), ([3], []), ([4], []), ([4, 5], []), ([4], []), ([4, 7], []), ([4, 8], []), ([4, 9], []), ([4], []), ([4, 10, 11], []), ([4, 12], []), ([4, 6, 13], []), ([4, 14], [])], by kernel_rfl, ⟨fun S hS => aL rfl (aU rfl (aS (aA rfl) (aM hS rfl) gY)),
      fun S hS => aL rfl (aU rfl (aV (aA rfl) (aM hS rfl) (i := 5) rfl rfl bG)),
      fun S hS => aL rfl (aU rfl (aE (v := .d (.lit (.int .i64 slot_2))) (aA rfl) (aM hS rfl) rfl)),
      fun S hS => aL rfl (aU rfl (bF (aA rfl) (aM hS rfl) (aM hS rfl) rfl)),
      fun S hS => aL rfl (aU rfl (aE (v := .d (.lit (.bool ((decide (p8.1.Place = slot_2)))))) (aA rfl) (aM hS rfl) rfl)),
      fun S hS => aL rfl (bQ rfl rfl (aA rfl) (bB hS rfl) c17 (aS (aA rfl) (aM hS rfl) qT)),
      fun S hS => aL rfl (bQ rfl rfl (aA rfl) (bB hS rfl) c17 (aV (aA rfl) (aM hS rfl) (i := 5) rfl rfl bG)),
      fun S hS => aL rfl (bQ rfl rfl (aA rfl) (bB hS rfl) c17 (aE (v := .bp d_0_b d_0_o 0) (aA rfl) (aM hS rfl) rfl)),
      fun S hS => aL rfl (bQ rfl rfl (aA rfl) (bB hS rfl) c17 (jW (aA rfl) (aM hS rfl))),
      fun S hS => aL rfl (bQ rfl rfl (aA rfl) (bB hS rfl) c17 (aS (aA rfl) (aM hS rfl) kM)),
      fun S hS => aL rfl (bQ rfl rfl (aA rfl) (bB hS rfl) c17 (aV (aA rfl) (aM hS rfl) (i := 1) rfl rfl dD)),
      fun S hS => aL rfl (bQ rfl rfl (aA rfl) (bB hS rfl) c17 (aE (v := .d (.lit (.int .i64 slot_2))) (aA rfl) (aM hS rfl) rfl)),
      fun S hS => aL rfl (bQ rfl rfl (aA rfl) (bB hS rfl) c17 (fJ (m := 0) (aA rfl) (aM hS rfl) rfl (aM hS rfl) bY.of (cC aP h19))),
      fun S hS => aL rfl (bQ rfl rfl (aA rfl) (bB hS rfl) c17 (jC (aA rfl) (aM hS rfl) (m := 0) rfl (nE aP h19) rfl bG)),
      fun S hS => aL rfl (bQ rfl rfl (aA rfl) (bB hS rfl) c17 (bF (aA rfl) (aM hS rfl) (aM hS rfl) rfl)),
      fun S hS => aL rfl (aU rfl (bN (v := .d (.lit (.bool ((decide (p8.1.Old = x18)))))) (aA rfl) (aM hS rfl) c17 (aM hS rfl) rfl)), trivial⟩⟩
     · exact dM (aT rfl (bC ⟨rfl, rfl, rfl, rfl, rfl, trivial⟩))
    ·have h16 := aX c17 h16
     have h16 := Option.some.inj h16
     subst h16
     refine ⟨[(15, 0, .bp b14 0 2), (16, 1, .d (.lit (.int .i64 p8.1.Place))), (17, 2, .d (.lit (.int .i64 slot_2))), (18, 3, .d (.lit (.bool ((decide (p8.1.Place = slot_2)))))), (19, 4, .d (.lit (.bool ((decide (p8.1.Place = slot_2)))))), (20, 5, .tup []), (21, 6, .tup []), (22, 7, .tup []), (23, 8, .tup []), (24, 9, .tup []), (25, 10, .tup []), (26, 11, .tup []), (27, 12, .tup []), (28, 13, .tup []), (29, 14, .tup []), (30, 15, .d (.lit (.bool false)))], ?_, ?_⟩
     · exact ⟨by kernel_rfl, by kernel_rfl, by kernel_rfl, by kernel_rfl, by kernel_rfl, [([], []), ([0], []), ([], []), ([1, 2], []), ([3], []), ([4], []), ([4, 5], []), ([4], []), ([4, 7], []), ([4, 8], []), ([4, 9], []), ([4], []), ([4, 10, 11], []), ([4, 12], []), ([4, 6, 13], []), ([4, 14], [])], by kernel_rfl, ⟨fun S hS => aL rfl (aU rfl (aS (aA rfl) (aM hS rfl) gY)),
      fun S hS => aL rfl (aU rfl (aV (aA rfl) (aM hS rfl) (i := 5) rfl rfl bG)),
      fun S hS => aL rfl (aU rfl (aE (v := .d (.lit (.int .i64 slot_2))) (aA rfl) (aM hS rfl) rfl)),
      fun S hS => aL rfl (aU rfl (bF (aA rfl) (aM hS rfl) (aM hS rfl) rfl)),
      fun S hS => aL rfl (aU rfl (aE (v := .d (.lit (.bool ((decide (p8.1.Place = slot_2)))))) (aA rfl) (aM hS rfl) rfl)),
      fun S hS => aL rfl (bP rfl rfl (aA rfl) rfl (aA rfl) (bB hS rfl) c17),
      fun S hS => aL rfl (bP rfl rfl (aA rfl) rfl (aA rfl) (bB hS rfl) c17),
      fun S hS => aL rfl (bP rfl rfl (aA rfl) rfl (aA rfl) (bB hS rfl) c17),
      fun S hS => aL rfl (bP rfl rfl (aA rfl) rfl (aA rfl) (bB hS rfl) c17),
      fun S hS => aL rfl (bP rfl rfl (aA rfl) rfl (aA rfl) (bB hS rfl) c17),
      fun S hS => aL rfl (bP rfl rfl (aA rfl) rfl (aA rfl) (bB hS rfl) c17),
      fun S hS => aL rfl (bP rfl rfl (aA rfl) rfl (aA rfl) (bB hS rfl) c17),
      fun S hS => aL rfl (bP rfl rfl (aA rfl) rfl (aA rfl) (bB hS rfl) c17),
      fun S hS => aL rfl (bP rfl rfl (aA rfl) rfl (aA rfl) (bB hS rfl) c17),
      fun S hS => aL rfl (bP rfl rfl (aA rfl) rfl (aA rfl) (bB hS rfl) c17),
      fun S hS => aL rfl (aU rfl (bM (v := .d (.lit (.bool false))) (aA rfl) (aM hS rfl) c17 rfl rfl)), trivial⟩⟩
     · exact dM (aT rfl (bC ⟨rfl, rfl, rfl, rfl, rfl, trivial⟩))
   ·refine aF ?_
    refine bR rfl (fun c20 => ?_) (fun c20 => ?_)
    ·have h := eP c20 h
     refine aG ?_
     refine aC ?_
     refine tr1 rfl (bO (aA rfl) rfl (i := 5) rfl jH (es := (aK p8.1)) rfl rfl) ?_
     refine tr1 rfl (cH (i := 3) rfl rfl rfl rfl rfl Try.sizeOf32 rfl (aA rfl) (Nat.le_of_ble_eq_true rfl) (ds' := (aK p8.1)) rfl) ?_
     refine tr1 rfl (aJ (v := .d (.lit (.bool true))) (aA rfl) rfl rfl) ?_
     refine aF ?_
     refine cN (bD [1, 0, 2, 3, 4, 5] rfl rfl (le_refl _)) ?_
     exact bK ⟨rfl, _, [.box d_0_b d_0_o [.lit (.int .i64 d_0_Tree.Rounds), .sl 1 (d_0_Tree.Slots.map aP), .lit d_0_players_v, .lit (.map (some d_0_won_r))], .arr d_0_players_v 3 1 (d_0_players.map aP), .map lucky_1_r (lucky_1.map fun p : aD × Int => ((fun a : aD => Value.agg ((aK a).map bH).toArray) p.1, (fun v : Int => AV.d (.lit (.int .i64 v))) p.2)) lucky_1_bs lucky_1_ck], [.box b1 0 (aK p8.1), .iter q2 lucky_1_r lucky_1_ck (seen6 ++ [b10]) lucky_1_ck, .box b14 0 (aK p8.1)], _, .two (.cell 6 32 rfl (i := 3) rfl jH (es := (aK p8.1)) rfl rfl) (.tmp 7 (v := .d (.lit (.bool true))) rfl), .refl _, .same _, (p8.1, true), h, rfl, rfl⟩
    ·have h := eO c20 h
     refine eL ?_
     exact ⟨(o6_0_5, (seen6 ++ [b10])), h, bD [0, 1, 2, 3, 4] rfl rfl (bC ⟨rfl, rfl, rfl, rfl, trivial⟩)⟩
  ·exact absurd c21 (by decide)

theorem uA (d_0_Tree : aO) (d_0_players : List Int) (lucky_1 : List (aD × Int)) {Q : (Bool × (List Int) × (List (aD × Int))) → Prop} {d_0_b d_0_o : Nat} {d_0_players_v : Value} {d_0_won_r : Nat} {lucky_1_r : Nat} {lucky_1_bs : List Nat} {lucky_1_ck : Nat} (h : iT d_0_Tree d_0_players lucky_1 Q) : eS Try.prog 90 [.bp d_0_b d_0_o 0, .d (.lit (.map (some lucky_1_r)))] [.box d_0_b d_0_o [.lit (.int .i64 d_0_Tree.Rounds), .sl 1 (d_0_Tree.Slots.map aP), .lit d_0_players_v, .lit (.map (some d_0_won_r))], .arr d_0_players_v 3 1 (d_0_players.map aP), .map lucky_1_r (lucky_1.map fun p : aD × Int => ((fun a : aD => Value.agg ((aK a).map bH).toArray) p.1, (fun v : Int => AV.d (.lit (.int .i64 v))) p.2)) lucky_1_bs lucky_1_ck] (fun r' o' => ∃ (r : Bool × (List Int) × (List (aD × Int))) (bs3 : List Nat) (ck3 : Nat), Q r ∧ r' = .d (.lit (.bool r.1)) ∧ o' = [.box d_0_b d_0_o [.lit (.int .i64 d_0_Tree.Rounds), .sl 1 (d_0_Tree.Slots.map aP), .lit d_0_players_v, .lit (.map (some d_0_won_r))], .arr d_0_players_v 3 1 (r.2.1.map aP), .map lucky_1_r (r.2.2.map fun p : aD × Int => ((fun a : aD => Value.agg ((aK a).map bH).toArray) p.1, (fun v : Int => AV.d (.lit (.int .i64 v))) p.2)) bs3 ck3]) := by
 unfold iT at h
 refine fO Try.func90 rfl (rs := [.tmp 4]) Try.results90 Try.ntmps90 (Nat.le_of_ble_eq_true rfl) ?_
 refine aG ?_
 refine aC ?_
 refine tr1 rfl (aJ (v := .d (.lit (.bool false))) (aA rfl) rfl rfl) ?_
 refine aF ?_
 refine aG ?_
 refine aC ?_
 refine tr1 rfl (aE (v := .bp d_0_b d_0_o 0) (aA rfl) rfl rfl) ?_
 refine tr1 rfl (jW (aA rfl) rfl) ?_
 refine tr1 rfl (aS (aA rfl) rfl oE) ?_
 refine tr1 rfl (aS (aA rfl) rfl dO) ?_
 refine tr1 rfl (aV (aA rfl) rfl (i := 0) rfl rfl dD) ?_
 obtain ⟨r1, h2, h⟩ := dE h
 refine bW rfl (aAo (aA rfl) (.func _ _ Try.call89) rfl rfl (qN _ h2)) ?_
 rintro _ ⟨v3, rfl⟩
 refine tr1 rfl (aJ (v := .d (.lit v3)) (aA rfl) rfl rfl) ?_
 refine aF ?_
 refine aG ?_
 refine aG ?_
 refine aC ?_
 refine tr1 rfl (aE (v := .bp d_0_b d_0_o 0) (aA rfl) rfl rfl) ?_
 refine tr1 rfl (jW (aA rfl) rfl) ?_
 refine tr1 rfl (aS (aA rfl) rfl kM) ?_
 refine tr1 rfl (aV (aA rfl) rfl (i := 0) rfl rfl dD) ?_
 refine tr1 rfl (mX (m := 1) (aA rfl) rfl rfl bY.of) ?_
 refine tr1 rfl (aE (v := .d (.lit (.int .i64 0))) (aA rfl) rfl rfl) ?_
 refine aF ?_
 refine cE ?_
 refine oK [0, 1, 19] (fun (s4 : Int × (List Int) × (List (aD × Int)) × (List Int) × (List Nat) × Nat × Value) => [(5, .d (.lit s4.2.2.2.2.2.2)), (20, .d (.lit (.int .i64 s4.1)))]) (fun (s4 : Int × (List Int) × (List (aD × Int)) × (List Int) × (List Nat) × Nat × Value) => [.arr d_0_players_v 3 1 (s4.2.1.map aP), .box d_0_b d_0_o [.lit (.int .i64 d_0_Tree.Rounds), .sl 1 (d_0_Tree.Slots.map aP), .lit d_0_players_v, .lit (.map (some d_0_won_r))], .map lucky_1_r (s4.2.2.1.map fun p : aD × Int => ((fun a : aD => Value.agg ((aK a).map bH).toArray) p.1, (fun v : Int => AV.d (.lit (.int .i64 v))) p.2)) s4.2.2.2.2.1 s4.2.2.2.2.2.1, .arr s4.2.2.2.2.2.2 3 1 (s4.2.2.2.1.map aP)]) (fun (k : Nat) (s4 : Int × (List Int) × (List (aD × Int)) × (List Int) × (List Nat) × Nat × Value) => cQ Q (d_0_players.length : Int) d_0_Tree k s4.1 s4.2.1 s4.2.2.1 s4.2.2.2.1) (fun _ h => h) (0, d_0_players, lucky_1, r1, lucky_1_bs, lucky_1_ck, v3) h (bD [1, 0, 2, 3] rfl rfl (aT rfl (aT rfl (bC ⟨rfl, rfl, rfl, trivial⟩)))) ?_
 rintro k8 ⟨t20_0_4, d_0_4, lucky_0_4, o14_0_4, bs5, ck6, w7⟩ h
 simp only [cQ] at h
 refine aG ?_
 refine aC ?_
 refine tr1 rfl (bF (aA rfl) rfl rfl rfl) ?_
 refine aF ?_
 refine aG ?_
 refine bR rfl (fun c9 => ?_) (fun c9 => ?_)
 ·have h := eP c9 h
  refine bL ?_
  refine aG ?_
  refine cE ?_
  refine aG ?_
  refine aC ?_
  refine tr1 rfl (aE (v := .d (.lit (.int .i64 t20_0_4))) (aA rfl) rfl rfl) ?_
  refine tr1 rfl (aJ (v := .d (.lit (.int .i64 t20_0_4))) (aA rfl) rfl rfl) ?_
  refine aF ?_
  refine aG ?_
  refine aC ?_
  refine tr1 rfl (aE (v := .bp d_0_b d_0_o 0) (aA rfl) rfl rfl) ?_
  refine tr1 rfl (aE (v := .d (.lit (.map (some lucky_1_r)))) (aA rfl) rfl rfl) ?_
  refine tr1 rfl (aE (v := .d (.lit (.int .i64 t20_0_4))) (aA rfl) rfl rfl) ?_
  refine jS (bD [1, 0, 2, 3] rfl rfl (le_refl _)) ?_
  refine bW rfl (qZ (passed := [.box d_0_b d_0_o [.lit (.int .i64 d_0_Tree.Rounds), .sl 1 (d_0_Tree.Slots.map aP), .lit d_0_players_v, .lit (.map (some d_0_won_r))], .arr d_0_players_v 3 1 (d_0_4.map aP), .map lucky_1_r (lucky_0_4.map fun p : aD × Int => ((fun a : aD => Value.agg ((aK a).map bH).toArray) p.1, (fun v : Int => AV.d (.lit (.int .i64 v))) p.2)) bs5 ck6]) (aA rfl) rfl (.func _ _ Try.call98) rfl rfl (qH d_0_Tree d_0_4 lucky_0_4 t20_0_4 h)) ?_
  rintro _ ⟨_, _, ⟨r10, h, rfl, rfl⟩, rfl⟩
  refine tr1 rfl (aE (v := .tup [.agg (aK r10.1), .d (.lit (.bool r10.2))]) (aA rfl) rfl rfl) ?_
  refine tr1 rfl (bS (aA rfl) rfl rfl) ?_
  refine tr1 rfl (bS (aA rfl) rfl rfl) ?_
  refine bW rfl (eC (zs := [.lit (.int .i64 0), .lit (.int .i64 0), .lit (.int .i64 0), .lit (.int .i64 0), .lit (.int .i64 0)]) (aA rfl) Try.zeroValue32 rfl rfl) ?_
  rintro _ ⟨b11, rfl⟩
  refine tr1 rfl (cH (i := 4) rfl rfl rfl rfl rfl Try.sizeOf32 rfl (aA rfl) (Nat.le_of_ble_eq_true rfl) (ds' := (aK r10.1)) rfl) ?_
  refine tr1 rfl (aJ (v := .d (.lit (.bool r10.2))) (aA rfl) rfl rfl) ?_
  refine aF ?_
  refine xX ?_
  refine oK [0, 1, 6, 19, 20] (fun (s12 : Bool × (List Int) × (List (aD × Int)) × aD × (List Int) × (List Nat) × Nat × Nat × Value) => [(5, .d (.lit s12.2.2.2.2.2.2.2.2)), (7, .bp s12.2.2.2.2.2.2.2.1 0 0), (8, .d (.lit (.bool s12.1)))]) (fun (s12 : Bool × (List Int) × (List (aD × Int)) × aD × (List Int) × (List Nat) × Nat × Nat × Value) => [.arr d_0_players_v 3 1 (s12.2.1.map aP), .box d_0_b d_0_o [.lit (.int .i64 d_0_Tree.Rounds), .sl 1 (d_0_Tree.Slots.map aP), .lit d_0_players_v, .lit (.map (some d_0_won_r))], .map lucky_1_r (s12.2.2.1.map fun p : aD × Int => ((fun a : aD => Value.agg ((aK a).map bH).toArray) p.1, (fun v : Int => AV.d (.lit (.int .i64 v))) p.2)) s12.2.2.2.2.2.1 s12.2.2.2.2.2.2.1, .box s12.2.2.2.2.2.2.2.1 0 (aK s12.2.2.2.1), .arr s12.2.2.2.2.2.2.2.2 3 1 (s12.2.2.2.2.1.map aP)]) (fun (k : Nat) (s12 : Bool × (List Int) × (List (aD × Int)) × aD × (List Int) × (List Nat) × Nat × Nat × Value) => dJ Q (cQ Q (d_0_players.length : Int) d_0_Tree k8) t20_0_4 (d_0_players.length : Int) t20_0_4 d_0_Tree k s12.1 s12.2.1 s12.2.2.1 s12.2.2.2.1 s12.2.2.2.2.1) (fun _ h => h) (r10.2, d_0_4, lucky_0_4, r10.1, o14_0_4, bs5, ck6, b11, w7) h (bD [1, 0, 2, 4, 3] rfl rfl (aT rfl (aT rfl (aT rfl (bC ⟨rfl, rfl, rfl, rfl, rfl, trivial⟩))))) ?_
  rintro k17 ⟨isv_2_12, d_2_12, lucky_2_12, s_2_12, o14_2_12, bs13, ck14, b15, w16⟩ h
  simp only [dJ] at h
  refine aG ?_
  refine aG ?_
  refine aC ?_
  refine tr1 rfl (aE (v := .d (.lit (.bool isv_2_12))) (aA rfl) rfl rfl) ?_
  refine aF ?_
  refine bR rfl (fun c18 => ?_) (fun c18 => ?_)
  ·have h := eP c18 h
   refine bL ?_
   refine aG ?_
   refine cE ?_
   refine aG ?_
   refine aG ?_
   refine aC ?_
   refine tr1 rfl (aE (v := .d (.lit w16)) (aA rfl) rfl rfl) ?_
   refine tr1 rfl (aS (aA rfl) rfl lD) ?_
   refine tr1 rfl (aV (aA rfl) rfl (i := 3) rfl rfl bG) ?_
   obtain ⟨r19, h20, h⟩ := dE h
   refine tr1 rfl (cP (aA rfl) (.func _ _ Try.call88) rfl rfl (.cons (.d (lC 4 rfl (dI (f := aP) fun _ => rfl))) (.cons (.same _) .nil)) (pO _ _ h20) rfl) ?_
   refine aF ?_
   refine bR rfl (fun c21 => ?_) (fun c21 => ?_)
   ·have h := eP c21 h
    refine aG ?_
    refine aC ?_
    refine tr1 rfl (aJ (v := .d (.lit (.bool false))) (aA rfl) rfl rfl) ?_
    refine aF ?_
    refine cN (bD [1, 0, 2, 3, 4] rfl rfl (le_refl _)) ?_
    exact bK ⟨rfl, _, [.box d_0_b d_0_o [.lit (.int .i64 d_0_Tree.Rounds), .sl 1 (d_0_Tree.Slots.map aP), .lit d_0_players_v, .lit (.map (some d_0_won_r))], .arr d_0_players_v 3 1 (d_2_12.map aP), .map lucky_1_r (lucky_2_12.map fun p : aD × Int => ((fun a : aD => Value.agg ((aK a).map bH).toArray) p.1, (fun v : Int => AV.d (.lit (.int .i64 v))) p.2)) bs13 ck14], [.box b15 0 (aK s_2_12), .arr w16 3 1 (o14_2_12.map aP)], _, .one (.tmp 4 (v := .d (.lit (.bool false))) rfl), .refl _, .same _, (false, d_2_12, lucky_2_12), bs13, ck14, h, rfl, rfl⟩
   ·have h := eO c21 h
    refine bL ?_
    refine aG ?_
    refine eE mix 7 [0, 1, 5, 6, 7, 19, 20] [(45, .d (.lit d_0_players_v)), (46, .d (.lit (.int .i64 t20_0_4))), (48, .d (.lit (.int .i64 s_2_12.Player)))] ?_ ?_
    ·refine ⟨[(42, 0, .bp d_0_b d_0_o 0), (43, 1, .bp d_0_b d_0_o 0), (44, 2, .bp d_0_b d_0_o 2), (45, 3, .d (.lit d_0_players_v)), (46, 4, .d (.lit (.int .i64 t20_0_4))), (47, 5, .bp b15 0 3), (48, 6, .d (.lit (.int .i64 s_2_12.Player)))], ?_, ?_⟩
     · exact ⟨by kernel_rfl, by kernel_rfl, by kernel_rfl, by kernel_rfl, by kernel_rfl, [([], []), ([0], []), ([1], []), ([2], []), ([], []), ([], []), ([5], [])], by kernel_rfl, ⟨fun S hS => aL rfl (aU rfl (aE (v := .bp d_0_b d_0_o 0) (aA rfl) (aM hS rfl) rfl)),
      fun S hS => aL rfl (aU rfl (jW (aA rfl) (aM hS rfl))),
      fun S hS => aL rfl (aU rfl (aS (aA rfl) (aM hS rfl) kM)),
      fun S hS => aL rfl (aU rfl (aV (aA rfl) (aM hS rfl) (i := 1) rfl rfl dD)),
      fun S hS => aL rfl (aU rfl (aE (v := .d (.lit (.int .i64 t20_0_4))) (aA rfl) (aM hS rfl) rfl)),
      fun S hS => aL rfl (aU rfl (aS (aA rfl) (aM hS rfl) lD)),
      fun S hS => aL rfl (aU rfl (aV (aA rfl) (aM hS rfl) (i := 3) rfl rfl bG)), trivial⟩⟩
     · exact dM (aT rfl (aT rfl (aT rfl (bC ⟨rfl, rfl, rfl, rfl, rfl, rfl, rfl, trivial⟩))))
    ·obtain ⟨x22, h23, h⟩ := dE h
     refine tr1 rfl (fJ (m := 0) (aA rfl) rfl rfl rfl bY.of (cC aP h23)) ?_
     refine tr1 rfl (aAq (l := 0) rfl rfl (nE aP h23) rfl rfl rfl Try.sizeOf3 rfl (aA rfl) (Nat.le_of_ble_eq_true rfl) (rows' := ((d_2_12.set t20_0_4.toNat s_2_12.Player)).map aP) (aLd _ _ _ _ rfl)) ?_
     refine aF ?_
     refine aG ?_
     refine aC ?_
     refine tr1 rfl (aE (v := .d (.lit w16)) (aA rfl) rfl rfl) ?_
     refine tr1 rfl (aS (aA rfl) rfl lD) ?_
     refine tr1 rfl (aV (aA rfl) rfl (i := 3) rfl rfl bG) ?_
     refine tr1 rfl (gD (aA rfl) bY rfl rfl (rows := ([s_2_12.Player]).map aP) rfl (dI (f := aP) fun _ => rfl) rfl (by decide)) ?_
     obtain ⟨x24, h25, h⟩ := dE h
     refine bW rfl (fN (i := 4) (aA rfl) bY rfl rfl rfl (fun _ => rfl) h25 rfl) ?_
     rintro _ ⟨v26, rfl⟩
     refine tr1 rfl (aJ (v := .d (.lit v26)) (aA rfl) rfl rfl) ?_
     refine aF ?_
     refine aC ?_
     refine tr1 rfl (aE (v := .d (.lit (.map (some lucky_1_r)))) (aA rfl) rfl rfl) ?_
     refine tr1 rfl (bO (aA rfl) rfl (i := 3) rfl jH (es := (aK s_2_12)) rfl rfl) ?_
     refine tr1 rfl (aJs (av := (fun v : Int => AV.d (.lit (.int .i64 v)))) (l := lucky_2_12) (a := s_2_12) (m := 2) aDe Try.underlying123 rfl rfl rfl rfl (kS (enc := aK) s_2_12 rfl)) ?_
     refine fH ?_
     refine aG ?_
     refine aG ?_
     refine aC ?_
     refine tr1 rfl (bO (aA rfl) rfl (i := 3) rfl jH (es := (aK s_2_12)) rfl rfl) ?_
     refine aF ?_
     refine aC ?_
     refine bW rfl (eC (zs := [.lit (.int .i64 0), .lit (.int .i64 0), .lit (.int .i64 0), .lit (.int .i64 0), .lit (.int .i64 0)]) (aA rfl) Try.zeroValue32 rfl rfl) ?_
     rintro _ ⟨b27, rfl⟩
     refine tr1 rfl (cH (i := 5) rfl rfl rfl rfl rfl Try.sizeOf32 rfl (aA rfl) (Nat.le_of_ble_eq_true rfl) (ds' := (aK s_2_12)) rfl) ?_
     refine aF ?_
     refine aC ?_
     refine tr1 rfl (aE (v := .bp d_0_b d_0_o 0) (aA rfl) rfl rfl) ?_
     refine tr1 rfl (aE (v := .d (.lit (.map (some lucky_1_r)))) (aA rfl) rfl rfl) ?_
     refine tr1 rfl (aE (v := .d (.lit (.int .i64 t20_0_4))) (aA rfl) rfl rfl) ?_
     refine jS (bD [1, 0, 2, 3, 4, 5] rfl rfl (le_refl _)) ?_
     refine bW rfl (qZ (passed := [.box d_0_b d_0_o [.lit (.int .i64 d_0_Tree.Rounds), .sl 1 (d_0_Tree.Slots.map aP), .lit d_0_players_v, .lit (.map (some d_0_won_r))], .arr d_0_players_v 3 1 ((d_2_12.set t20_0_4.toNat s_2_12.Player).map aP), .map lucky_1_r ((lW s_2_12 lucky_2_12).map fun p : aD × Int => ((fun a : aD => Value.agg ((aK a).map bH).toArray) p.1, (fun v : Int => AV.d (.lit (.int .i64 v))) p.2)) (uE s_2_12 lucky_2_12 bs13) ck14]) (aA rfl) rfl (.func _ _ Try.call98) rfl rfl (qH d_0_Tree (d_2_12.set t20_0_4.toNat s_2_12.Player) (lW s_2_12 lucky_2_12) t20_0_4 h)) ?_
     rintro _ ⟨_, _, ⟨r28, h, rfl, rfl⟩, rfl⟩
     refine tr1 rfl (aE (v := .tup [.agg (aK r28.1), .d (.lit (.bool r28.2))]) (aA rfl) rfl rfl) ?_
     refine tr1 rfl (bS (aA rfl) rfl rfl) ?_
     refine tr1 rfl (bS (aA rfl) rfl rfl) ?_
     refine tr1 rfl (cH (i := 5) rfl rfl rfl rfl rfl Try.sizeOf32 rfl (aA rfl) (Nat.le_of_ble_eq_true rfl) (ds' := (aK r28.1)) rfl) ?_
     refine tr1 rfl (aJ (v := .d (.lit (.bool r28.2))) (aA rfl) rfl rfl) ?_
     refine aF ?_
     exact ⟨(r28.2, (d_2_12.set t20_0_4.toNat s_2_12.Player), (lW s_2_12 lucky_2_12), r28.1, x24, (uE s_2_12 lucky_2_12 bs13), ck14, b27, v26), h, bD [1, 0, 2, 5, 4] rfl rfl (aT rfl (aT rfl (aT rfl (bC ⟨rfl, rfl, rfl, rfl, rfl, trivial⟩))))⟩
  ·have h := eO c18 h
   refine dA ?_
   refine .inl ⟨rfl, ?_⟩
   simp only [jF] at h
   simp only [jE] at h
   refine aC ?_
   refine tr1 rfl (bI (aA rfl) rfl rfl rfl) ?_
   refine tr1 rfl (aE (v := .d (.lit (.int .i64 ((w64 (t20_0_4 + 1)))))) (aA rfl) rfl rfl) ?_
   refine aF ?_
   exact ⟨(w64 (t20_0_4 + 1), d_2_12, lucky_2_12, o14_2_12, bs13, ck14, w16), h, bD [0, 1, 2, 4] rfl rfl (aT rfl (aT rfl (bC ⟨rfl, rfl, rfl, trivial⟩)))⟩
 ·have h := eO c9 h
  refine dA ?_
  refine .inl ⟨rfl, ?_⟩
  simp only [jD] at h
  refine aG ?_
  refine aC ?_
  refine tr1 rfl (aE (v := .d (.lit (.map (some lucky_1_r)))) (aA rfl) rfl rfl) ?_
  refine tr1 rfl (aJu (m := 2) (aA rfl) Try.underlying123 rfl rfl) ?_
  refine tr1 rfl (bF (aA rfl) rfl rfl rfl) ?_
  refine tr1 rfl (aJ (v := .d (.lit (.bool ((decide ((lucky_0_4.length : Int) = 0)))))) (aA rfl) rfl rfl) ?_
  refine aF ?_
  refine cN (bD [1, 0, 2, 3] rfl rfl (le_refl _)) ?_
  exact bK ⟨rfl, _, [.box d_0_b d_0_o [.lit (.int .i64 d_0_Tree.Rounds), .sl 1 (d_0_Tree.Slots.map aP), .lit d_0_players_v, .lit (.map (some d_0_won_r))], .arr d_0_players_v 3 1 (d_0_4.map aP), .map lucky_1_r (lucky_0_4.map fun p : aD × Int => ((fun a : aD => Value.agg ((aK a).map bH).toArray) p.1, (fun v : Int => AV.d (.lit (.int .i64 v))) p.2)) bs5 ck6], [.arr w7 3 1 (o14_0_4.map aP)], _, .one (.tmp 4 (v := .d (.lit (.bool ((decide ((lucky_0_4.length : Int) = 0)))))) rfl), .refl _, .same _, (decide ((lucky_0_4.length : Int) = 0), d_0_4, lucky_0_4), bs5, ck6, h, rfl, rfl⟩

theorem lA (round_0 : Int) (slot_1 : Int) {r : aB} (h : jT round_0 slot_1 = some r) : Fn Try.prog 45 [.d (.lit (.int .i64 round_0)), .d (.lit (.int .i64 slot_1))] (.agg (aH r)) := by
 unfold jT at h
 refine rV Try.func45 rfl (rs := [.cell 4 70]) Try.results45 Try.ntmps45 (Nat.le_of_ble_eq_true rfl) ?_
 refine aG ?_
 refine aC ?_
 refine bW rfl (eC (zs := [.lit (.int .i64 0), .lit (.int .i64 0)]) (aA rfl) Try.zeroValue70 rfl rfl) ?_
 rintro _ ⟨b1, rfl⟩
 refine aF ?_
 refine aG ?_
 refine aC ?_
 refine tr1 rfl (aE (v := .d (.lit (.int .i64 round_0))) (aA rfl) rfl rfl) ?_
 refine tr1 rfl (aE (v := .d (.lit (.int .i64 slot_1))) (aA rfl) rfl rfl) ?_
 refine tr1 rfl (aE (v := .d (.lit (.int .i64 round_0))) (aA rfl) rfl rfl) ?_
 refine tr1 rfl (bI (aA rfl) rfl rfl rfl) ?_
 obtain ⟨u2, h3, h⟩ := bind_some h
 refine tr1 rfl (vU (aA rfl) rfl rfl (rA h3)) ?_
 refine tr1 rfl (eT (aA rfl) uT (zs := [.lit (.int .i64 0), .lit (.int .i64 0)]) rfl rfl rfl rfl (es := [.lit (.int .i64 round_0), .lit (.int .i64 ((slot_1.fdiv (2 ^ (min (w64 (round_0 + 1)).toNat 64)))))]) rfl) ?_
 refine tr1 rfl (cH (i := 0) rfl rfl rfl rfl rfl Try.sizeOf70 rfl (aA rfl) (Nat.le_of_ble_eq_true rfl) (ds' := (aH (aB.mk round_0 (slot_1.fdiv (2 ^ (min (w64 (round_0 + 1)).toNat 64)))))) rfl) ?_
 refine aF ?_
 have h := Option.some.inj h
 subst h
 exact bK ⟨rfl, _, [.box b1 0 (aH (aB.mk round_0 (slot_1.fdiv (2 ^ (min (w64 (round_0 + 1)).toNat 64)))))], .one (.cell 4 70 rfl (i := 0) rfl jI (es := (aH (aB.mk round_0 (slot_1.fdiv (2 ^ (min (w64 (round_0 + 1)).toNat 64)))))) rfl rfl), .refl _, .same _⟩

theorem qJ (d_0_Tree : aO) (d_0_players : List Int) (d_0_won : List (aB × Int)) (slot_1 : Int) (round_2 : Int) {r : Bool × (List (aB × Int))} {d_0_b d_0_o : Nat} {d_0_players_v : Value} {d_0_won_r : Nat} {d_0_won_bs : List Nat} {d_0_won_ck : Nat} (h : iZ d_0_Tree d_0_players d_0_won slot_1 round_2 = some r) : eS Try.prog 91 [.bp d_0_b d_0_o 0, .d (.lit (.int .i64 slot_1)), .d (.lit (.int .i64 round_2))] [.box d_0_b d_0_o [.lit (.int .i64 d_0_Tree.Rounds), .sl 1 (d_0_Tree.Slots.map aP), .lit d_0_players_v, .lit (.map (some d_0_won_r))], .arr d_0_players_v 3 1 (d_0_players.map aP), .map d_0_won_r (d_0_won.map fun p : aB × Int => ((fun a : aB => Value.agg ((aH a).map bH).toArray) p.1, (fun v : Int => AV.d (.lit (.int .i64 v))) p.2)) d_0_won_bs d_0_won_ck] (fun r' o' => ∃ (bs2 : List Nat) (ck2 : Nat), r' = .d (.lit (.bool r.1)) ∧ o' = [.box d_0_b d_0_o [.lit (.int .i64 d_0_Tree.Rounds), .sl 1 (d_0_Tree.Slots.map aP), .lit d_0_players_v, .lit (.map (some d_0_won_r))], .arr d_0_players_v 3 1 (d_0_players.map aP), .map d_0_won_r (r.2.map fun p : aB × Int => ((fun a : aB => Value.agg ((aH a).map bH).toArray) p.1, (fun v : Int => AV.d (.lit (.int .i64 v))) p.2)) bs2 ck2]) := by
 unfold iZ at h
 refine fO Try.func91 rfl (rs := [.tmp 6]) Try.results91 Try.ntmps91 (Nat.le_of_ble_eq_true rfl) ?_
 refine aG ?_
 refine aC ?_
 refine tr1 rfl (aJ (v := .d (.lit (.bool false))) (aA rfl) rfl rfl) ?_
 refine aF ?_
 refine aG ?_
 refine aG ?_
 refine aC ?_
 refine tr1 rfl (aE (v := .d (.lit (.int .i64 round_2))) (aA rfl) rfl rfl) ?_
 refine tr1 rfl (bI (aA rfl) rfl rfl rfl) ?_
 refine tr1 rfl (aE (v := .d (.lit (.int .i64 0))) (aA rfl) rfl rfl) ?_
 refine aF ?_
 refine cE ?_
 refine dN [0, 1, 12] (fun (s1 : Int × (List (aB × Int)) × (List Nat) × Nat) => [(13, .d (.lit (.int .i64 s1.1)))]) (fun (s1 : Int × (List (aB × Int)) × (List Nat) × Nat) => [.arr d_0_players_v 3 1 (d_0_players.map aP), .map d_0_won_r (s1.2.1.map fun p : aB × Int => ((fun a : aB => Value.agg ((aH a).map bH).toArray) p.1, (fun v : Int => AV.d (.lit (.int .i64 v))) p.2)) s1.2.2.1 s1.2.2.2, .box d_0_b d_0_o [.lit (.int .i64 d_0_Tree.Rounds), .sl 1 (d_0_Tree.Slots.map aP), .lit d_0_players_v, .lit (.map (some d_0_won_r))]]) (fun (k : Nat) (s1 : Int × (List (aB × Int)) × (List Nat) × Nat) => fS slot_1 (w64 (round_2 + 1)) d_0_players d_0_Tree k s1.1 s1.2.1) (fun _ => rfl) (0, d_0_won, d_0_won_bs, d_0_won_ck) h (bD [1, 2, 0] rfl rfl (aT rfl (bC ⟨rfl, rfl, rfl, trivial⟩))) ?_
 rintro k4 ⟨t13_0_1, d_0_1_2, bs2, ck3⟩ h
 simp only [fS] at h
 refine aG ?_
 refine aC ?_
 refine tr1 rfl (bF (aA rfl) rfl rfl rfl) ?_
 refine aF ?_
 refine aG ?_
 refine bR rfl (fun c5 => ?_) (fun c5 => ?_)
 ·have h := aY c5 h
  refine bL ?_
  refine aG ?_
  refine cE ?_
  refine aG ?_
  refine aC ?_
  refine tr1 rfl (aE (v := .d (.lit (.int .i64 t13_0_1))) (aA rfl) rfl rfl) ?_
  refine tr1 rfl (aJ (v := .d (.lit (.int .i64 t13_0_1))) (aA rfl) rfl rfl) ?_
  refine aF ?_
  refine aG ?_
  refine aC ?_
  refine tr1 rfl (aE (v := .d (.lit (.int .i64 t13_0_1))) (aA rfl) rfl rfl) ?_
  refine tr1 rfl (aE (v := .d (.lit (.int .i64 slot_1))) (aA rfl) rfl rfl) ?_
  obtain ⟨r6, h7, h⟩ := bind_some h
  refine tr1 rfl (iB (aA rfl) (.func _ _ Try.call45) rfl rfl (lA _ _ h7)) ?_
  refine bW rfl (eC (zs := [.lit (.int .i64 0), .lit (.int .i64 0)]) (aA rfl) Try.zeroValue70 rfl rfl) ?_
  rintro _ ⟨b8, rfl⟩
  refine tr1 rfl (cH (i := 3) rfl rfl rfl rfl rfl Try.sizeOf70 rfl (aA rfl) (Nat.le_of_ble_eq_true rfl) (ds' := (aH r6)) rfl) ?_
  refine aF ?_
  refine aG ?_
  refine aG ?_
  refine eE mix 10 [0, 1, 8, 12, 13] [(9, .d (.lit (.int .i64 ((cK r6 0 d_0_1_2))))), (27, .d (.lit (.bool ((cR r6 d_0_1_2)))))] ?_ ?_
  ·refine ⟨[(20, 0, .bp d_0_b d_0_o 0), (21, 1, .bp d_0_b d_0_o 0), (22, 2, .bp d_0_b d_0_o 3), (23, 3, .d (.lit (.map (some d_0_won_r)))), (24, 4, .agg (aH r6)), (25, 5, .tup [.d (.lit (.int .i64 ((cK r6 0 d_0_1_2)))), .d (.lit (.bool ((cR r6 d_0_1_2))))]), (19, 6, .tup [.d (.lit (.int .i64 ((cK r6 0 d_0_1_2)))), .d (.lit (.bool ((cR r6 d_0_1_2))))]), (26, 7, .d (.lit (.int .i64 ((cK r6 0 d_0_1_2))))), (27, 8, .d (.lit (.bool ((cR r6 d_0_1_2))))), (9, 9, .d (.lit (.int .i64 ((cK r6 0 d_0_1_2)))))], ?_, ?_⟩
   · exact ⟨by kernel_rfl, by kernel_rfl, by kernel_rfl, by kernel_rfl, by kernel_rfl, [([], []), ([0], []), ([1], []), ([2], []), ([], []), ([3, 4], []), ([5], []), ([6], []), ([6], []), ([7], [])], by kernel_rfl, ⟨fun S hS => aL rfl (aU rfl (aE (v := .bp d_0_b d_0_o 0) (aA rfl) (aM hS rfl) rfl)),
      fun S hS => aL rfl (aU rfl (jW (aA rfl) (aM hS rfl))),
      fun S hS => aL rfl (aU rfl (aS (aA rfl) (aM hS rfl) qU)),
      fun S hS => aL rfl (aU rfl (aV (aA rfl) (aM hS rfl) (i := 2) rfl rfl uN)),
      fun S hS => aL rfl (aU rfl (bO (aA rfl) (aM hS rfl) (i := 3) rfl jI (es := (aH r6)) rfl rfl)),
      fun S hS => aL rfl (aU rfl (aAp (av := (fun v : Int => AV.d (.lit (.int .i64 v)))) (l := d_0_1_2) (z := 0) (a := r6) (m := 1) (aA rfl) tA Try.underlying73 Try.zeroValue3 (fun _ _ => .d (.lit _ rfl)) (aM hS rfl) rfl rfl (aM hS rfl) (kS (enc := aH) r6 rfl))),
      fun S hS => aL rfl (aU rfl (aE (v := .tup [.d (.lit (.int .i64 ((cK r6 0 d_0_1_2)))), .d (.lit (.bool ((cR r6 d_0_1_2))))]) (aA rfl) (aM hS rfl) rfl)),
      fun S hS => aL rfl (aU rfl (bS (aA rfl) (aM hS rfl) rfl)),
      fun S hS => aL rfl (aU rfl (bS (aA rfl) (aM hS rfl) rfl)),
      fun S hS => aL rfl (aU rfl (aJ (v := .d (.lit (.int .i64 ((cK r6 0 d_0_1_2))))) (aA rfl) (aM hS rfl) rfl)), trivial⟩⟩
   · exact dM (aT rfl (aT rfl (bC ⟨rfl, rfl, rfl, rfl, rfl, trivial⟩)))
  ·refine tr1 rfl (aJ (v := .d (.lit (.bool ((cR r6 d_0_1_2))))) (aA rfl) rfl rfl) ?_
   refine aF ?_
   refine aG ?_
   refine aC ?_
   refine tr1 rfl (aE (v := .d (.lit (.bool ((cR r6 d_0_1_2))))) (aA rfl) rfl rfl) ?_
   refine tr1 rfl (aE (v := .d (.lit (.bool ((cR r6 d_0_1_2))))) (aA rfl) rfl rfl) ?_
   obtain ⟨b9, h10, h⟩ := bind_some h
   refine cA 10 [0, 1, 8, 12, 13] 39 b9 ?_ ?_
   ·refine bE (cR r6 d_0_1_2) (fun c14 => ?_) (fun c14 => ?_)
    ·have h10 := aY c14 h10
     refine aI rfl rfl (aA rfl) rfl c14 (aE (v := .d (.lit (.int .i64 ((cK r6 0 d_0_1_2))))) (aA rfl) rfl rfl) ?_
     refine aI rfl rfl (aA rfl) rfl c14 (aE (v := .bp d_0_b d_0_o 0) (aA rfl) rfl rfl) ?_
     refine aI rfl rfl (aA rfl) rfl c14 (jW (aA rfl) rfl) ?_
     refine aI rfl rfl (aA rfl) rfl c14 (aS (aA rfl) rfl kM) ?_
     refine aI rfl rfl (aA rfl) rfl c14 (aV (aA rfl) rfl (i := 2) rfl rfl dD) ?_
     refine aI rfl rfl (aA rfl) rfl c14 (aE (v := .d (.lit (.int .i64 slot_1))) (aA rfl) rfl rfl) ?_
     obtain ⟨x15, h16, h10⟩ := bind_some h10
     refine aI rfl rfl (aA rfl) rfl c14 (fJ (m := 0) (aA rfl) rfl rfl rfl bY.of (cC aP h16)) ?_
     refine aI rfl rfl (aA rfl) rfl c14 (jC (aA rfl) rfl (m := 0) rfl (nE aP h16) rfl bG) ?_
     refine aI rfl rfl (aA rfl) rfl c14 (bF (aA rfl) rfl rfl rfl) ?_
     refine tr1 rfl (bN (v := .d (.lit (.bool ((!decide ((cK r6 0 d_0_1_2) = x15)))))) (aA rfl) rfl c14 rfl rfl) ?_
     have h10 := Option.some.inj h10
     subst h10
     refine aF (bA rfl ⟨rfl, rfl, rfl, rfl, rfl, trivial⟩ rfl)
    ·have h10 := aX c14 h10
     refine aN rfl rfl (aA rfl) rfl (aA rfl) rfl c14 ?_
     refine aN rfl rfl (aA rfl) rfl (aA rfl) rfl c14 ?_
     refine aN rfl rfl (aA rfl) rfl (aA rfl) rfl c14 ?_
     refine aN rfl rfl (aA rfl) rfl (aA rfl) rfl c14 ?_
     refine aN rfl rfl (aA rfl) rfl (aA rfl) rfl c14 ?_
     refine aN rfl rfl (aA rfl) rfl (aA rfl) rfl c14 ?_
     refine aN rfl rfl (aA rfl) rfl (aA rfl) rfl c14 ?_
     refine aN rfl rfl (aA rfl) rfl (aA rfl) rfl c14 ?_
     refine aN rfl rfl (aA rfl) rfl (aA rfl) rfl c14 ?_
     refine tr1 rfl (bM (v := .d (.lit (.bool false))) (aA rfl) rfl c14 rfl rfl) ?_
     have h10 := Option.some.inj h10
     subst h10
     refine aF (bA rfl ⟨rfl, rfl, rfl, rfl, rfl, trivial⟩ rfl)
   ·refine aF ?_
    refine bR rfl (fun c11 => ?_) (fun c11 => ?_)
    ·have h := aY c11 h
     refine aG ?_
     refine aC ?_
     refine tr1 rfl (aJ (v := .d (.lit (.bool false))) (aA rfl) rfl rfl) ?_
     refine aF ?_
     have h := Option.some.inj h
     subst h
     refine cN (bD [2, 0, 1, 3] rfl rfl (le_refl _)) ?_
     exact bK ⟨rfl, _, [.box d_0_b d_0_o [.lit (.int .i64 d_0_Tree.Rounds), .sl 1 (d_0_Tree.Slots.map aP), .lit d_0_players_v, .lit (.map (some d_0_won_r))], .arr d_0_players_v 3 1 (d_0_players.map aP), .map d_0_won_r (d_0_1_2.map fun p : aB × Int => ((fun a : aB => Value.agg ((aH a).map bH).toArray) p.1, (fun v : Int => AV.d (.lit (.int .i64 v))) p.2)) bs2 ck3], [.box b8 0 (aH r6)], _, .one (.tmp 6 (v := .d (.lit (.bool false))) rfl), .refl _, .same _, bs2, ck3, rfl, rfl⟩
    ·have h := aX c11 h
     refine bL ?_
     obtain ⟨x12, h13, h⟩ := bind_some h
     refine eE mix 12 [0, 1, 12, 13] [(43, .d (.lit (.map (some d_0_won_r)))), (44, .agg (aH r6)), (51, .d (.lit (.int .i64 x12)))] ?_ ?_
     ·refine ⟨[(40, 0, .bp d_0_b d_0_o 0), (41, 1, .bp d_0_b d_0_o 0), (42, 2, .bp d_0_b d_0_o 3), (43, 3, .d (.lit (.map (some d_0_won_r)))), (44, 4, .agg (aH r6)), (45, 5, .bp d_0_b d_0_o 0), (46, 6, .bp d_0_b d_0_o 0), (47, 7, .bp d_0_b d_0_o 2), (48, 8, .d (.lit d_0_players_v)), (49, 9, .d (.lit (.int .i64 slot_1))), (50, 10, .ep d_0_players_v 1 slot_1.toNat 0), (51, 11, .d (.lit (.int .i64 x12)))], ?_, ?_⟩
      · exact ⟨by kernel_rfl, by kernel_rfl, by kernel_rfl, by kernel_rfl, by kernel_rfl, [([], []), ([0], []), ([1], []), ([2], []), ([], []), ([], []), ([5], []), ([6], []), ([7], []), ([], []), ([8, 9], []), ([10], [])], by kernel_rfl, ⟨fun S hS => aL rfl (aU rfl (aE (v := .bp d_0_b d_0_o 0) (aA rfl) (aM hS rfl) rfl)),
      fun S hS => aL rfl (aU rfl (jW (aA rfl) (aM hS rfl))),
      fun S hS => aL rfl (aU rfl (aS (aA rfl) (aM hS rfl) qU)),
      fun S hS => aL rfl (aU rfl (aV (aA rfl) (aM hS rfl) (i := 2) rfl rfl uN)),
      fun S hS => aL rfl (aU rfl (bO (aA rfl) (aM hS rfl) (i := 3) rfl jI (es := (aH r6)) rfl rfl)),
      fun S hS => aL rfl (aU rfl (aE (v := .bp d_0_b d_0_o 0) (aA rfl) (aM hS rfl) rfl)),
      fun S hS => aL rfl (aU rfl (jW (aA rfl) (aM hS rfl))),
      fun S hS => aL rfl (aU rfl (aS (aA rfl) (aM hS rfl) kM)),
      fun S hS => aL rfl (aU rfl (aV (aA rfl) (aM hS rfl) (i := 2) rfl rfl dD)),
      fun S hS => aL rfl (aU rfl (aE (v := .d (.lit (.int .i64 slot_1))) (aA rfl) (aM hS rfl) rfl)),
      fun S hS => aL rfl (aU rfl (fJ (m := 0) (aA rfl) (aM hS rfl) rfl (aM hS rfl) bY.of (cC aP h13))),
      fun S hS => aL rfl (aU rfl (jC (aA rfl) (aM hS rfl) (m := 0) rfl (nE aP h13) rfl bG)), trivial⟩⟩
      · exact dM (aT rfl (aT rfl (aT rfl (bC ⟨rfl, rfl, rfl, rfl, trivial⟩))))
     ·refine tr1 rfl (uH (av := (fun v : Int => AV.d (.lit (.int .i64 v)))) (l := d_0_1_2) (v := x12) (a := r6) (m := 1) tA Try.underlying73 rfl rfl rfl rfl (kS (enc := aH) r6 rfl) rfl rfl) ?_
      refine fH ?_
      refine aC ?_
      refine tr1 rfl (bI (aA rfl) rfl rfl rfl) ?_
      refine tr1 rfl (aE (v := .d (.lit (.int .i64 ((w64 (t13_0_1 + 1)))))) (aA rfl) rfl rfl) ?_
      refine aF ?_
      exact ⟨(w64 (t13_0_1 + 1), (eR r6 x12 d_0_1_2), (mbs r6 d_0_1_2 bs2 ck3), (mck r6 d_0_1_2 ck3)), h, bD [0, 1, 2] rfl rfl (aT rfl (bC ⟨rfl, rfl, rfl, trivial⟩))⟩
 ·have h := aX c5 h
  refine dA ?_
  refine .inl ⟨rfl, ?_⟩
  simp only [mQ] at h
  refine aG ?_
  refine aC ?_
  refine tr1 rfl (aJ (v := .d (.lit (.bool true))) (aA rfl) rfl rfl) ?_
  refine aF ?_
  have h := Option.some.inj h
  subst h
  refine cN (bD [2, 0, 1] rfl rfl (le_refl _)) ?_
  exact bK ⟨rfl, _, [.box d_0_b d_0_o [.lit (.int .i64 d_0_Tree.Rounds), .sl 1 (d_0_Tree.Slots.map aP), .lit d_0_players_v, .lit (.map (some d_0_won_r))], .arr d_0_players_v 3 1 (d_0_players.map aP), .map d_0_won_r (d_0_1_2.map fun p : aB × Int => ((fun a : aB => Value.agg ((aH a).map bH).toArray) p.1, (fun v : Int => AV.d (.lit (.int .i64 v))) p.2)) bs2 ck3], [], _, .one (.tmp 6 (v := .d (.lit (.bool true))) rfl), .refl _, .same _, bs2, ck3, rfl, rfl⟩

theorem zR (t_0 : aO) (l_1 : List aD) {Q : ((Option aZ) × Bool) → Prop} (h : nA t_0 l_1 Q) : eS Try.prog 71 [.agg (aR t_0), .d (.sl 5 (l_1.map aK))] [] (fun r' o' => ∃ (r : (Option aZ) × Bool), Q r ∧ r' = .tup [cL aW r.1, .d (.lit (.bool r.2))] ∧ o' = []) := by
 unfold nA at h
 refine fO Try.func71 rfl (rs := [.tmp 4, .tmp 5]) Try.results71 Try.ntmps71 (Nat.le_of_ble_eq_true rfl) ?_
 refine aG ?_
 refine aC ?_
 refine bW rfl (fU (v := .agg (aR t_0)) (aA rfl) rfl rfl rfl) ?_
 rintro _ ⟨b1, rfl⟩
 refine tr1 rfl (aJ (v := cL aW (none : Option aZ)) (aA rfl) rfl rfl) ?_
 refine tr1 rfl (aJ (v := .d (.lit (.bool false))) (aA rfl) rfl rfl) ?_
 refine aF ?_
 refine aG ?_
 obtain ⟨r3, h4, h⟩ := dE h
 refine tX mix 5 [1] (fun X2 => [(19, .agg (aR t_0)), (22, .d (.lit (X2 3).v)), (23, .d (.lit (.map (some (X2 4).b))))]) (fun X2 => [.box b1 0 (aR t_0), .arr (X2 3).v 3 1 (r3.map aP), .map (X2 4).b (([] : List (aB × Int)).map fun p : aB × Int => ((fun a : aB => Value.agg ((aH a).map bH).toArray) p.1, (fun v : Int => AV.d (.lit (.int .i64 v))) p.2)) ([]) 0]) ?_ ?_
 ·refine ⟨2, fun X2 => [(19, 0, .agg (aR t_0)), (20, 1, .bp b1 0 1), (21, 2, .d (.sl 1 (t_0.Slots.map aP))), (22, 3, .d (.lit (X2 3).v)), (23, 4, .d (.lit (.map (some (X2 4).b))))], fun X2 => [([], .box b1 0 (aR t_0)), ([(3, .arr (X2 3).v 3 1 (r3.map aP))], nob), ([(4, .map (X2 4).b (([] : List (aB × Int)).map fun p : aB × Int => ((fun a : aB => Value.agg ((aH a).map bH).toArray) p.1, (fun v : Int => AV.d (.lit (.int .i64 v))) p.2)) ([]) 0)], nob)], ?_, ?_⟩
  · exact ⟨by kernel_rfl, by kernel_rfl, by kernel_rfl, fun _ => by kernel_rfl, fun _ => by kernel_rfl, fun _ => by kernel_rfl, fun _ => rfl, [([], []), ([], [3]), ([1], [3]), ([2], []), ([], [])], by kernel_rfl, ⟨fun X2 S hw hi hS => kP (X := X2) rfl (hw X2) rfl (aU rfl (bO (aA rfl) (aM hS rfl) (i := 0) (og hS rfl rfl) dY (es := (aR t_0)) rfl rfl)),
      fun X2 S hw hi hS => kP (X := X2) rfl (hw X2) rfl (aU rfl (aS (aA rfl) (aM hS rfl) dO)),
      fun X2 S hw hi hS => kP (X := X2) rfl (hw X2) rfl (aU rfl (aV (aA rfl) (aM hS rfl) (i := 0) (og hS rfl rfl) rfl dD)),
      fun X2 S hw hi hS => aIn (X := X2) (p := 1) (v := fun x => .d (.lit x.v)) (mo := fun x => .arr x.v 3 1 (r3.map aP)) hS hi rfl rfl (fun _ => rfl) hw (fun _ => rfl) (fun _ => rfl) (fun _ => rfl) (fun _ => ⟨rfl, rfl, .inr rfl, ⟨rfl, rfl, .inr rfl, ⟨rfl, rfl, .inr rfl, ⟨rfl, rfl, .inl rfl, ⟨rfl, rfl, .inr rfl, trivial⟩⟩⟩⟩⟩) (fun _ => ⟨trivial, rfl, ⟨⟨rfl, .inl rfl, trivial⟩, rfl, ⟨⟨rfl, .inr rfl, trivial⟩, rfl, trivial⟩⟩⟩) (xL (aAo (aA rfl) (.func _ _ Try.call89) (ev2 (aM hS rfl) evn) rfl (qN _ h4)) (by rintro _ ⟨w, rfl⟩; exact ⟨⟨0, w⟩, bD [0, 3, 2] rfl rfl (le_refl _)⟩)),
      fun X2 S hw hi hS => aIn (X := X2) (p := 2) (v := fun x => .d (.lit (.map (some x.b)))) (mo := fun x => .map x.b (([] : List (aB × Int)).map fun p : aB × Int => ((fun a : aB => Value.agg ((aH a).map bH).toArray) p.1, (fun v : Int => AV.d (.lit (.int .i64 v))) p.2)) ([]) 0) hS hi rfl rfl (fun _ => rfl) hw (fun _ => rfl) (fun _ => rfl) (fun _ => rfl) (fun _ => ⟨rfl, rfl, .inr rfl, ⟨rfl, rfl, .inr rfl, ⟨rfl, rfl, .inr rfl, ⟨rfl, rfl, .inr rfl, ⟨rfl, rfl, .inl rfl, trivial⟩⟩⟩⟩⟩) (fun _ => ⟨trivial, rfl, ⟨⟨rfl, .inr rfl, trivial⟩, rfl, ⟨⟨rfl, .inl rfl, trivial⟩, rfl, trivial⟩⟩⟩) (xL (tV (aA rfl)) (by rintro _ ⟨w, rfl⟩; exact ⟨⟨w, undef⟩, bD [0, 1, 3] rfl rfl (le_refl _)⟩)), trivial⟩⟩
  · exact fun X2 => dM (aT rfl (aT rfl (aT rfl (bC ⟨rfl, trivial⟩))))
 ·intro X2
  refine tr1 rfl (eT (aA rfl) aMd (zs := [.lit (.int .i64 0), .sl 1 ((([] : List Int)).map aP), .sl 1 ((([] : List Int)).map aP), .lit (.map none)]) rfl rfl rfl rfl (es := [.lit (.int .i64 t_0.Rounds), .sl 1 (t_0.Slots.map aP), .lit (X2 3).v, .lit (.map (some (X2 4).b))]) rfl) ?_
  refine bW rfl (fU (v := .agg [.lit (.int .i64 t_0.Rounds), .sl 1 (t_0.Slots.map aP), .lit (X2 3).v, .lit (.map (some (X2 4).b))]) (aA rfl) rfl rfl rfl) ?_
  rintro _ ⟨b5, rfl⟩
  refine tr1 rfl (aJ (v := .bp b5 0 0) (aA rfl) rfl rfl) ?_
  refine aF ?_
  refine aG ?_
  refine aC ?_
  refine bW rfl (tV (aA rfl)) ?_
  rintro _ ⟨r6, rfl⟩
  refine bW rfl (tV (aA rfl)) ?_
  rintro _ ⟨r7, rfl⟩
  refine tr1 rfl (aJ (v := .d (.lit (.map (some r6)))) (aA rfl) rfl rfl) ?_
  refine tr1 rfl (aJ (v := .d (.lit (.map (some r7)))) (aA rfl) rfl rfl) ?_
  refine aF ?_
  refine aG ?_
  refine aG ?_
  refine aC ?_
  refine tr1 rfl (aE (v := .d (.sl 5 (l_1.map aK))) (aA rfl) rfl rfl) ?_
  refine tr1 rfl (eG (aA rfl) rfl eN.of) ?_
  refine tr1 rfl (aE (v := .d (.lit (.int .i64 0))) (aA rfl) rfl rfl) ?_
  refine aF ?_
  refine cE ?_
  refine oK [6, 7, 8, 28, 29] (fun (s8 : Int × (List (aD × Int)) × (List (aB × aD)) × (List Nat) × Nat × (List Nat) × Nat) => [(30, .d (.lit (.int .i64 s8.1)))]) (fun (s8 : Int × (List (aD × Int)) × (List (aB × aD)) × (List Nat) × Nat × (List Nat) × Nat) => [.arr (X2 3).v 3 1 (r3.map aP), .map (X2 4).b (([] : List (aB × Int)).map fun p : aB × Int => ((fun a : aB => Value.agg ((aH a).map bH).toArray) p.1, (fun v : Int => AV.d (.lit (.int .i64 v))) p.2)) ([]) 0, .box b5 0 [.lit (.int .i64 t_0.Rounds), .sl 1 (t_0.Slots.map aP), .lit (X2 3).v, .lit (.map (some (X2 4).b))], .map r6 (s8.2.1.map fun p : aD × Int => ((fun a : aD => Value.agg ((aK a).map bH).toArray) p.1, (fun v : Int => AV.d (.lit (.int .i64 v))) p.2)) s8.2.2.2.1 s8.2.2.2.2.1, .map r7 (s8.2.2.1.map fun p : aB × aD => ((fun a : aB => Value.agg ((aH a).map bH).toArray) p.1, (fun v : aD => AV.agg (aK v)) p.2)) s8.2.2.2.2.2.1 s8.2.2.2.2.2.2]) (fun (k : Nat) (s8 : Int × (List (aD × Int)) × (List (aB × aD)) × (List Nat) × Nat × (List Nat) × Nat) => fP Q l_1 (l_1.length : Int) r3 ([] : List (aB × Int)) t_0 k s8.1 s8.2.1 s8.2.2.1) (fun _ h => h) (0, ([] : List (aD × Int)), ([] : List (aB × aD)), [], 0, [], 0) h (bD [1, 2, 3, 4, 5] rfl rfl (aT rfl (bC ⟨rfl, rfl, rfl, rfl, rfl, trivial⟩))) ?_
  rintro k13 ⟨t30_0_8, o26_0_8, o27_0_8, bs9, ck10, bs11, ck12⟩ h
  simp only [fP] at h
  refine aG ?_
  refine aC ?_
  refine tr1 rfl (bF (aA rfl) rfl rfl rfl) ?_
  refine aF ?_
  refine aG ?_
  refine bR rfl (fun c14 => ?_) (fun c14 => ?_)
  ·have h := eP c14 h
   refine bL ?_
   refine aG ?_
   refine cE ?_
   refine aG ?_
   refine aC ?_
   obtain ⟨x15, h16, h⟩ := dE h
   refine tr1 rfl (bX (aA rfl) rfl rfl eN.of (cC aK h16)) ?_
   refine tr1 rfl (jV (aA rfl) rfl jH (es := (aK x15)) rfl rfl) ?_
   refine bW rfl (eC (zs := [.lit (.int .i64 0), .lit (.int .i64 0), .lit (.int .i64 0), .lit (.int .i64 0), .lit (.int .i64 0)]) (aA rfl) Try.zeroValue32 rfl rfl) ?_
   rintro _ ⟨b17, rfl⟩
   refine tr1 rfl (cH (i := 5) rfl rfl rfl rfl rfl Try.sizeOf32 rfl (aA rfl) (Nat.le_of_ble_eq_true rfl) (ds' := (aK x15)) rfl) ?_
   refine aF ?_
   refine aG ?_
   refine aG ?_
   refine aC ?_
   refine tr1 rfl (aS (aA rfl) rfl lU) ?_
   refine tr1 rfl (aV (aA rfl) rfl (i := 5) rfl rfl bG) ?_
   refine tr1 rfl (bF (aA rfl) rfl rfl rfl) ?_
   refine aF ?_
   refine bR rfl (fun c18 => ?_) (fun c18 => ?_)
   ·have h := eP c18 h
    refine aG ?_
    refine tX mix 6 [6, 7, 8, 28, 29, 30] (fun X19 => [(37, .d (.lit (.map (some r6)))), (40, .d (.lit (.int .i64 ((w64 ((cK x15 0 o26_0_8) + 1)))))), (42, .d (.lit (.int .i64 (nD x15 o26_0_8 bs9 ck10))))]) (fun X19 => [.arr (X2 3).v 3 1 (r3.map aP), .map (X2 4).b (([] : List (aB × Int)).map fun p : aB × Int => ((fun a : aB => Value.agg ((aH a).map bH).toArray) p.1, (fun v : Int => AV.d (.lit (.int .i64 v))) p.2)) ([]) 0, .box b5 0 [.lit (.int .i64 t_0.Rounds), .sl 1 (t_0.Slots.map aP), .lit (X2 3).v, .lit (.map (some (X2 4).b))], .map r6 ((lX x15 0 o26_0_8).map fun p : aD × Int => ((fun a : aD => Value.agg ((aK a).map bH).toArray) p.1, (fun v : Int => AV.d (.lit (.int .i64 v))) p.2)) (mbs x15 o26_0_8 bs9 ck10) (mck x15 o26_0_8 ck10), .map r7 (o27_0_8.map fun p : aB × aD => ((fun a : aB => Value.agg ((aH a).map bH).toArray) p.1, (fun v : aD => AV.agg (aK v)) p.2)) bs11 ck12, .box b17 0 (aK x15)]) ?_ ?_
    ·refine ⟨0, fun X19 => [(37, 0, .d (.lit (.map (some r6)))), (38, 1, .agg (aK x15)), (39, 2, .d (.lit (.int .i64 ((cK x15 0 o26_0_8))))), (40, 3, .d (.lit (.int .i64 ((w64 ((cK x15 0 o26_0_8) + 1)))))), (41, 4, .tup [.d (.lit (.int .i64 ((cK x15 0 o26_0_8)))), .d (.lit (.int .i64 (nD x15 o26_0_8 bs9 ck10)))]), (42, 5, .d (.lit (.int .i64 (nD x15 o26_0_8 bs9 ck10))))], fun X19 => [([], .arr (X2 3).v 3 1 (r3.map aP)), ([], .map (X2 4).b (([] : List (aB × Int)).map fun p : aB × Int => ((fun a : aB => Value.agg ((aH a).map bH).toArray) p.1, (fun v : Int => AV.d (.lit (.int .i64 v))) p.2)) ([]) 0), ([], .box b5 0 [.lit (.int .i64 t_0.Rounds), .sl 1 (t_0.Slots.map aP), .lit (X2 3).v, .lit (.map (some (X2 4).b))]), ([(4, .map r6 ((lX x15 0 o26_0_8).map fun p : aD × Int => ((fun a : aD => Value.agg ((aK a).map bH).toArray) p.1, (fun v : Int => AV.d (.lit (.int .i64 v))) p.2)) (mbs x15 o26_0_8 bs9 ck10) (mck x15 o26_0_8 ck10))], .map r6 (o26_0_8.map fun p : aD × Int => ((fun a : aD => Value.agg ((aK a).map bH).toArray) p.1, (fun v : Int => AV.d (.lit (.int .i64 v))) p.2)) bs9 ck10), ([], .map r7 (o27_0_8.map fun p : aB × aD => ((fun a : aB => Value.agg ((aH a).map bH).toArray) p.1, (fun v : aD => AV.agg (aK v)) p.2)) bs11 ck12), ([], .box b17 0 (aK x15))], ?_, ?_⟩
     · exact ⟨by kernel_rfl, by kernel_rfl, by kernel_rfl, fun _ => by kernel_rfl, fun _ => by kernel_rfl, fun _ => by kernel_rfl, fun _ => rfl, [([], [4]), ([], [4]), ([0, 1], []), ([2], []), ([0, 1], []), ([4], [])], by kernel_rfl, ⟨fun X19 S hw hi hS => kP (X := X19) rfl (hw X19) rfl (aU rfl (aE (v := .d (.lit (.map (some r6)))) (aA rfl) (aM hS rfl) rfl)),
      fun X19 S hw hi hS => kP (X := X19) rfl (hw X19) rfl (aU rfl (bO (aA rfl) (aM hS rfl) (i := 5) (og hS rfl rfl) jH (es := (aK x15)) rfl rfl)),
      fun X19 S hw hi hS => kP (X := X19) rfl (hw X19) rfl (aU rfl (aId (av := (fun v : Int => AV.d (.lit (.int .i64 v)))) (l := o26_0_8) (z := 0) (a := x15) (m := 3) (aA rfl) aDe Try.underlying123 Try.zeroValue3 (fun _ _ => .d (.lit _ rfl)) (aM hS rfl) (og2 rfl) rfl (aM hS rfl) (kS (enc := aK) x15 rfl))),
      fun X19 S hw hi hS => kP (X := X19) rfl (hw X19) rfl (aU rfl (bI (aA rfl) (aM hS rfl) rfl rfl)),
      fun X19 S hw hi hS => aMf (X := X19) (p := 3) hS rfl rfl rfl (hw X19) rfl rfl rfl (xL (aGo (av := (fun v : Int => AV.d (.lit (.int .i64 v)))) (l := o26_0_8) (z := 0) (a := x15) (m := 3) (aA rfl) aDe Try.underlying123 Try.zeroValue3 (fun _ _ => .d (.lit _ rfl)) (aM hS rfl) (og hS rfl rfl) rfl (aM hS rfl) (kS (enc := aK) x15 rfl)) (by rintro _ rfl; exact Ent.refl _)),
      fun X19 S hw hi hS => kP (X := X19) rfl (hw X19) rfl (aU rfl (bS (aA rfl) (aM hS rfl) rfl)), trivial⟩⟩
     · exact fun X19 => dM (aT rfl (aT rfl (aT rfl (bC ⟨rfl, rfl, rfl, rfl, rfl, rfl, trivial⟩))))
    ·intro X19
     refine tr1 rfl (aCd (kv := (fun a : aD => Value.agg ((aK a).map bH).toArray)) (av := (fun v : Int => AV.d (.lit (.int .i64 v)))) (l := o26_0_8) (z := 0) (v := w64 ((cK x15 0 o26_0_8) + 1)) (a := x15) (m := 3) rfl rfl rfl rfl rfl) ?_
     refine aF ?_
     refine dA ?_
     refine .inl ⟨rfl, ?_⟩
     refine aC ?_
     refine tr1 rfl (bI (aA rfl) rfl rfl rfl) ?_
     refine tr1 rfl (aE (v := .d (.lit (.int .i64 ((w64 (t30_0_8 + 1)))))) (aA rfl) rfl rfl) ?_
     refine aF ?_
     exact ⟨(w64 (t30_0_8 + 1), (eR x15 (w64 ((cK x15 0 o26_0_8) + 1)) o26_0_8), o27_0_8, (mbs x15 o26_0_8 bs9 ck10), (mck x15 o26_0_8 ck10), bs11, ck12), h, bD [0, 1, 2, 3, 4] rfl rfl (aT rfl (bC ⟨rfl, rfl, rfl, rfl, rfl, trivial⟩))⟩
   ·have h := eO c18 h
    refine bL ?_
    refine aG ?_
    refine aC ?_
    refine tr1 rfl (aS (aA rfl) rfl kL) ?_
    refine tr1 rfl (aV (aA rfl) rfl (i := 5) rfl rfl bG) ?_
    refine tr1 rfl (aS (aA rfl) rfl gY) ?_
    refine tr1 rfl (aV (aA rfl) rfl (i := 5) rfl rfl bG) ?_
    refine tr1 rfl (eT (aA rfl) uT (zs := [.lit (.int .i64 0), .lit (.int .i64 0)]) rfl rfl rfl rfl (es := [.lit (.int .i64 x15.Round), .lit (.int .i64 x15.Place)]) rfl) ?_
    refine bW rfl (eC (zs := [.lit (.int .i64 0), .lit (.int .i64 0)]) (aA rfl) Try.zeroValue70 rfl rfl) ?_
    rintro _ ⟨b20, rfl⟩
    refine tr1 rfl (cH (i := 6) rfl rfl rfl rfl rfl Try.sizeOf70 rfl (aA rfl) (Nat.le_of_ble_eq_true rfl) (ds' := (aH (aB.mk x15.Round x15.Place))) rfl) ?_
    refine aF ?_
    refine aG ?_
    refine aG ?_
    refine aC ?_
    refine tr1 rfl (aE (v := .d (.lit (.map (some r7)))) (aA rfl) rfl rfl) ?_
    refine tr1 rfl (bO (aA rfl) rfl (i := 6) rfl jI (es := (aH (aB.mk x15.Round x15.Place))) rfl rfl) ?_
    refine tr1 rfl (aAp (av := (fun v : aD => AV.agg (aK v))) (l := o27_0_8) (z := (aD.mk 0 0 0 0 0)) (a := (aB.mk x15.Round x15.Place)) (m := 4) (aA rfl) tA Try.underlying124 Try.zeroValue32 (fun _ _ => .agg (wV rfl)) rfl rfl rfl rfl (kS (enc := aH) (aB.mk x15.Round x15.Place) rfl)) ?_
    refine tr1 rfl (aE (v := .tup [.agg (aK (cK (aB.mk x15.Round x15.Place) (aD.mk 0 0 0 0 0) o27_0_8)), .d (.lit (.bool ((cR (aB.mk x15.Round x15.Place) o27_0_8))))]) (aA rfl) rfl rfl) ?_
    refine tr1 rfl (bS (aA rfl) rfl rfl) ?_
    refine tr1 rfl (bS (aA rfl) rfl rfl) ?_
    refine bW rfl (eC (zs := [.lit (.int .i64 0), .lit (.int .i64 0), .lit (.int .i64 0), .lit (.int .i64 0), .lit (.int .i64 0)]) (aA rfl) Try.zeroValue32 rfl rfl) ?_
    rintro _ ⟨b21, rfl⟩
    refine tr1 rfl (cH (i := 7) rfl rfl rfl rfl rfl Try.sizeOf32 rfl (aA rfl) (Nat.le_of_ble_eq_true rfl) (ds' := (aK (cK (aB.mk x15.Round x15.Place) (aD.mk 0 0 0 0 0) o27_0_8))) rfl) ?_
    refine tr1 rfl (aJ (v := .d (.lit (.bool ((cR (aB.mk x15.Round x15.Place) o27_0_8))))) (aA rfl) rfl rfl) ?_
    refine aF ?_
    refine aG ?_
    refine aC ?_
    refine tr1 rfl (aE (v := .d (.lit (.bool ((cR (aB.mk x15.Round x15.Place) o27_0_8))))) (aA rfl) rfl rfl) ?_
    refine tr1 rfl (aE (v := .d (.lit (.bool ((cR (aB.mk x15.Round x15.Place) o27_0_8))))) (aA rfl) rfl rfl) ?_
    obtain ⟨b22, h23, h⟩ := dE h
    refine cA 4 [6, 7, 8, 10, 11, 28, 29, 30] 59 b22 ?_ ?_
    ·refine bE (cR (aB.mk x15.Round x15.Place) o27_0_8) (fun c25 => ?_) (fun c25 => ?_)
     ·have h23 := aY c25 h23
      refine aI rfl rfl (aA rfl) rfl c25 (bO (aA rfl) rfl (i := 7) rfl jH (es := (aK (cK (aB.mk x15.Round x15.Place) (aD.mk 0 0 0 0 0) o27_0_8))) rfl rfl) ?_
      refine aI rfl rfl (aA rfl) rfl c25 (bO (aA rfl) rfl (i := 5) rfl jH (es := (aK x15)) rfl rfl) ?_
      refine aI rfl rfl (aA rfl) rfl c25 (aGp (a := (cK (aB.mk x15.Round x15.Place) (aD.mk 0 0 0 0 0) o27_0_8)) (b := x15) (aA rfl) rfl rfl rfl rfl Try.eqGuardType32 aCw) ?_
      refine tr1 rfl (bN (v := .d (.lit (.bool ((!decide ((cK (aB.mk x15.Round x15.Place) (aD.mk 0 0 0 0 0) o27_0_8) = x15)))))) (aA rfl) rfl c25 rfl rfl) ?_
      have h23 := Option.some.inj h23
      subst h23
      refine aF (bA rfl ⟨rfl, rfl, rfl, rfl, rfl, rfl, rfl, rfl, trivial⟩ rfl)
     ·have h23 := aX c25 h23
      refine aN rfl rfl (aA rfl) rfl (aA rfl) rfl c25 ?_
      refine aN rfl rfl (aA rfl) rfl (aA rfl) rfl c25 ?_
      refine aN rfl rfl (aA rfl) rfl (aA rfl) rfl c25 ?_
      refine tr1 rfl (bM (v := .d (.lit (.bool false))) (aA rfl) rfl c25 rfl rfl) ?_
      have h23 := Option.some.inj h23
      subst h23
      refine aF (bA rfl ⟨rfl, rfl, rfl, rfl, rfl, rfl, rfl, rfl, trivial⟩ rfl)
    ·refine aF ?_
     refine bR rfl (fun c24 => ?_) (fun c24 => ?_)
     ·have h := eP c24 h
      refine aG ?_
      refine aC ?_
      refine tr1 rfl (aJ (v := cL aW (none : Option aZ)) (aA rfl) rfl rfl) ?_
      refine tr1 rfl (aJ (v := .d (.lit (.bool false))) (aA rfl) rfl rfl) ?_
      refine aF ?_
      exact bK ⟨rfl, _, [], [.arr (X2 3).v 3 1 (r3.map aP), .map (X2 4).b (([] : List (aB × Int)).map fun p : aB × Int => ((fun a : aB => Value.agg ((aH a).map bH).toArray) p.1, (fun v : Int => AV.d (.lit (.int .i64 v))) p.2)) ([]) 0, .box b5 0 [.lit (.int .i64 t_0.Rounds), .sl 1 (t_0.Slots.map aP), .lit (X2 3).v, .lit (.map (some (X2 4).b))], .map r6 (o26_0_8.map fun p : aD × Int => ((fun a : aD => Value.agg ((aK a).map bH).toArray) p.1, (fun v : Int => AV.d (.lit (.int .i64 v))) p.2)) bs9 ck10, .map r7 (o27_0_8.map fun p : aB × aD => ((fun a : aB => Value.agg ((aH a).map bH).toArray) p.1, (fun v : aD => AV.agg (aK v)) p.2)) bs11 ck12, .box b17 0 (aK x15), .box b20 0 (aH (aB.mk x15.Round x15.Place)), .box b21 0 (aK (cK (aB.mk x15.Round x15.Place) (aD.mk 0 0 0 0 0) o27_0_8))], _, .two (.tmp 4 (v := cL aW (none : Option aZ)) rfl) (.tmp 5 (v := .d (.lit (.bool false))) rfl), .refl _, .same _, ((none : Option aZ), false), h, rfl, rfl⟩
     ·have h := eO c24 h
      refine bL ?_
      refine aC ?_
      refine tr1 rfl (aE (v := .d (.lit (.map (some r7)))) (aA rfl) rfl rfl) ?_
      refine tr1 rfl (bO (aA rfl) rfl (i := 6) rfl jI (es := (aH (aB.mk x15.Round x15.Place))) rfl rfl) ?_
      refine tr1 rfl (bO (aA rfl) rfl (i := 5) rfl jH (es := (aK x15)) rfl rfl) ?_
      refine tr1 rfl (uH (av := (fun v : aD => AV.agg (aK v))) (l := o27_0_8) (v := x15) (a := (aB.mk x15.Round x15.Place)) (m := 4) tA Try.underlying124 rfl rfl rfl rfl (kS (enc := aH) (aB.mk x15.Round x15.Place) rfl) rfl rfl) ?_
      refine fH ?_
      refine aC ?_
      refine tr1 rfl (bI (aA rfl) rfl rfl rfl) ?_
      refine tr1 rfl (aE (v := .d (.lit (.int .i64 ((w64 (t30_0_8 + 1)))))) (aA rfl) rfl rfl) ?_
      refine aF ?_
      exact ⟨(w64 (t30_0_8 + 1), o26_0_8, (eR (aB.mk x15.Round x15.Place) x15 o27_0_8), bs9, ck10, (mbs (aB.mk x15.Round x15.Place) o27_0_8 bs11 ck12), (mck (aB.mk x15.Round x15.Place) o27_0_8 ck12)), h, bD [0, 1, 2, 3, 4] rfl rfl (aT rfl (bC ⟨rfl, rfl, rfl, rfl, rfl, trivial⟩))⟩
  ·have h := eO c14 h
   refine dA ?_
   refine .inl ⟨rfl, ?_⟩
   simp only [mN] at h
   refine aG ?_
   refine aG ?_
   refine aC ?_
   refine tr1 rfl (aE (v := .bp b5 0 0) (aA rfl) rfl rfl) ?_
   refine tr1 rfl (aE (v := .d (.lit (.map (some r6)))) (aA rfl) rfl rfl) ?_
   refine jS (bD [2, 0, 3, 1, 4] rfl rfl (le_refl _)) ?_
   refine bW rfl (qZ (passed := [.box b5 0 [.lit (.int .i64 t_0.Rounds), .sl 1 (t_0.Slots.map aP), .lit (X2 3).v, .lit (.map (some (X2 4).b))], .arr (X2 3).v 3 1 (r3.map aP), .map r6 (o26_0_8.map fun p : aD × Int => ((fun a : aD => Value.agg ((aK a).map bH).toArray) p.1, (fun v : Int => AV.d (.lit (.int .i64 v))) p.2)) bs9 ck10]) (aA rfl) rfl (.func _ _ Try.call90) rfl rfl (uA t_0 r3 o26_0_8 h)) ?_
   rintro _ ⟨_, _, ⟨r26, bs27, ck28, h, rfl, rfl⟩, rfl⟩
   refine tr1 rfl (gL (aA rfl) rfl) ?_
   refine aF ?_
   refine bR rfl (fun c29 => ?_) (fun c29 => ?_)
   ·have h := eP c29 h
    refine aG ?_
    refine aC ?_
    refine tr1 rfl (aJ (v := cL aW (none : Option aZ)) (aA rfl) rfl rfl) ?_
    refine tr1 rfl (aJ (v := .d (.lit (.bool false))) (aA rfl) rfl rfl) ?_
    refine aF ?_
    exact bK ⟨rfl, _, [], [.box b5 0 [.lit (.int .i64 t_0.Rounds), .sl 1 (t_0.Slots.map aP), .lit (X2 3).v, .lit (.map (some (X2 4).b))], .arr (X2 3).v 3 1 (r26.2.1.map aP), .map r6 (r26.2.2.map fun p : aD × Int => ((fun a : aD => Value.agg ((aK a).map bH).toArray) p.1, (fun v : Int => AV.d (.lit (.int .i64 v))) p.2)) bs27 ck28, .map (X2 4).b (([] : List (aB × Int)).map fun p : aB × Int => ((fun a : aB => Value.agg ((aH a).map bH).toArray) p.1, (fun v : Int => AV.d (.lit (.int .i64 v))) p.2)) ([]) 0, .map r7 (o27_0_8.map fun p : aB × aD => ((fun a : aB => Value.agg ((aH a).map bH).toArray) p.1, (fun v : aD => AV.agg (aK v)) p.2)) bs11 ck12], _, .two (.tmp 4 (v := cL aW (none : Option aZ)) rfl) (.tmp 5 (v := .d (.lit (.bool false))) rfl), .refl _, .same _, ((none : Option aZ), false), h, rfl, rfl⟩
   ·have h := eO c29 h
    refine bL ?_
    refine aG ?_
    refine aG ?_
    refine aC ?_
    refine tr1 rfl (aE (v := .bp b5 0 0) (aA rfl) rfl rfl) ?_
    refine tr1 rfl (jW (aA rfl) rfl) ?_
    refine tr1 rfl (aS (aA rfl) rfl kM) ?_
    refine tr1 rfl (aV (aA rfl) rfl (i := 0) rfl rfl dD) ?_
    refine tr1 rfl (mX (m := 1) (aA rfl) rfl rfl bY.of) ?_
    refine tr1 rfl (aE (v := .d (.lit (.int .i64 0))) (aA rfl) rfl rfl) ?_
    refine aF ?_
    refine cE ?_
    refine oK [6, 8, 71, 72] (fun (s30 : Int × (List (aB × Int)) × (List Nat) × Nat) => [(73, .d (.lit (.int .i64 s30.1)))]) (fun (s30 : Int × (List (aB × Int)) × (List Nat) × Nat) => [.arr (X2 3).v 3 1 (r26.2.1.map aP), .map (X2 4).b (s30.2.1.map fun p : aB × Int => ((fun a : aB => Value.agg ((aH a).map bH).toArray) p.1, (fun v : Int => AV.d (.lit (.int .i64 v))) p.2)) s30.2.2.1 s30.2.2.2, .box b5 0 [.lit (.int .i64 t_0.Rounds), .sl 1 (t_0.Slots.map aP), .lit (X2 3).v, .lit (.map (some (X2 4).b))], .map r7 (o27_0_8.map fun p : aB × aD => ((fun a : aB => Value.agg ((aH a).map bH).toArray) p.1, (fun v : aD => AV.agg (aK v)) p.2)) bs11 ck12]) (fun (k : Nat) (s30 : Int × (List (aB × Int)) × (List Nat) × Nat) => fQ Q (r26.2.1.length : Int) r26.2.1 t_0 o27_0_8 k s30.1 s30.2.1) (fun _ h => h) (0, ([] : List (aB × Int)), [], 0) h (bD [1, 3, 0, 4] rfl rfl (aT rfl (bC ⟨rfl, rfl, rfl, rfl, trivial⟩))) ?_
    rintro k33 ⟨t73_2_30, o23_2_30, bs31, ck32⟩ h
    simp only [fQ] at h
    refine aG ?_
    refine aC ?_
    refine tr1 rfl (bF (aA rfl) rfl rfl rfl) ?_
    refine aF ?_
    refine aG ?_
    refine bR rfl (fun c34 => ?_) (fun c34 => ?_)
    ·have h := eP c34 h
     refine bL ?_
     refine aG ?_
     refine cE ?_
     refine aG ?_
     refine aC ?_
     refine tr1 rfl (aE (v := .d (.lit (.int .i64 t73_2_30))) (aA rfl) rfl rfl) ?_
     obtain ⟨x35, h36, h⟩ := dE h
     refine tr1 rfl (fJ (m := 0) (aA rfl) rfl rfl rfl bY.of (cC aP h36)) ?_
     refine tr1 rfl (jC (aA rfl) rfl (m := 0) rfl (nE aP h36) rfl bG) ?_
     refine tr1 rfl (aJ (v := .d (.lit (.int .i64 t73_2_30))) (aA rfl) rfl rfl) ?_
     refine tr1 rfl (aJ (v := .d (.lit (.int .i64 x35))) (aA rfl) rfl rfl) ?_
     refine aF ?_
     refine aG ?_
     refine aC ?_
     refine tr1 rfl (aE (v := .d (.lit (.int .i64 x35))) (aA rfl) rfl rfl) ?_
     refine tr1 rfl (bF (aA rfl) rfl rfl rfl) ?_
     refine aF ?_
     refine bR rfl (fun c37 => ?_) (fun c37 => ?_)
     ·have h := eP c37 h
      refine aC ?_
      refine tr1 rfl (aE (v := .bp b5 0 0) (aA rfl) rfl rfl) ?_
      refine tr1 rfl (aE (v := .d (.lit (.int .i64 t73_2_30))) (aA rfl) rfl rfl) ?_
      refine tr1 rfl (aIa (aA rfl) rfl rfl (.inr (.inr ⟨rfl, rfl⟩))) ?_
      obtain ⟨r38, h39, h⟩ := dE h
      refine jS (bD [2, 0, 1, 3] rfl rfl (le_refl _)) ?_
      refine bW rfl (qZ (passed := [.box b5 0 [.lit (.int .i64 t_0.Rounds), .sl 1 (t_0.Slots.map aP), .lit (X2 3).v, .lit (.map (some (X2 4).b))], .arr (X2 3).v 3 1 (r26.2.1.map aP), .map (X2 4).b (o23_2_30.map fun p : aB × Int => ((fun a : aB => Value.agg ((aH a).map bH).toArray) p.1, (fun v : Int => AV.d (.lit (.int .i64 v))) p.2)) bs31 ck32]) (aA rfl) rfl (.func _ _ Try.call91) rfl rfl (qJ t_0 r26.2.1 o23_2_30 (aCn t73_2_30 1) 0 h39)) ?_
      rintro _ ⟨_, _, ⟨bs40, ck41, rfl, rfl⟩, rfl⟩
      refine fH ?_
      refine aC ?_
      refine tr1 rfl (bI (aA rfl) rfl rfl rfl) ?_
      refine tr1 rfl (aE (v := .d (.lit (.int .i64 ((w64 (t73_2_30 + 1)))))) (aA rfl) rfl rfl) ?_
      refine aF ?_
      exact ⟨(w64 (t73_2_30 + 1), r38.2, bs40, ck41), h, bD [1, 2, 0, 3] rfl rfl (aT rfl (bC ⟨rfl, rfl, rfl, rfl, trivial⟩))⟩
     ·have h := eO c37 h
      refine eL ?_
      refine aC ?_
      refine tr1 rfl (bI (aA rfl) rfl rfl rfl) ?_
      refine tr1 rfl (aE (v := .d (.lit (.int .i64 ((w64 (t73_2_30 + 1)))))) (aA rfl) rfl rfl) ?_
      refine aF ?_
      exact ⟨(w64 (t73_2_30 + 1), o23_2_30, bs31, ck32), h, bD [0, 1, 2, 3] rfl rfl (aT rfl (bC ⟨rfl, rfl, rfl, rfl, trivial⟩))⟩
    ·have h := eO c34 h
     refine dA ?_
     refine .inl ⟨rfl, ?_⟩
     simp only [mO] at h
     refine aG ?_
     refine aG ?_
     refine aC ?_
     refine tr1 rfl (aE (v := .d (.lit (.map (some r7)))) (aA rfl) rfl rfl) ?_
     refine bW rfl (aFh (m := 3) (aA rfl) Try.underlying124 rfl rfl) ?_
     rintro _ ⟨q42, h44, rfl⟩
     have h := wZ h h44
     refine aF ?_
     refine cE ?_
     refine oK [6, 86] (fun (s45 : (List (aB × Int)) × (List Nat) × Nat × (List Nat)) => []) (fun (s45 : (List (aB × Int)) × (List Nat) × Nat × (List Nat)) => [.arr (X2 3).v 3 1 (r26.2.1.map aP), .map (X2 4).b (s45.1.map fun p : aB × Int => ((fun a : aB => Value.agg ((aH a).map bH).toArray) p.1, (fun v : Int => AV.d (.lit (.int .i64 v))) p.2)) s45.2.1 s45.2.2.1, .box b5 0 [.lit (.int .i64 t_0.Rounds), .sl 1 (t_0.Slots.map aP), .lit (X2 3).v, .lit (.map (some (X2 4).b))], .map r7 (o27_0_8.map fun p : aB × aD => ((fun a : aB => Value.agg ((aH a).map bH).toArray) p.1, (fun v : aD => AV.agg (aK v)) p.2)) bs11 ck12, .iter q42 r7 ck12 s45.2.2.2 ck12]) (fun (k : Nat) (s45 : (List (aB × Int)) × (List Nat) × Nat × (List Nat)) => iE Q r26.2.1 t_0 o27_0_8 k s45.1 (kK o27_0_8 bs11 s45.2.2.2)) (fun _ h => h) (o23_2_30, bs31, ck32, []) h (bD [0, 1, 2, 3, 4] rfl rfl (bC ⟨rfl, rfl, trivial⟩)) ?_
     rintro k49 ⟨o23_4_45, bs46, ck47, seen48⟩ h
     simp only [iE] at h
     refine aG ?_
     refine aC ?_
     refine bW rfl (aIe (kv := (fun a : aB => Value.agg ((aH a).map bH).toArray)) (av := (fun v : aD => AV.agg (aK v))) (l := o27_0_8) (mi := 4) (mm := 3) (aA rfl) rfl rfl rfl) ?_
     rintro _ (⟨h54, rfl⟩ | ⟨j51, b52, p50, h53, rfl⟩)
     ·have h := h.1 h54
      refine tr1 rfl (bS (aA rfl) rfl rfl) ?_
      refine aF ?_
      refine aG ?_
      refine bR rfl (fun c55 => ?_) (fun c55 => ?_)
      ·exact absurd c55 (by decide)
      ·refine dA ?_
       refine .inl ⟨rfl, ?_⟩
       simp only [pB] at h
       refine aG ?_
       refine aC ?_
       refine tr1 rfl (aE (v := .bp b5 0 0) (aA rfl) rfl rfl) ?_
       refine tr1 rfl (aJ (v := .bp b5 0 0) (aA rfl) rfl rfl) ?_
       refine tr1 rfl (aJ (v := .d (.lit (.bool true))) (aA rfl) rfl rfl) ?_
       refine aF ?_
       exact bK ⟨rfl, _, [], [.arr (X2 3).v 3 1 (r26.2.1.map aP), .map (X2 4).b (o23_4_45.map fun p : aB × Int => ((fun a : aB => Value.agg ((aH a).map bH).toArray) p.1, (fun v : Int => AV.d (.lit (.int .i64 v))) p.2)) bs46 ck47, .box b5 0 [.lit (.int .i64 t_0.Rounds), .sl 1 (t_0.Slots.map aP), .lit (X2 3).v, .lit (.map (some (X2 4).b))], .map r7 (o27_0_8.map fun p : aB × aD => ((fun a : aB => Value.agg ((aH a).map bH).toArray) p.1, (fun v : aD => AV.agg (aK v)) p.2)) bs11 ck12, .iter q42 r7 ck12 seen48 ck12], _, .two (.tmp 4 (v := .bp b5 0 0) rfl) (.tmp 5 (v := .d (.lit (.bool true))) rfl), .refl _, sT (.cons ((aKf 2 rfl rfl (dvc (.same _) (dvc (.same _) (dvc (lC 0 rfl (dI (f := aP) fun _ => rfl)) (dvc (aMi (kv := (fun a : aB => Value.agg ((aH a).map bH).toArray)) (av := (fun v : Int => AV.d (.lit (.int .i64 v)))) (l := o23_4_45) (enc := aP) (agg := false) 1 rfl (fun _ _ => rfl) (fun _ => rfl)) dvn)))))) (.cons (.same _) .nil)), ((some (aZ.mk t_0 r26.2.1 o23_4_45)), true), h, rfl, rfl⟩
     ·have h := yH h h53
      refine tr1 rfl (bS (aA rfl) rfl rfl) ?_
      refine aF ?_
      refine aG ?_
      refine bR rfl (fun c72 => ?_) (fun c72 => ?_)
      ·refine bL ?_
       refine cE ?_
       refine aG ?_
       refine aC ?_
       refine tr1 rfl (aFg (kv := (fun a : aB => Value.agg ((aH a).map bH).toArray)) (av := (fun v : aD => AV.agg (aK v))) (l := o27_0_8) (mi := 4) (mm := 3) (ka := .agg (aH p50.1)) (aA rfl) rfl rfl rfl h53 (fun _ _ => .agg (wV rfl))) ?_
       refine tr1 rfl (bS (aA rfl) rfl rfl) ?_
       refine tr1 rfl (bS (aA rfl) rfl rfl) ?_
       refine bW rfl (eC (zs := [.lit (.int .i64 0), .lit (.int .i64 0)]) (aA rfl) Try.zeroValue70 rfl rfl) ?_
       rintro _ ⟨b56, rfl⟩
       refine bW rfl (eC (zs := [.lit (.int .i64 0), .lit (.int .i64 0), .lit (.int .i64 0), .lit (.int .i64 0), .lit (.int .i64 0)]) (aA rfl) Try.zeroValue32 rfl rfl) ?_
       rintro _ ⟨b57, rfl⟩
       refine tr1 rfl (cH (i := 5) rfl rfl rfl rfl rfl Try.sizeOf70 rfl (aA rfl) (Nat.le_of_ble_eq_true rfl) (ds' := (aH p50.1)) rfl) ?_
       refine tr1 rfl (cH (i := 6) rfl rfl rfl rfl rfl Try.sizeOf32 rfl (aA rfl) (Nat.le_of_ble_eq_true rfl) (ds' := (aK p50.2)) rfl) ?_
       refine aF ?_
       refine aG ?_
       refine eE mix 6 [6, 16, 86] [(95, .d (.lit (X2 3).v)), (97, .d (.lit (.int .i64 p50.2.Player)))] ?_ ?_
       ·refine ⟨[(92, 0, .bp b5 0 0), (93, 1, .bp b5 0 0), (94, 2, .bp b5 0 2), (95, 3, .d (.lit (X2 3).v)), (96, 4, .bp b57 0 3), (97, 5, .d (.lit (.int .i64 p50.2.Player)))], ?_, ?_⟩
        · exact ⟨by kernel_rfl, by kernel_rfl, by kernel_rfl, by kernel_rfl, by kernel_rfl, [([], []), ([0], []), ([1], []), ([2], []), ([], []), ([4], [])], by kernel_rfl, ⟨fun S hS => aL rfl (aU rfl (aE (v := .bp b5 0 0) (aA rfl) (aM hS rfl) rfl)),
      fun S hS => aL rfl (aU rfl (jW (aA rfl) (aM hS rfl))),
      fun S hS => aL rfl (aU rfl (aS (aA rfl) (aM hS rfl) kM)),
      fun S hS => aL rfl (aU rfl (aV (aA rfl) (aM hS rfl) (i := 2) rfl rfl dD)),
      fun S hS => aL rfl (aU rfl (aS (aA rfl) (aM hS rfl) lD)),
      fun S hS => aL rfl (aU rfl (aV (aA rfl) (aM hS rfl) (i := 6) rfl rfl bG)), trivial⟩⟩
        · exact dM (aT rfl (aT rfl (bC ⟨rfl, rfl, rfl, trivial⟩)))
       ·obtain ⟨r58, h59, h⟩ := dE h
        refine tr1 rfl (cP (aA rfl) (.func _ _ Try.call73) rfl rfl (.cons (.d (lC 0 rfl (dI (f := aP) fun _ => rfl))) (.cons (.same _) .nil)) (oJ _ _ h59) rfl) ?_
        refine tr1 rfl (aJ (v := .d (.lit (.int .i64 r58))) (aA rfl) rfl rfl) ?_
        refine aF ?_
        refine aG ?_
        obtain ⟨b60, h61, h⟩ := dE h
        refine bE (b60) (fun c65 => ?_) (fun c65 => ?_)
        ·have h := eP c65 h
         refine eE mix 15 [6, 86] [(109, .d (.lit (.bool b60)))] ?_ ?_
         ·refine bE (decide (r58 < 0)) (fun c62 => ?_) (fun c62 => ?_)
          ·have h61 := aY c62 h61
           have h61 := Option.some.inj h61
           subst h61
           refine ⟨[(99, 0, .d (.lit (.int .i64 r58))), (100, 1, .d (.lit (.bool ((decide (r58 < 0)))))), (101, 2, .d (.lit (.bool ((decide (r58 < 0)))))), (102, 3, .tup []), (103, 4, .tup []), (104, 5, .tup []), (105, 6, .tup []), (106, 7, .tup []), (107, 8, .tup []), (108, 9, .d (.lit (.bool true))), (109, 10, .d (.lit (.bool (true)))), (110, 11, .tup []), (111, 12, .tup []), (112, 13, .tup []), (113, 14, .tup [])], ?_, ?_⟩
           · exact ⟨by kernel_rfl, by kernel_rfl, by kernel_rfl, by kernel_rfl, by kernel_rfl, [([], []), ([0], []), ([1], []), ([2], []), ([2, 3], []), ([2], []), ([2, 4, 5], []), ([2], []), ([2, 6, 7], []), ([2, 8], []), ([9], []), ([10], []), ([10], []), ([10], []), ([10, 13], [])], by kernel_rfl, ⟨fun S hS => aL rfl (aU rfl (aE (v := .d (.lit (.int .i64 r58))) (aA rfl) (aM hS rfl) rfl)),
      fun S hS => aL rfl (aU rfl (bF (aA rfl) (aM hS rfl) rfl rfl)),
      fun S hS => aL rfl (aU rfl (aE (v := .d (.lit (.bool ((decide (r58 < 0)))))) (aA rfl) (aM hS rfl) rfl)),
      fun S hS => aL rfl (bP rfl rfl (aA rfl) rfl (aA rfl) (bB hS rfl) c62),
      fun S hS => aL rfl (bP rfl rfl (aA rfl) rfl (aA rfl) (bB hS rfl) c62),
      fun S hS => aL rfl (bP rfl rfl (aA rfl) rfl (aA rfl) (bB hS rfl) c62),
      fun S hS => aL rfl (bP rfl rfl (aA rfl) rfl (aA rfl) (bB hS rfl) c62),
      fun S hS => aL rfl (bP rfl rfl (aA rfl) rfl (aA rfl) (bB hS rfl) c62),
      fun S hS => aL rfl (bP rfl rfl (aA rfl) rfl (aA rfl) (bB hS rfl) c62),
      fun S hS => aL rfl (aU rfl (bN (v := .d (.lit (.bool true))) (aA rfl) (aM hS rfl) c62 rfl rfl)),
      fun S hS => aL rfl (aU rfl (aE (v := .d (.lit (.bool (true)))) (aA rfl) (aM hS rfl) rfl)),
      fun S hS => aL rfl (bP rfl rfl (aA rfl) rfl (aA rfl) (bB hS rfl) c65),
      fun S hS => aL rfl (bP rfl rfl (aA rfl) rfl (aA rfl) (bB hS rfl) c65),
      fun S hS => aL rfl (bP rfl rfl (aA rfl) rfl (aA rfl) (bB hS rfl) c65),
      fun S hS => aL rfl (bP rfl rfl (aA rfl) rfl (aA rfl) (bB hS rfl) c65), trivial⟩⟩
           · exact dM (aT rfl (bC ⟨rfl, rfl, trivial⟩))
          ·have h61 := aX c62 h61
           obtain ⟨r63, h64, h61⟩ := bind_some h61
           have h61 := Option.some.inj h61
           subst h61
           refine ⟨[(99, 0, .d (.lit (.int .i64 r58))), (100, 1, .d (.lit (.bool ((decide (r58 < 0)))))), (101, 2, .d (.lit (.bool ((decide (r58 < 0)))))), (102, 3, .bp b56 0 0), (103, 4, .d (.lit (.int .i64 p50.1.round))), (104, 5, .d (.lit (.int .i64 r58))), (105, 6, .agg (aH r63)), (106, 7, .agg (aH p50.1)), (107, 8, .d (.lit (.bool ((!decide (r63 = p50.1)))))), (108, 9, .d (.lit (.bool ((!decide (r63 = p50.1)))))), (109, 10, .d (.lit (.bool (!decide (r63 = p50.1))))), (110, 11, .tup []), (111, 12, .tup []), (112, 13, .tup []), (113, 14, .tup [])], ?_, ?_⟩
           · exact ⟨by kernel_rfl, by kernel_rfl, by kernel_rfl, by kernel_rfl, by kernel_rfl, [([], []), ([0], []), ([1], []), ([2], []), ([2, 3], []), ([2], []), ([2, 4, 5], []), ([2], []), ([2, 6, 7], []), ([2, 8], []), ([9], []), ([10], []), ([10], []), ([10], []), ([10, 13], [])], by kernel_rfl, ⟨fun S hS => aL rfl (aU rfl (aE (v := .d (.lit (.int .i64 r58))) (aA rfl) (aM hS rfl) rfl)),
      fun S hS => aL rfl (aU rfl (bF (aA rfl) (aM hS rfl) rfl rfl)),
      fun S hS => aL rfl (aU rfl (aE (v := .d (.lit (.bool ((decide (r58 < 0)))))) (aA rfl) (aM hS rfl) rfl)),
      fun S hS => aL rfl (bQ rfl rfl (aA rfl) (bB hS rfl) c62 (aS (aA rfl) (aM hS rfl) mW)),
      fun S hS => aL rfl (bQ rfl rfl (aA rfl) (bB hS rfl) c62 (aV (aA rfl) (aM hS rfl) (i := 5) rfl rfl bG)),
      fun S hS => aL rfl (bQ rfl rfl (aA rfl) (bB hS rfl) c62 (aE (v := .d (.lit (.int .i64 r58))) (aA rfl) (aM hS rfl) rfl)),
      fun S hS => aL rfl (bQ rfl rfl (aA rfl) (bB hS rfl) c62 (iB (aA rfl) (.func _ _ Try.call45) (ev2 (aM hS rfl) (ev2 (aM hS rfl) evn)) rfl (lA _ _ h64))),
      fun S hS => aL rfl (bQ rfl rfl (aA rfl) (bB hS rfl) c62 (bO (aA rfl) (aM hS rfl) (i := 5) rfl jI (es := (aH p50.1)) rfl rfl)),
      fun S hS => aL rfl (bQ rfl rfl (aA rfl) (bB hS rfl) c62 (aGp (a := r63) (b := p50.1) (aA rfl) (aM hS rfl) (aM hS rfl) rfl rfl Try.eqGuardType70 wO)),
      fun S hS => aL rfl (aU rfl (bM (v := .d (.lit (.bool ((!decide (r63 = p50.1)))))) (aA rfl) (aM hS rfl) c62 (aM hS rfl) rfl)),
      fun S hS => aL rfl (aU rfl (aE (v := .d (.lit (.bool (!decide (r63 = p50.1))))) (aA rfl) (aM hS rfl) rfl)),
      fun S hS => aL rfl (bP rfl rfl (aA rfl) rfl (aA rfl) (bB hS rfl) c65),
      fun S hS => aL rfl (bP rfl rfl (aA rfl) rfl (aA rfl) (bB hS rfl) c65),
      fun S hS => aL rfl (bP rfl rfl (aA rfl) rfl (aA rfl) (bB hS rfl) c65),
      fun S hS => aL rfl (bP rfl rfl (aA rfl) rfl (aA rfl) (bB hS rfl) c65), trivial⟩⟩
           · exact dM (aT rfl (bC ⟨rfl, rfl, trivial⟩))
         ·refine aN rfl rfl (aA rfl) rfl (aA rfl) rfl c65 ?_
          refine aN rfl rfl (aA rfl) rfl (aA rfl) rfl c65 ?_
          refine tr1 rfl (bN (v := .d (.lit (.bool true))) (aA rfl) rfl c65 rfl rfl) ?_
          refine aF ?_
          refine bR rfl (fun c71 => ?_) (fun c71 => ?_)
          ·refine aG ?_
           refine aC ?_
           refine tr1 rfl (aJ (v := cL aW (none : Option aZ)) (aA rfl) rfl rfl) ?_
           refine tr1 rfl (aJ (v := .d (.lit (.bool false))) (aA rfl) rfl rfl) ?_
           refine aF ?_
           exact bK ⟨rfl, _, [], [.arr (X2 3).v 3 1 (r26.2.1.map aP), .map (X2 4).b (o23_4_45.map fun p : aB × Int => ((fun a : aB => Value.agg ((aH a).map bH).toArray) p.1, (fun v : Int => AV.d (.lit (.int .i64 v))) p.2)) bs46 ck47, .box b5 0 [.lit (.int .i64 t_0.Rounds), .sl 1 (t_0.Slots.map aP), .lit (X2 3).v, .lit (.map (some (X2 4).b))], .map r7 (o27_0_8.map fun p : aB × aD => ((fun a : aB => Value.agg ((aH a).map bH).toArray) p.1, (fun v : aD => AV.agg (aK v)) p.2)) bs11 ck12, .iter q42 r7 ck12 (seen48 ++ [b52]) ck12, .box b56 0 (aH p50.1), .box b57 0 (aK p50.2)], _, .two (.tmp 4 (v := cL aW (none : Option aZ)) rfl) (.tmp 5 (v := .d (.lit (.bool false))) rfl), .refl _, .same _, ((none : Option aZ), false), h, rfl, rfl⟩
          ·exact absurd c71 (by decide)
        ·have h := eO c65 h
         refine eE mix 15 [6, 86] [(109, .d (.lit (.bool b60))), (110, .bp b5 0 0), (111, .d (.lit (.int .i64 r58))), (112, .bp b56 0 0), (113, .d (.lit (.int .i64 p50.1.round)))] ?_ ?_
         ·refine bE (decide (r58 < 0)) (fun c62 => ?_) (fun c62 => ?_)
          ·have h61 := aY c62 h61
           have h61 := Option.some.inj h61
           subst h61
           refine ⟨[(99, 0, .d (.lit (.int .i64 r58))), (100, 1, .d (.lit (.bool ((decide (r58 < 0)))))), (101, 2, .d (.lit (.bool ((decide (r58 < 0)))))), (102, 3, .tup []), (103, 4, .tup []), (104, 5, .tup []), (105, 6, .tup []), (106, 7, .tup []), (107, 8, .tup []), (108, 9, .d (.lit (.bool true))), (109, 10, .d (.lit (.bool (true)))), (110, 11, .bp b5 0 0), (111, 12, .d (.lit (.int .i64 r58))), (112, 13, .bp b56 0 0), (113, 14, .d (.lit (.int .i64 p50.1.round)))], ?_, ?_⟩
           · exact ⟨by kernel_rfl, by kernel_rfl, by kernel_rfl, by kernel_rfl, by kernel_rfl, [([], []), ([0], []), ([1], []), ([2], []), ([2, 3], []), ([2], []), ([2, 4, 5], []), ([2], []), ([2, 6, 7], []), ([2, 8], []), ([9], []), ([10], []), ([10], []), ([10], []), ([10, 13], [])], by kernel_rfl, ⟨fun S hS => aL rfl (aU rfl (aE (v := .d (.lit (.int .i64 r58))) (aA rfl) (aM hS rfl) rfl)),
      fun S hS => aL rfl (aU rfl (bF (aA rfl) (aM hS rfl) rfl rfl)),
      fun S hS => aL rfl (aU rfl (aE (v := .d (.lit (.bool ((decide (r58 < 0)))))) (aA rfl) (aM hS rfl) rfl)),
      fun S hS => aL rfl (bP rfl rfl (aA rfl) rfl (aA rfl) (bB hS rfl) c62),
      fun S hS => aL rfl (bP rfl rfl (aA rfl) rfl (aA rfl) (bB hS rfl) c62),
      fun S hS => aL rfl (bP rfl rfl (aA rfl) rfl (aA rfl) (bB hS rfl) c62),
      fun S hS => aL rfl (bP rfl rfl (aA rfl) rfl (aA rfl) (bB hS rfl) c62),
      fun S hS => aL rfl (bP rfl rfl (aA rfl) rfl (aA rfl) (bB hS rfl) c62),
      fun S hS => aL rfl (bP rfl rfl (aA rfl) rfl (aA rfl) (bB hS rfl) c62),
      fun S hS => aL rfl (aU rfl (bN (v := .d (.lit (.bool true))) (aA rfl) (aM hS rfl) c62 rfl rfl)),
      fun S hS => aL rfl (aU rfl (aE (v := .d (.lit (.bool (true)))) (aA rfl) (aM hS rfl) rfl)),
      fun S hS => aL rfl (bQ rfl rfl (aA rfl) (bB hS rfl) c65 (aE (v := .bp b5 0 0) (aA rfl) (aM hS rfl) rfl)),
      fun S hS => aL rfl (bQ rfl rfl (aA rfl) (bB hS rfl) c65 (aE (v := .d (.lit (.int .i64 r58))) (aA rfl) (aM hS rfl) rfl)),
      fun S hS => aL rfl (bQ rfl rfl (aA rfl) (bB hS rfl) c65 (aS (aA rfl) (aM hS rfl) mW)),
      fun S hS => aL rfl (bQ rfl rfl (aA rfl) (bB hS rfl) c65 (aV (aA rfl) (aM hS rfl) (i := 5) rfl rfl bG)), trivial⟩⟩
           · exact dM (aT rfl (aT rfl (aT rfl (aT rfl (aT rfl (bC ⟨rfl, rfl, trivial⟩))))))
          ·have h61 := aX c62 h61
           obtain ⟨r63, h64, h61⟩ := bind_some h61
           have h61 := Option.some.inj h61
           subst h61
           refine ⟨[(99, 0, .d (.lit (.int .i64 r58))), (100, 1, .d (.lit (.bool ((decide (r58 < 0)))))), (101, 2, .d (.lit (.bool ((decide (r58 < 0)))))), (102, 3, .bp b56 0 0), (103, 4, .d (.lit (.int .i64 p50.1.round))), (104, 5, .d (.lit (.int .i64 r58))), (105, 6, .agg (aH r63)), (106, 7, .agg (aH p50.1)), (107, 8, .d (.lit (.bool ((!decide (r63 = p50.1)))))), (108, 9, .d (.lit (.bool ((!decide (r63 = p50.1)))))), (109, 10, .d (.lit (.bool (!decide (r63 = p50.1))))), (110, 11, .bp b5 0 0), (111, 12, .d (.lit (.int .i64 r58))), (112, 13, .bp b56 0 0), (113, 14, .d (.lit (.int .i64 p50.1.round)))], ?_, ?_⟩
           · exact ⟨by kernel_rfl, by kernel_rfl, by kernel_rfl, by kernel_rfl, by kernel_rfl, [([], []), ([0], []), ([1], []), ([2], []), ([2, 3], []), ([2], []), ([2, 4, 5], []), ([2], []), ([2, 6, 7], []), ([2, 8], []), ([9], []), ([10], []), ([10], []), ([10], []), ([10, 13], [])], by kernel_rfl, ⟨fun S hS => aL rfl (aU rfl (aE (v := .d (.lit (.int .i64 r58))) (aA rfl) (aM hS rfl) rfl)),
      fun S hS => aL rfl (aU rfl (bF (aA rfl) (aM hS rfl) rfl rfl)),
      fun S hS => aL rfl (aU rfl (aE (v := .d (.lit (.bool ((decide (r58 < 0)))))) (aA rfl) (aM hS rfl) rfl)),
      fun S hS => aL rfl (bQ rfl rfl (aA rfl) (bB hS rfl) c62 (aS (aA rfl) (aM hS rfl) mW)),
      fun S hS => aL rfl (bQ rfl rfl (aA rfl) (bB hS rfl) c62 (aV (aA rfl) (aM hS rfl) (i := 5) rfl rfl bG)),
      fun S hS => aL rfl (bQ rfl rfl (aA rfl) (bB hS rfl) c62 (aE (v := .d (.lit (.int .i64 r58))) (aA rfl) (aM hS rfl) rfl)),
      fun S hS => aL rfl (bQ rfl rfl (aA rfl) (bB hS rfl) c62 (iB (aA rfl) (.func _ _ Try.call45) (ev2 (aM hS rfl) (ev2 (aM hS rfl) evn)) rfl (lA _ _ h64))),
      fun S hS => aL rfl (bQ rfl rfl (aA rfl) (bB hS rfl) c62 (bO (aA rfl) (aM hS rfl) (i := 5) rfl jI (es := (aH p50.1)) rfl rfl)),
      fun S hS => aL rfl (bQ rfl rfl (aA rfl) (bB hS rfl) c62 (aGp (a := r63) (b := p50.1) (aA rfl) (aM hS rfl) (aM hS rfl) rfl rfl Try.eqGuardType70 wO)),
      fun S hS => aL rfl (aU rfl (bM (v := .d (.lit (.bool ((!decide (r63 = p50.1)))))) (aA rfl) (aM hS rfl) c62 (aM hS rfl) rfl)),
      fun S hS => aL rfl (aU rfl (aE (v := .d (.lit (.bool (!decide (r63 = p50.1))))) (aA rfl) (aM hS rfl) rfl)),
      fun S hS => aL rfl (bQ rfl rfl (aA rfl) (bB hS rfl) c65 (aE (v := .bp b5 0 0) (aA rfl) (aM hS rfl) rfl)),
      fun S hS => aL rfl (bQ rfl rfl (aA rfl) (bB hS rfl) c65 (aE (v := .d (.lit (.int .i64 r58))) (aA rfl) (aM hS rfl) rfl)),
      fun S hS => aL rfl (bQ rfl rfl (aA rfl) (bB hS rfl) c65 (aS (aA rfl) (aM hS rfl) mW)),
      fun S hS => aL rfl (bQ rfl rfl (aA rfl) (bB hS rfl) c65 (aV (aA rfl) (aM hS rfl) (i := 5) rfl rfl bG)), trivial⟩⟩
           · exact dM (aT rfl (aT rfl (aT rfl (aT rfl (aT rfl (bC ⟨rfl, rfl, trivial⟩))))))
         ·obtain ⟨r66, h67, h⟩ := dE h
          refine jS (bD [2, 0, 1, 3, 4, 5, 6] rfl rfl (le_refl _)) ?_
          refine aFk rfl rfl (aA rfl) rfl c65 (qZ (passed := [.box b5 0 [.lit (.int .i64 t_0.Rounds), .sl 1 (t_0.Slots.map aP), .lit (X2 3).v, .lit (.map (some (X2 4).b))], .arr (X2 3).v 3 1 (r26.2.1.map aP), .map (X2 4).b (o23_4_45.map fun p : aB × Int => ((fun a : aB => Value.agg ((aH a).map bH).toArray) p.1, (fun v : Int => AV.d (.lit (.int .i64 v))) p.2)) bs46 ck47]) (aA rfl) rfl (.func _ _ Try.call91) rfl rfl (qJ t_0 r26.2.1 o23_4_45 r58 p50.1.round h67)) ?_
          rintro _ ⟨_, _, ⟨bs68, ck69, rfl, rfl⟩, rfl⟩
          refine aI rfl rfl (aA rfl) rfl c65 (gL (aA rfl) rfl) ?_
          refine tr1 rfl (bM (v := .d (.lit (.bool (!r66.1)))) (aA rfl) rfl c65 rfl rfl) ?_
          refine aF ?_
          refine bR rfl (fun c70 => ?_) (fun c70 => ?_)
          ·have h := eP c70 h
           refine aG ?_
           refine aC ?_
           refine tr1 rfl (aJ (v := cL aW (none : Option aZ)) (aA rfl) rfl rfl) ?_
           refine tr1 rfl (aJ (v := .d (.lit (.bool false))) (aA rfl) rfl rfl) ?_
           refine aF ?_
           exact bK ⟨rfl, _, [], [.box b5 0 [.lit (.int .i64 t_0.Rounds), .sl 1 (t_0.Slots.map aP), .lit (X2 3).v, .lit (.map (some (X2 4).b))], .arr (X2 3).v 3 1 (r26.2.1.map aP), .map (X2 4).b (r66.2.map fun p : aB × Int => ((fun a : aB => Value.agg ((aH a).map bH).toArray) p.1, (fun v : Int => AV.d (.lit (.int .i64 v))) p.2)) bs68 ck69, .map r7 (o27_0_8.map fun p : aB × aD => ((fun a : aB => Value.agg ((aH a).map bH).toArray) p.1, (fun v : aD => AV.agg (aK v)) p.2)) bs11 ck12, .iter q42 r7 ck12 (seen48 ++ [b52]) ck12, .box b56 0 (aH p50.1), .box b57 0 (aK p50.2)], _, .two (.tmp 4 (v := cL aW (none : Option aZ)) rfl) (.tmp 5 (v := .d (.lit (.bool false))) rfl), .refl _, .same _, ((none : Option aZ), false), h, rfl, rfl⟩
          ·have h := eO c70 h
           refine eL ?_
           exact ⟨(r66.2, bs68, ck69, (seen48 ++ [b52])), h, bD [1, 2, 0, 3, 4] rfl rfl (bC ⟨rfl, rfl, trivial⟩)⟩
      ·exact absurd c72 (by decide)

theorem mC (t_0 : aO) (l_1 : List aD) {Q : ((Option aZ) × Int) → Prop} (h : gM t_0 l_1 Q) : eS Try.prog 48 [.agg (aR t_0), .d (.sl 5 (l_1.map aK))] [] (fun r' o' => ∃ (r : (Option aZ) × Int), Q r ∧ r' = .tup [cL aW r.1, .d (.lit (.int .i64 r.2))] ∧ o' = []) := by
 unfold gM at h
 refine fO Try.func48 rfl (rs := [.tmp 4, .tmp 5]) Try.results48 Try.ntmps48 (Nat.le_of_ble_eq_true rfl) ?_
 refine aG ?_
 refine aC ?_
 refine bW rfl (fU (v := .agg (aR t_0)) (aA rfl) rfl rfl rfl) ?_
 rintro _ ⟨b1, rfl⟩
 refine tr1 rfl (aJ (v := cL aW (none : Option aZ)) (aA rfl) rfl rfl) ?_
 refine tr1 rfl (aJ (v := .d (.lit (.int .i64 0))) (aA rfl) rfl rfl) ?_
 refine aF ?_
 refine aG ?_
 refine aG ?_
 refine aC ?_
 refine tr1 rfl (bO (aA rfl) rfl (i := 0) rfl dY (es := (aR t_0)) rfl rfl) ?_
 obtain ⟨r2, h3, h⟩ := dE h
 refine tr1 rfl (cP (aA rfl) (.func _ _ Try.call67) rfl rfl (BVs.refl _ _) (yP _ h3) rfl) ?_
 refine tr1 rfl (gL (aA rfl) rfl) ?_
 refine aF ?_
 refine bR rfl (fun c4 => ?_) (fun c4 => ?_)
 ·have h := eP c4 h
  refine aG ?_
  refine aC ?_
  refine tr1 rfl (aJ (v := cL aW (none : Option aZ)) (aA rfl) rfl rfl) ?_
  refine tr1 rfl (aJ (v := .d (.lit (.int .i64 70))) (aA rfl) rfl rfl) ?_
  refine aF ?_
  exact bK ⟨rfl, _, [], [.box b1 0 (aR t_0)], _, .two (.tmp 4 (v := cL aW (none : Option aZ)) rfl) (.tmp 5 (v := .d (.lit (.int .i64 70))) rfl), .refl _, .same _, ((none : Option aZ), 70), h, rfl, rfl⟩
 ·have h := eO c4 h
  refine bL ?_
  refine aG ?_
  refine aG ?_
  refine aC ?_
  refine tr1 rfl (aE (v := .d (.sl 5 (l_1.map aK))) (aA rfl) rfl rfl) ?_
  refine tr1 rfl (eG (aA rfl) rfl eN.of) ?_
  refine tr1 rfl (bF (aA rfl) rfl rfl rfl) ?_
  refine tr1 rfl (aE (v := .d (.lit (.bool ((decide (60 < (l_1.length : Int))))))) (aA rfl) rfl rfl) ?_
  obtain ⟨b5, h6, h⟩ := dE h
  refine cA 4 [1, 2] 18 b5 ?_ ?_
  ·refine bE (decide (60 < (l_1.length : Int))) (fun c10 => ?_) (fun c10 => ?_)
   ·have h6 := aY c10 h6
    refine aN rfl rfl (aA rfl) rfl (aA rfl) rfl c10 ?_
    refine aN rfl rfl (aA rfl) rfl (aA rfl) rfl c10 ?_
    refine aN rfl rfl (aA rfl) rfl (aA rfl) rfl c10 ?_
    refine tr1 rfl (bN (v := .d (.lit (.bool true))) (aA rfl) rfl c10 rfl rfl) ?_
    have h6 := Option.some.inj h6
    subst h6
    refine aF (bA rfl ⟨rfl, rfl, trivial⟩ rfl)
   ·have h6 := aX c10 h6
    refine aI rfl rfl (aA rfl) rfl c10 (aE (v := .d (.sl 5 (l_1.map aK))) (aA rfl) rfl rfl) ?_
    refine aI rfl rfl (aA rfl) rfl c10 (aMa (aA rfl) rfl rfl) ?_
    obtain ⟨r12, h13, h6⟩ := bind_some h6
    refine aI rfl rfl (aA rfl) rfl c10 (cP (aA rfl) (.func _ _ Try.call68) rfl rfl (.cons (.same _) (.cons ((aMh (.cons ((aKf 0 rfl rfl (dvc (.same _) (dvc (.same _) dvn)))) .nil))) .nil)) (qE _ _ 69 [.cp [.lit (.int .i64 t_0.Rounds), .sl 1 (t_0.Slots.map aP)]] Try.call69 (fun _ _ h6 => yQ _ _ h6) h13) rfl) ?_
    refine tr1 rfl (bM (v := .d (.lit (.bool r12))) (aA rfl) rfl c10 rfl rfl) ?_
    have h6 := Option.some.inj h6
    subst h6
    refine aF (bA rfl ⟨rfl, rfl, trivial⟩ rfl)
  ·refine aF ?_
   refine bR rfl (fun c7 => ?_) (fun c7 => ?_)
   ·have h := eP c7 h
    refine aG ?_
    refine aC ?_
    refine tr1 rfl (aJ (v := cL aW (none : Option aZ)) (aA rfl) rfl rfl) ?_
    refine tr1 rfl (aJ (v := .d (.lit (.int .i64 71))) (aA rfl) rfl rfl) ?_
    refine aF ?_
    exact bK ⟨rfl, _, [], [.box b1 0 (aR t_0)], _, .two (.tmp 4 (v := cL aW (none : Option aZ)) rfl) (.tmp 5 (v := .d (.lit (.int .i64 71))) rfl), .refl _, .same _, ((none : Option aZ), 71), h, rfl, rfl⟩
   ·have h := eO c7 h
    refine bL ?_
    refine aG ?_
    refine aC ?_
    refine tr1 rfl (bO (aA rfl) rfl (i := 0) rfl dY (es := (aR t_0)) rfl rfl) ?_
    refine tr1 rfl (aE (v := .d (.sl 5 (l_1.map aK))) (aA rfl) rfl rfl) ?_
    refine bW rfl (nH (aA rfl) (.func _ _ Try.call71) rfl rfl (zR _ _ h)) ?_
    rintro _ ⟨_, _, ⟨r8, h, rfl, rfl⟩, rfl⟩
    refine tr1 rfl (aE (v := .tup [cL aW r8.1, .d (.lit (.bool r8.2))]) (aA rfl) rfl rfl) ?_
    refine tr1 rfl (bS (aA rfl) rfl rfl) ?_
    refine tr1 rfl (bS (aA rfl) rfl rfl) ?_
    refine tr1 rfl (aJ (v := cL aW r8.1) (aA rfl) rfl rfl) ?_
    refine tr1 rfl (aJ (v := .d (.lit (.bool r8.2))) (aA rfl) rfl rfl) ?_
    refine aF ?_
    refine aG ?_
    refine aG ?_
    refine aC ?_
    refine tr1 rfl (aE (v := .d (.lit (.bool r8.2))) (aA rfl) rfl rfl) ?_
    refine tr1 rfl (gL (aA rfl) rfl) ?_
    refine aF ?_
    refine bR rfl (fun c9 => ?_) (fun c9 => ?_)
    ·have h := eP c9 h
     refine aG ?_
     refine aC ?_
     refine tr1 rfl (aJ (v := cL aW (none : Option aZ)) (aA rfl) rfl rfl) ?_
     refine tr1 rfl (aJ (v := .d (.lit (.int .i64 72))) (aA rfl) rfl rfl) ?_
     refine aF ?_
     exact bK ⟨rfl, _, [], [.box b1 0 (aR t_0)], _, .two (.tmp 4 (v := cL aW (none : Option aZ)) rfl) (.tmp 5 (v := .d (.lit (.int .i64 72))) rfl), .refl _, .same _, ((none : Option aZ), 72), h, rfl, rfl⟩
    ·have h := eO c9 h
     refine bL ?_
     refine aG ?_
     refine aC ?_
     refine tr1 rfl (aE (v := cL aW r8.1) (aA rfl) rfl rfl) ?_
     refine tr1 rfl (aJ (v := cL aW r8.1) (aA rfl) rfl rfl) ?_
     refine tr1 rfl (aJ (v := .d (.lit (.int .i64 0))) (aA rfl) rfl rfl) ?_
     refine aF ?_
     exact bK ⟨rfl, _, [], [.box b1 0 (aR t_0)], _, .two (.tmp 4 (v := cL aW r8.1) rfl) (.tmp 5 (v := .d (.lit (.int .i64 0))) rfl), .refl _, .same _, (r8.1, 0), h, rfl, rfl⟩

end Go.Am
