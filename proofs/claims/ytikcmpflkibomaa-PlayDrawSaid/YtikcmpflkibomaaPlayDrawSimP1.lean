/- The functions compute what the shallow ones say: printed by program. -/
import Derived.Test.YtikcmpflkibomaaJobsSh
import Derived.Test.YtikcmpflkibomaaAmFam2
import Derived.Test.YtikcmpflkibomaaAmRange
import Derived.Test.YtikcmpflkibomaaBrDet
import Derived.Test.YtikcmpflkibomaaChecked
import Derived.KernelRfl
namespace Go.Am
open Go.Proofs
set_option maxRecDepth 100000
set_option maxHeartbeats 4000000

theorem mix : Try.prog.follows .mixedOrders = true := Checked.mixed Try.checked

theorem mQ : dP Try.prog 66 1 1 := cY Try.runUnderlying66 rfl rfl Try.sizeOf27
theorem eI : oA Try.prog 27 := ⟨Try.isAgg27, Try.sizeOf27⟩
theorem dV : SliceTy Try.prog 27 3 1 8 (.int .i64 0) := ⟨Try.underlying27, ⟨Try.t3, by kernel_rfl, rfl, rfl, rfl⟩, rfl, by decide⟩
theorem vN : SliceTy Try.prog 67 141 5 40 (.agg #[.int .i64 0, .int .i64 0, .int .i64 0, .int .i64 0, .int .i64 0]) := ⟨Try.underlying67, ⟨Try.t141, by kernel_rfl, rfl, rfl, rfl⟩, rfl, by decide⟩
theorem mW : SliceTy Try.prog 68 78 3 24 (.agg #[.int .i64 0, .int .i64 0, .int .i64 0]) := ⟨Try.underlying68, ⟨Try.t78, by kernel_rfl, rfl, rfl, rfl⟩, rfl, by decide⟩
theorem kQ : lQ Try.prog 66 2 := ⟨Try.isAgg66, Try.sizeOf66⟩
theorem oI : SliceTy Try.prog 69 73 4 32 (.agg #[.int .i64 0, .int .i64 0, .int .i64 0, .int .i64 0]) := ⟨Try.underlying69, ⟨Try.t73, by kernel_rfl, rfl, rfl, rfl⟩, rfl, by decide⟩
theorem yN : lQ Try.prog 73 4 := ⟨Try.isAgg73, Try.sizeOf73⟩
theorem gL : lQ Try.prog 25 3 := ⟨Try.isAgg25, Try.sizeOf25⟩
theorem kC : SliceTy Try.prog 37 34 2 16 (.agg #[.int .i64 0, .int .i64 0]) := ⟨Try.underlying37, ⟨Try.t34, by kernel_rfl, rfl, rfl, rfl⟩, rfl, by decide⟩
theorem gM : lQ Try.prog 34 2 := ⟨Try.isAgg34, Try.sizeOf34⟩
theorem pG : kO Try.prog 34 (.agg #[.int .i64 0, .int .i64 0]) [(0, 1), (1, 1)] := ⟨Try.zeroValue34, _, Try.runUnderlying34, fun w => by simp [Try.sizeOf3]⟩
theorem wC : yI Try.prog 34 bA := by
  rintro ⟨a0, a1⟩ ⟨b0, b1⟩ w
  simp [bA, bW, go_sem, Op.eqFields, Program.fieldsOf] <;> (repeat' split) <;> simp_all
theorem oX : SliceTy Try.prog 22 37 1 24 (.slice none 0 0) := ⟨Try.underlying22, ⟨Try.t37, by kernel_rfl, rfl, rfl, rfl⟩, rfl, by decide⟩
theorem aDf : kO Try.prog 36 (.agg #[.int .i64 0, .int .i64 0, .slice none 0 0, .slice none 0 0, .int .i64 0, .int .i64 0]) [(0, 2), (2, 1), (3, 1), (4, 1), (5, 1)] := ⟨Try.zeroValue36, _, Try.runUnderlying36, fun w => by simp [Try.sizeOf27, Try.sizeOf3, Try.sizeOf34]⟩
theorem eE : SliceTy Try.prog 23 36 6 80 (.agg #[.int .i64 0, .int .i64 0, .slice none 0 0, .slice none 0 0, .int .i64 0, .int .i64 0]) := ⟨Try.underlying23, ⟨Try.t36, by kernel_rfl, rfl, rfl, rfl⟩, rfl, by decide⟩
theorem aNs : kO Try.prog 25 (.agg #[.slice none 0 0, .int .i64 0, .slice none 0 0]) [(0, 1), (1, 1), (2, 1)] := ⟨Try.zeroValue25, _, Try.runUnderlying25, fun w => by simp [Try.sizeOf22, Try.sizeOf23, Try.sizeOf3]⟩
theorem aAb : kO Try.prog 45 (.agg #[.int .i64 0, .int .i64 0, .int .i64 0]) [(0, 1), (1, 1), (2, 1)] := ⟨Try.zeroValue45, _, Try.runUnderlying45, fun w => by simp [Try.sizeOf3]⟩
theorem oH : SliceTy Try.prog 26 45 3 24 (.agg #[.int .i64 0, .int .i64 0, .int .i64 0]) := ⟨Try.underlying26, ⟨Try.t45, by kernel_rfl, rfl, rfl, rfl⟩, rfl, by decide⟩
theorem lD : lQ Try.prog 45 3 := ⟨Try.isAgg45, Try.sizeOf45⟩
theorem fU : dP Try.prog 45 0 0 := cY Try.runUnderlying45 rfl rfl Try.sizeOf3
theorem bL : oA Try.prog 3 := ⟨Try.isAgg3, Try.sizeOf3⟩
theorem lF : dP Try.prog 25 0 0 := cY Try.runUnderlying25 rfl rfl Try.sizeOf22
theorem oS : oA Try.prog 22 := ⟨Try.isAgg22, Try.sizeOf22⟩
theorem lG : dP Try.prog 45 1 1 := cY Try.runUnderlying45 rfl rfl Try.sizeOf3
theorem uJ : oA Try.prog 37 := ⟨Try.isAgg37, Try.sizeOf37⟩
theorem wZ : dP Try.prog 45 2 2 := cY Try.runUnderlying45 rfl rfl Try.sizeOf3
theorem oQ : dP Try.prog 34 1 1 := cY Try.runUnderlying34 rfl rfl Try.sizeOf3
theorem aFn : dP Try.prog 25 1 1 := cY Try.runUnderlying25 rfl rfl Try.sizeOf3
theorem gB : dP Try.prog 25 2 2 := cY Try.runUnderlying25 rfl rfl Try.sizeOf23
theorem jH : oA Try.prog 23 := ⟨Try.isAgg23, Try.sizeOf23⟩
theorem yM : lQ Try.prog 36 6 := ⟨Try.isAgg36, Try.sizeOf36⟩
theorem mO : dP Try.prog 36 0 0 := cY Try.runUnderlying36 rfl rfl Try.sizeOf34
theorem mP : dP Try.prog 36 3 4 := cY Try.runUnderlying36 rfl rfl Try.sizeOf3
theorem uC : dP Try.prog 36 4 5 := cY Try.runUnderlying36 rfl rfl Try.sizeOf3
theorem nN : dP Try.prog 36 1 2 := cY Try.runUnderlying36 rfl rfl Try.sizeOf27
theorem uB : dP Try.prog 36 2 3 := cY Try.runUnderlying36 rfl rfl Try.sizeOf27
theorem wY : dP Try.prog 34 0 0 := cY Try.runUnderlying34 rfl rfl Try.sizeOf3
theorem yU : dP Try.prog 124 0 0 := cY Try.runUnderlying124 rfl rfl Try.sizeOf3
theorem aMz : kO Try.prog 124 (.agg #[.int .i64 0, .int .i64 0, .int .i64 0, .int .i64 0, .int .i64 0, .int .i64 0, .int .i64 0, .int .i64 0, .int .i64 0, .int .i64 0]) [(0, 1), (1, 3), (4, 6)] := ⟨Try.zeroValue124, _, Try.runUnderlying124, fun w => by simp [Try.sizeOf121, Try.sizeOf122, Try.sizeOf3]⟩
theorem yV : dP Try.prog 124 1 1 := cY Try.runUnderlying124 rfl rfl Try.sizeOf121
theorem aDg : aBs Try.prog 121 3 3 1 := ⟨Try.runUnderlying121, Try.sizeOf3⟩
theorem vZ : lQ Try.prog 124 10 := ⟨Try.isAgg124, Try.sizeOf124⟩
theorem aEd : dP Try.prog 124 2 4 := cY Try.runUnderlying124 rfl rfl Try.sizeOf122
theorem aMd : lQ Try.prog 122 6 := ⟨Try.isAgg122, Try.sizeOf122⟩
theorem aGz : aBs Try.prog 122 6 3 1 := ⟨Try.runUnderlying122, Try.sizeOf3⟩
theorem aNb : kO Try.prog 158 (.agg #[.slice none 0 0, .int .i64 0, .slice none 0 0, .int .i64 0, .slice none 0 0, .map none]) [(0, 3), (3, 1), (4, 1), (5, 1)] := ⟨Try.zeroValue158, _, Try.runUnderlying158, fun w => by simp [Try.sizeOf156, Try.sizeOf25, Try.sizeOf26, Try.sizeOf3]⟩
theorem aDs : kO Try.prog 161 (.agg #[.int .i64 0, .int .i64 0, .int .i64 0, .int .i64 0, .int .i64 0, .int .i64 0, .int .i64 0, .int .i64 0, .int .i64 0, .int .i64 0, .int .i64 0, .int .i64 0]) [(0, 10), (10, 1), (11, 1)] := ⟨Try.zeroValue161, _, Try.runUnderlying161, fun w => by simp [Try.sizeOf124, Try.sizeOf3]⟩
theorem vA : dP Try.prog 161 1 10 := cY Try.runUnderlying161 rfl rfl Try.sizeOf3
theorem oP : dP Try.prog 158 0 0 := cY Try.runUnderlying158 rfl rfl Try.sizeOf25
theorem aEe : dP Try.prog 158 3 5 := cY Try.runUnderlying158 rfl rfl Try.sizeOf156
theorem aHl : oA Try.prog 156 := ⟨Try.isAgg156, Try.sizeOf156⟩
theorem tN : lQ Try.prog 161 12 := ⟨Try.isAgg161, Try.sizeOf161⟩
theorem aMn (d : Nat) (xs ys : Array Value) (w : World) : (Op.equalIn (d + 1) 121 (.agg xs) (.agg ys)).run Try.prog w = (Op.eqItems d 3 1 xs ys [0, 1, 2]).run Try.prog w := run_equalIn_array w d xs ys Try.underlying121 (by kernel_rfl : Try.prog.info? 3 = some Try.t3)
theorem aMo (d : Nat) (xs ys : Array Value) (w : World) : (Op.equalIn (d + 1) 122 (.agg xs) (.agg ys)).run Try.prog w = (Op.eqItems d 3 1 xs ys [0, 1, 2, 3, 4, 5]).run Try.prog w := run_equalIn_array w d xs ys Try.underlying122 (by kernel_rfl : Try.prog.info? 3 = some Try.t3)
theorem aMp : yI Try.prog 161 bG := by
  rintro ⟨⟨a1, ⟨a2, a3, a4⟩, ⟨a5, a6, a7, a8, a9, a10⟩⟩, a11, a12⟩ ⟨⟨b1, ⟨b2, b3, b4⟩, ⟨b5, b6, b7, b8, b9, b10⟩⟩, b11, b12⟩ w
  rw [show (10000 : Nat) = 9990 + 10 from rfl]
  generalize (9990 : Nat) = m
  simp [bG, bW, go_sem, Op.eqFields, Program.fieldsOf, Op.eqItems, aMn, aMo] <;> (repeat' split) <;> simp_all
theorem aMi (b : Bool) (a : aS) (w : World) : (Instr.checkKey b 10000 161 (.agg ((bG a).map bW).toArray)).run Try.prog w = .ok () w := by
  obtain ⟨⟨a1, ⟨a2, a3, a4⟩, ⟨a5, a6, a7, a8, a9, a10⟩⟩, a11, a12⟩ := a
  rw [show (10000 : Nat) = 9990 + 10 from rfl]
  generalize (9990 : Nat) = m
  simp [Instr.checkKey, bG, bW, go_sem, Std.Legacy.Range.forIn_eq_forIn_range', Std.Legacy.Range.size, List.range']
theorem aDn : oB Try.prog 161 (fun a : aS => Value.agg ((bG a).map bW).toArray) :=
  uG Try.underlying161 aMp aMi (fun a w => aBi _ rfl _ _) (by
    rintro ⟨⟨a1, ⟨a2, a3, a4⟩, ⟨a5, a6, a7, a8, a9, a10⟩⟩, a11, a12⟩ ⟨⟨b1, ⟨b2, b3, b4⟩, ⟨b5, b6, b7, b8, b9, b10⟩⟩, b11, b12⟩ h
    simp [bG] at h ⊢
    simp_all) (fun _ => rfl)
theorem sM : dP Try.prog 161 0 0 := cY Try.runUnderlying161 rfl rfl Try.sizeOf124
theorem aJm : dP Try.prog 158 1 3 := cY Try.runUnderlying158 rfl rfl Try.sizeOf3
theorem vB : dP Try.prog 161 2 11 := cY Try.runUnderlying161 rfl rfl Try.sizeOf3
theorem yY : dP Try.prog 158 2 4 := cY Try.runUnderlying158 rfl rfl Try.sizeOf26
theorem aFu : oA Try.prog 26 := ⟨Try.isAgg26, Try.sizeOf26⟩
theorem aNl : yI Try.prog 45 aR := by
  rintro ⟨a0, a1, a2⟩ ⟨b0, b1, b2⟩ w
  simp [aR, bW, go_sem, Op.eqFields, Program.fieldsOf] <;> (repeat' split) <;> simp_all
theorem jG : dP Try.prog 66 0 0 := cY Try.runUnderlying66 rfl rfl Try.sizeOf3
theorem dW : dP Try.prog 73 0 0 := cY Try.runUnderlying73 rfl rfl Try.sizeOf3
theorem rO : dP Try.prog 73 1 1 := cY Try.runUnderlying73 rfl rfl Try.sizeOf3
theorem pO : dP Try.prog 78 0 0 := cY Try.runUnderlying78 rfl rfl Try.sizeOf34
theorem rP : dP Try.prog 78 1 2 := cY Try.runUnderlying78 rfl rfl Try.sizeOf3
theorem aKa : oA Try.prog 69 := ⟨Try.isAgg69, Try.sizeOf69⟩
theorem aIm : oB Try.prog 3 (fun n : Int => Value.int .i64 n) := aJp Try.underlying3
theorem lY : lQ Try.prog 141 5 := ⟨Try.isAgg141, Try.sizeOf141⟩
theorem sL : dP Try.prog 141 3 3 := cY Try.runUnderlying141 rfl rfl Try.sizeOf3
theorem yW : dP Try.prog 141 0 0 := cY Try.runUnderlying141 rfl rfl Try.sizeOf3
theorem uZ : dP Try.prog 141 1 1 := cY Try.runUnderlying141 rfl rfl Try.sizeOf3
theorem oO : dP Try.prog 141 2 2 := cY Try.runUnderlying141 rfl rfl Try.sizeOf3
theorem yX : dP Try.prog 141 4 4 := cY Try.runUnderlying141 rfl rfl Try.sizeOf3
theorem tP : kO Try.prog 112 (.agg #[.int .i64 0, .int .i64 0]) [(0, 1), (1, 1)] := ⟨Try.zeroValue112, _, Try.runUnderlying112, fun w => by simp [Try.sizeOf3]⟩
theorem iR : lQ Try.prog 112 2 := ⟨Try.isAgg112, Try.sizeOf112⟩
theorem mG : dP Try.prog 112 0 0 := cY Try.runUnderlying112 rfl rfl Try.sizeOf3
theorem aEc : dP Try.prog 112 1 1 := cY Try.runUnderlying112 rfl rfl Try.sizeOf3
theorem aMy : kO Try.prog 118 (.agg #[.int .i64 0, .slice none 0 0, .slice none 0 0, .map none]) [(0, 2), (2, 1), (3, 1)] := ⟨Try.zeroValue118, _, Try.runUnderlying118, fun w => by simp [Try.sizeOf116, Try.sizeOf27, Try.sizeOf66]⟩
theorem aHe : yI Try.prog 141 aY := by
  rintro ⟨a0, a1, a2, a3, a4⟩ ⟨b0, b1, b2, b3, b4⟩ w
  simp [aY, bW, go_sem, Op.eqFields, Program.fieldsOf] <;> (repeat' split) <;> simp_all
theorem aMh (b : Bool) (a : aJ) (w : World) : (Instr.checkKey b 10000 141 (.agg ((aY a).map bW).toArray)).run Try.prog w = .ok () w := by
  obtain ⟨a1, a2, a3, a4, a5⟩ := a
  rw [show (10000 : Nat) = 9990 + 10 from rfl]
  generalize (9990 : Nat) = m
  simp [Instr.checkKey, aY, bW, go_sem, Std.Legacy.Range.forIn_eq_forIn_range', Std.Legacy.Range.size]
theorem aDm : oB Try.prog 141 (fun a : aJ => Value.agg ((aY a).map bW).toArray) :=
  uG Try.underlying141 aHe aMh (fun a w => aBi _ rfl _ _) (by
    rintro ⟨a1, a2, a3, a4, a5⟩ ⟨b1, b2, b3, b4, b5⟩ h
    simp [aY] at h ⊢
    simp_all) (fun _ => rfl)
theorem aDk : yI Try.prog 112 aP := by
  rintro ⟨a0, a1⟩ ⟨b0, b1⟩ w
  simp [aP, bW, go_sem, Op.eqFields, Program.fieldsOf] <;> (repeat' split) <;> simp_all
theorem aMg (b : Bool) (a : aG) (w : World) : (Instr.checkKey b 10000 112 (.agg ((aP a).map bW).toArray)).run Try.prog w = .ok () w := by
  obtain ⟨a1, a2⟩ := a
  rw [show (10000 : Nat) = 9990 + 10 from rfl]
  generalize (9990 : Nat) = m
  simp [Instr.checkKey, aP, bW, go_sem, Std.Legacy.Range.forIn_eq_forIn_range', Std.Legacy.Range.size]
theorem tO : oB Try.prog 112 (fun a : aG => Value.agg ((aP a).map bW).toArray) :=
  uG Try.underlying112 aDk aMg (fun a w => aBi _ rfl _ _) (by
    rintro ⟨a1, a2⟩ ⟨b1, b2⟩ h
    simp [aP] at h ⊢
    simp_all) (fun _ => rfl)
theorem nF : dP Try.prog 118 1 2 := cY Try.runUnderlying118 rfl rfl Try.sizeOf27
theorem yT : dP Try.prog 118 0 0 := cY Try.runUnderlying118 rfl rfl Try.sizeOf66
theorem aNa : kO Try.prog 141 (.agg #[.int .i64 0, .int .i64 0, .int .i64 0, .int .i64 0, .int .i64 0]) [(0, 1), (1, 1), (2, 1), (3, 1), (4, 1)] := ⟨Try.zeroValue141, _, Try.runUnderlying141, fun w => by simp [Try.sizeOf3]⟩
theorem uY : dP Try.prog 118 2 3 := cY Try.runUnderlying118 rfl rfl Try.sizeOf116
theorem aAg : oA Try.prog 116 := ⟨Try.isAgg116, Try.sizeOf116⟩
theorem aNt : kO Try.prog 73 (.agg #[.int .i64 0, .int .i64 0, .int .i64 0, .int .i64 0]) [(0, 1), (1, 1), (2, 1), (3, 1)] := ⟨Try.zeroValue73, _, Try.runUnderlying73, fun w => by simp [Try.sizeOf3]⟩
theorem aNh : lQ Try.prog 78 3 := ⟨Try.isAgg78, Try.sizeOf78⟩
theorem wW {r : cP × (List bM)} (h : oK = some r) : Fn Try.prog 49 [] (.tup [.agg (bK r.1), .d (.sl 3 (r.2.map aR))]) := by
 unfold oK at h
 refine sY Try.func49 rfl (rs := [.cell 0 25, .tmp 1]) Try.results49 Try.ntmps49 (Nat.le_of_ble_eq_true rfl) ?_
 refine aH ?_
 refine aE ?_
 refine cI rfl (dM (zs := [.sl 1 ((([] : List (List bJ))).map bH), .lit (.int .i64 0), .sl 6 ((([] : List cS)).map aT)]) (aA rfl) Try.zeroValue25 rfl rfl) ?_
 rintro _ ⟨b1, rfl⟩
 refine tr1 rfl (kT 3 (aA rfl)) ?_
 refine aI ?_
 refine aH ?_
 refine aE ?_
 refine tr1 rfl (eD (aA rfl) pG (zs := [.lit (.int .i64 0), .lit (.int .i64 0)]) rfl rfl rfl rfl (es := [.lit (.int .i64 60), .lit (.int .i64 120)]) rfl) ?_
 refine tr1 rfl (eD (aA rfl) pG (zs := [.lit (.int .i64 0), .lit (.int .i64 0)]) rfl rfl rfl rfl (es := [.lit (.int .i64 60), .lit (.int .i64 100)]) rfl) ?_
 refine cI rfl (dM (zs := [.lit (.int .i64 0), .lit (.int .i64 0)]) (aA rfl) Try.zeroValue34 rfl rfl) ?_
 rintro _ ⟨b2, rfl⟩
 refine cI rfl (dM (zs := [.lit (.int .i64 0), .lit (.int .i64 0)]) (aA rfl) Try.zeroValue34 rfl rfl) ?_
 rintro _ ⟨b3, rfl⟩
 refine tr1 rfl (cL (i := 1) rfl rfl rfl rfl rfl Try.sizeOf34 rfl (aA rfl) (Nat.le_of_ble_eq_true rfl) (ds' := (bA (bJ.mk 60 120))) rfl) ?_
 refine tr1 rfl (cL (i := 2) rfl rfl rfl rfl rfl Try.sizeOf34 rfl (aA rfl) (Nat.le_of_ble_eq_true rfl) (ds' := (bA (bJ.mk 60 100))) rfl) ?_
 refine aI ?_
 refine aH ?_
 refine aE ?_
 refine tr1 rfl (eD (aA rfl) pG (zs := [.lit (.int .i64 0), .lit (.int .i64 0)]) rfl rfl rfl rfl (es := [.lit (.int .i64 600), .lit (.int .i64 900)]) rfl) ?_
 refine tr1 rfl (eD (aA rfl) pG (zs := [.lit (.int .i64 0), .lit (.int .i64 0)]) rfl rfl rfl rfl (es := [.lit (.int .i64 600), .lit (.int .i64 780)]) rfl) ?_
 refine tr1 rfl (jJ (aA rfl) kC rfl rfl (rows := ([(bJ.mk 600 900), (bJ.mk 600 780)]).map bA) rfl (dT (f := bA) fun _ => rfl) rfl (by decide)) ?_
 refine tr1 rfl (eD (aA rfl) pG (zs := [.lit (.int .i64 0), .lit (.int .i64 0)]) rfl rfl rfl rfl (es := [.lit (.int .i64 600), .lit (.int .i64 800)]) rfl) ?_
 refine tr1 rfl (eD (aA rfl) pG (zs := [.lit (.int .i64 0), .lit (.int .i64 0)]) rfl rfl rfl rfl (es := [.lit (.int .i64 600), .lit (.int .i64 600)]) rfl) ?_
 refine tr1 rfl (jJ (aA rfl) kC rfl rfl (rows := ([(bJ.mk 600 800), (bJ.mk 600 600)]).map bA) rfl (dT (f := bA) fun _ => rfl) rfl (by decide)) ?_
 refine tr1 rfl (jJ (aA rfl) oX rfl rfl (rows := ([[(bJ.mk 600 900), (bJ.mk 600 780)], [(bJ.mk 600 800), (bJ.mk 600 600)]]).map bH) rfl (dT (f := bH) fun _ => rfl) rfl (by decide)) ?_
 refine tr1 rfl (bO (aA rfl) rfl (i := 1) rfl gM (es := (bA (bJ.mk 60 120))) rfl rfl) ?_
 refine tr1 rfl (eD (aA rfl) aDf (zs := [.lit (.int .i64 0), .lit (.int .i64 0), .sl 1 ((([] : List Int)).map aW), .sl 1 ((([] : List Int)).map aW), .lit (.int .i64 0), .lit (.int .i64 0)]) rfl rfl rfl rfl (es := [.lit (.int .i64 60), .lit (.int .i64 120), .sl 1 ((([] : List Int)).map aW), .sl 1 ((([] : List Int)).map aW), .lit (.int .i64 1), .lit (.int .i64 0)]) rfl) ?_
 refine tr1 rfl (bO (aA rfl) rfl (i := 2) rfl gM (es := (bA (bJ.mk 60 100))) rfl rfl) ?_
 refine tr1 rfl (eD (aA rfl) aDf (zs := [.lit (.int .i64 0), .lit (.int .i64 0), .sl 1 ((([] : List Int)).map aW), .sl 1 ((([] : List Int)).map aW), .lit (.int .i64 0), .lit (.int .i64 0)]) rfl rfl rfl rfl (es := [.lit (.int .i64 60), .lit (.int .i64 100), .sl 1 ((([] : List Int)).map aW), .sl 1 ((([] : List Int)).map aW), .lit (.int .i64 1), .lit (.int .i64 0)]) rfl) ?_
 refine tr1 rfl (eD (aA rfl) pG (zs := [.lit (.int .i64 0), .lit (.int .i64 0)]) rfl rfl rfl rfl (es := [.lit (.int .i64 90), .lit (.int .i64 150)]) rfl) ?_
 refine tr1 rfl (jJ (aA rfl) dV rfl rfl (rows := ([0, 1]).map aW) rfl (dT (f := aW) fun _ => rfl) rfl (by decide)) ?_
 refine tr1 rfl (eD (aA rfl) aDf (zs := [.lit (.int .i64 0), .lit (.int .i64 0), .sl 1 ((([] : List Int)).map aW), .sl 1 ((([] : List Int)).map aW), .lit (.int .i64 0), .lit (.int .i64 0)]) rfl rfl rfl rfl (es := [.lit (.int .i64 90), .lit (.int .i64 150), .sl 1 ((([0, 1])).map aW), .sl 1 ((([] : List Int)).map aW), .lit (.int .i64 1), .lit (.int .i64 0)]) rfl) ?_
 refine tr1 rfl (jJ (aA rfl) eE rfl rfl (rows := ([(cS.mk (bJ.mk 60 120) ([] : List Int) ([] : List Int) 1 0), (cS.mk (bJ.mk 60 100) ([] : List Int) ([] : List Int) 1 0), (cS.mk (bJ.mk 90 150) ([0, 1]) ([] : List Int) 1 0)]).map aT) rfl (dT (f := aT) fun _ => rfl) rfl (by decide)) ?_
 refine tr1 rfl (eD (aA rfl) aNs (zs := [.sl 1 ((([] : List (List bJ))).map bH), .lit (.int .i64 0), .sl 6 ((([] : List cS)).map aT)]) rfl rfl rfl rfl (es := [.sl 1 ((([[(bJ.mk 600 900), (bJ.mk 600 780)], [(bJ.mk 600 800), (bJ.mk 600 600)]])).map bH), .lit (.int .i64 30), .sl 6 ((([(cS.mk (bJ.mk 60 120) ([] : List Int) ([] : List Int) 1 0), (cS.mk (bJ.mk 60 100) ([] : List Int) ([] : List Int) 1 0), (cS.mk (bJ.mk 90 150) ([0, 1]) ([] : List Int) 1 0)])).map aT)]) rfl) ?_
 refine tr1 rfl (eD (aA rfl) aAb (zs := [.lit (.int .i64 0), .lit (.int .i64 0), .lit (.int .i64 0)]) rfl rfl rfl rfl (es := [.lit (.int .i64 0), .lit (.int .i64 0), .lit (.int .i64 0)]) rfl) ?_
 refine tr1 rfl (eD (aA rfl) aAb (zs := [.lit (.int .i64 0), .lit (.int .i64 0), .lit (.int .i64 0)]) rfl rfl rfl rfl (es := [.lit (.int .i64 1), .lit (.int .i64 0), .lit (.int .i64 1)]) rfl) ?_
 refine tr1 rfl (eD (aA rfl) aAb (zs := [.lit (.int .i64 0), .lit (.int .i64 0), .lit (.int .i64 0)]) rfl rfl rfl rfl (es := [.lit (.int .i64 2), .lit (.int .i64 0), .lit (.int .i64 0)]) rfl) ?_
 refine tr1 rfl (jJ (aA rfl) oH rfl rfl (rows := ([(bM.mk 0 0 0), (bM.mk 1 0 1), (bM.mk 2 0 0)]).map aR) rfl (dT (f := aR) fun _ => rfl) rfl (by decide)) ?_
 refine tr1 rfl (cL (i := 0) rfl rfl rfl rfl rfl Try.sizeOf25 rfl (aA rfl) (Nat.le_of_ble_eq_true rfl) (ds' := (bK (cP.mk ([[(bJ.mk 600 900), (bJ.mk 600 780)], [(bJ.mk 600 800), (bJ.mk 600 600)]]) 30 ([(cS.mk (bJ.mk 60 120) ([] : List Int) ([] : List Int) 1 0), (cS.mk (bJ.mk 60 100) ([] : List Int) ([] : List Int) 1 0), (cS.mk (bJ.mk 90 150) ([0, 1]) ([] : List Int) 1 0)])))) rfl) ?_
 refine tr1 rfl (aK (v := .d (.sl 3 ((([(bM.mk 0 0 0), (bM.mk 1 0 1), (bM.mk 2 0 0)])).map aR))) (aA rfl) rfl rfl) ?_
 refine aI ?_
 have h := Option.some.inj h
 subst h
 exact cB ⟨rfl, _, [.box b1 0 (bK (cP.mk ([[(bJ.mk 600 900), (bJ.mk 600 780)], [(bJ.mk 600 800), (bJ.mk 600 600)]]) 30 ([(cS.mk (bJ.mk 60 120) ([] : List Int) ([] : List Int) 1 0), (cS.mk (bJ.mk 60 100) ([] : List Int) ([] : List Int) 1 0), (cS.mk (bJ.mk 90 150) ([0, 1]) ([] : List Int) 1 0)]))), .box b2 0 (bA (bJ.mk 60 120)), .box b3 0 (bA (bJ.mk 60 100))], .two (.cell 0 25 rfl (i := 0) rfl gL (es := (bK (cP.mk ([[(bJ.mk 600 900), (bJ.mk 600 780)], [(bJ.mk 600 800), (bJ.mk 600 600)]]) 30 ([(cS.mk (bJ.mk 60 120) ([] : List Int) ([] : List Int) 1 0), (cS.mk (bJ.mk 60 100) ([] : List Int) ([] : List Int) 1 0), (cS.mk (bJ.mk 90 150) ([0, 1]) ([] : List Int) 1 0)])))) rfl rfl) (.tmp 1 (v := .d (.sl 3 ((([(bM.mk 0 0 0), (bM.mk 1 0 1), (bM.mk 2 0 0)])).map aR))) rfl), .refl _, .same _⟩

theorem eQ (n_0 : Int) (low_1 : Int) (high_2 : Int) {r : Bool} (h : fM n_0 low_1 high_2 = some r) : Fn Try.prog 57 [.d (.lit (.int .i64 n_0)), .d (.lit (.int .i64 low_1)), .d (.lit (.int .i64 high_2))] (.d (.lit (.bool r))) := by
 unfold fM at h
 refine Fn.of_tr Try.func57 rfl (rs := [.tmp 6]) Try.results57 Try.ntmps57 (Nat.le_of_ble_eq_true rfl) ?_
 refine aH ?_
 refine aE ?_
 refine tr1 rfl (aK (v := .d (.lit (.bool false))) (aA rfl) rfl rfl) ?_
 refine aI ?_
 refine aH ?_
 refine aE ?_
 refine tr1 rfl (aD (v := .d (.lit (.int .i64 low_1))) (aA rfl) rfl rfl) ?_
 refine tr1 rfl (aD (v := .d (.lit (.int .i64 n_0))) (aA rfl) rfl rfl) ?_
 refine tr1 rfl (bP (aA rfl) rfl rfl rfl) ?_
 refine tr1 rfl (aD (v := .d (.lit (.bool ((decide (low_1 ≤ n_0)))))) (aA rfl) rfl rfl) ?_
 obtain ⟨b1, h2, h⟩ := bind_some h
 refine dD 4 [] 14 b1 ?_ ?_
 ·refine cA (decide (low_1 ≤ n_0)) (fun c3 => ?_) (fun c3 => ?_)
  ·have h2 := bB c3 h2
   refine aU rfl rfl (aA rfl) rfl c3 (aD (v := .d (.lit (.int .i64 n_0))) (aA rfl) rfl rfl) ?_
   refine aU rfl rfl (aA rfl) rfl c3 (aD (v := .d (.lit (.int .i64 high_2))) (aA rfl) rfl rfl) ?_
   refine aU rfl rfl (aA rfl) rfl c3 (bP (aA rfl) rfl rfl rfl) ?_
   refine tr1 rfl (bR (v := .d (.lit (.bool ((decide (n_0 ≤ high_2)))))) (aA rfl) rfl c3 rfl rfl) ?_
   have h2 := Option.some.inj h2
   subst h2
   refine aI (bT rfl trivial rfl)
  ·have h2 := bD c3 h2
   refine aX rfl rfl (aA rfl) rfl (aA rfl) rfl c3 ?_
   refine aX rfl rfl (aA rfl) rfl (aA rfl) rfl c3 ?_
   refine aX rfl rfl (aA rfl) rfl (aA rfl) rfl c3 ?_
   refine tr1 rfl (bQ (v := .d (.lit (.bool false))) (aA rfl) rfl c3 rfl rfl) ?_
   have h2 := Option.some.inj h2
   subst h2
   refine aI (bT rfl trivial rfl)
 ·refine tr1 rfl (aK (v := .d (.lit (.bool b1))) (aA rfl) rfl rfl) ?_
  refine aI ?_
  have h := Option.some.inj h
  subst h
  exact cB ⟨rfl, _, .one _, rfl, rfl⟩

theorem sU (s_0 : List bJ) (f_1 : bJ → Option Bool) {r : Int} (f_1_f : Nat) (f_1_v : List AV) (f_1_e : ∀ args w, (callFunc f_1_f args).run Try.prog w = .ok (.enter f_1_f args) w) (f_1_h : ∀ (x0 : bJ) r, f_1 x0 = some r → Fn Try.prog f_1_f ([.agg (bA x0)] ++ f_1_v) (.d (.lit (.bool r)))) (h : kU s_0 f_1 = some r) : Fn Try.prog 89 [.d (.sl 2 (s_0.map bA)), .fn f_1_f f_1_v] (.d (.lit (.int .i64 r))) := by
 unfold kU at h
 refine Fn.of_tr Try.func89 rfl (rs := [.tmp 4]) Try.results89 Try.ntmps89 (Nat.le_of_ble_eq_true rfl) ?_
 refine aH ?_
 refine aE ?_
 refine tr1 rfl (aK (v := .d (.lit (.int .i64 0))) (aA rfl) rfl rfl) ?_
 refine aI ?_
 refine aH ?_
 refine aH ?_
 refine aE ?_
 refine tr1 rfl (aD (v := .d (.sl 2 (s_0.map bA))) (aA rfl) rfl rfl) ?_
 refine tr1 rfl (dC (aA rfl) rfl kC.of) ?_
 refine tr1 rfl (aD (v := .d (.lit (.int .i64 0))) (aA rfl) rfl rfl) ?_
 refine aI ?_
 refine cW ?_
 refine dY [0, 1, 7] (fun (s1 : Int) => [(8, .d (.lit (.int .i64 s1)))]) (fun (s1 : Int) => []) (fun (k : Nat) (s1 : Int) => iB s_0 f_1 (s_0.length : Int) k s1) (fun _ => rfl) (0) h (bI [] rfl rfl (aZ rfl (bC ⟨rfl, rfl, rfl, trivial⟩))) ?_
 rintro k2 t8_0_1 h
 simp only [iB] at h
 refine aH ?_
 refine aE ?_
 refine tr1 rfl (bP (aA rfl) rfl rfl rfl) ?_
 refine aI ?_
 refine aH ?_
 refine cK rfl (fun c3 => ?_) (fun c3 => ?_)
 ·have h := bB c3 h
  refine cF ?_
  refine aH ?_
  refine cW ?_
  refine aH ?_
  refine aE ?_
  refine tr1 rfl (aD (v := .d (.lit (.int .i64 t8_0_1))) (aA rfl) rfl rfl) ?_
  refine tr1 rfl (aK (v := .d (.lit (.int .i64 t8_0_1))) (aA rfl) rfl rfl) ?_
  refine aI ?_
  refine aH ?_
  refine aE ?_
  refine tr1 rfl (aD (v := .fn f_1_f f_1_v) (aA rfl) rfl rfl) ?_
  refine tr1 rfl (aD (v := .d (.sl 2 (s_0.map bA))) (aA rfl) rfl rfl) ?_
  refine tr1 rfl (aD (v := .d (.lit (.int .i64 t8_0_1))) (aA rfl) rfl rfl) ?_
  obtain ⟨x4, h5, h⟩ := bind_some h
  refine tr1 rfl (bU (aA rfl) rfl rfl kC.of (cE bA h5)) ?_
  refine tr1 rfl (dE (aA rfl) rfl gM (es := (bA x4)) rfl rfl) ?_
  obtain ⟨r6, h7, h⟩ := bind_some h
  refine tr1 rfl (cQ (aA rfl) (.clo _ _ _ _ f_1_e rfl) (yS rfl) rfl (BVs.refl _ _) (f_1_h _ _  h7) rfl) ?_
  refine aI ?_
  refine cK rfl (fun c8 => ?_) (fun c8 => ?_)
  ·have h := bB c8 h
   refine aH ?_
   refine aE ?_
   refine tr1 rfl (aD (v := .d (.lit (.int .i64 t8_0_1))) (aA rfl) rfl rfl) ?_
   refine tr1 rfl (aK (v := .d (.lit (.int .i64 t8_0_1))) (aA rfl) rfl rfl) ?_
   refine aI ?_
   have h := Option.some.inj h
   subst h
   exact cB ⟨rfl, _, .one _, rfl, rfl⟩
  ·have h := bD c8 h
   refine fB ?_
   refine aE ?_
   refine tr1 rfl (cG (aA rfl) rfl rfl rfl) ?_
   refine tr1 rfl (aD (v := .d (.lit (.int .i64 ((w64 (t8_0_1 + 1)))))) (aA rfl) rfl rfl) ?_
   refine aI ?_
   exact ⟨(w64 (t8_0_1 + 1)), h, bI [] rfl rfl (aZ rfl (bC ⟨rfl, rfl, rfl, trivial⟩))⟩
 ·have h := bD c3 h
  refine dO ?_
  refine .inl ⟨rfl, ?_⟩
  simp only [nC] at h
  refine aH ?_
  refine aE ?_
  refine tr1 rfl (aK (v := .d (.lit (.int .i64 (-1)))) (aA rfl) rfl rfl) ?_
  refine aI ?_
  have h := Option.some.inj h
  subst h
  exact cB ⟨rfl, _, .one _, rfl, rfl⟩

theorem qZ (s_0 : List bJ) (f_1 : bJ → Option Bool) {r : Bool} (f_1_f : Nat) (f_1_v : List AV) (f_1_e : ∀ args w, (callFunc f_1_f args).run Try.prog w = .ok (.enter f_1_f args) w) (f_1_h : ∀ (x0 : bJ) r, f_1 x0 = some r → Fn Try.prog f_1_f ([.agg (bA x0)] ++ f_1_v) (.d (.lit (.bool r)))) (h : kA s_0 f_1 = some r) : Fn Try.prog 58 [.d (.sl 2 (s_0.map bA)), .fn f_1_f f_1_v] (.d (.lit (.bool r))) := by
 unfold kA at h
 refine Fn.of_tr Try.func58 rfl (rs := [.tmp 4]) Try.results58 Try.ntmps58 (Nat.le_of_ble_eq_true rfl) ?_
 refine aH ?_
 refine aE ?_
 refine tr1 rfl (aK (v := .d (.lit (.bool false))) (aA rfl) rfl rfl) ?_
 refine aI ?_
 refine aH ?_
 refine aE ?_
 refine tr1 rfl (aD (v := .d (.sl 2 (s_0.map bA))) (aA rfl) rfl rfl) ?_
 refine tr1 rfl (aD (v := .fn f_1_f f_1_v) (aA rfl) rfl rfl) ?_
 obtain ⟨r1, h2, h⟩ := bind_some h
 refine tr1 rfl (cQ (aA rfl) (.func _ _ Try.call89) rfl rfl (BVs.refl _ _) (sU _ _ f_1_f f_1_v f_1_e f_1_h h2) rfl) ?_
 refine tr1 rfl (bP (aA rfl) rfl rfl rfl) ?_
 refine tr1 rfl (aK (v := .d (.lit (.bool ((decide (0 ≤ r1)))))) (aA rfl) rfl rfl) ?_
 refine aI ?_
 have h := Option.some.inj h
 subst h
 exact cB ⟨rfl, _, .one _, rfl, rfl⟩

theorem yA (s_0 : bJ) (low_1 : Int) (high_2 : Int) {r : Bool} (h : pD s_0 low_1 high_2 = some r) : Fn Try.prog 60 [.agg (bA s_0), .d (.lit (.int .i64 low_1)), .d (.lit (.int .i64 high_2))] (.d (.lit (.bool r))) := by
 unfold pD at h
 refine Fn.of_tr Try.func60 rfl (rs := [.tmp 6]) Try.results60 Try.ntmps60 (Nat.le_of_ble_eq_true rfl) ?_
 refine aH ?_
 refine aE ?_
 refine cI rfl (eU (v := .agg (bA s_0)) (aA rfl) rfl rfl rfl) ?_
 rintro _ ⟨b1, rfl⟩
 refine tr1 rfl (aK (v := .d (.lit (.bool false))) (aA rfl) rfl rfl) ?_
 refine aI ?_
 refine aH ?_
 refine aE ?_
 refine tr1 rfl (aN (aA rfl) rfl wY) ?_
 refine tr1 rfl (aQ (aA rfl) rfl (i := 0) rfl rfl bL) ?_
 refine tr1 rfl (aN (aA rfl) rfl oQ) ?_
 refine tr1 rfl (aQ (aA rfl) rfl (i := 0) rfl rfl bL) ?_
 refine tr1 rfl (bP (aA rfl) rfl rfl rfl) ?_
 refine tr1 rfl (aD (v := .d (.lit (.bool ((decide (s_0.Low ≤ s_0.High)))))) (aA rfl) rfl rfl) ?_
 obtain ⟨b2, h3, h⟩ := bind_some h
 refine dD 6 [1, 2, 3] 18 b2 ?_ ?_
 ·refine cA (decide (s_0.Low ≤ s_0.High)) (fun c9 => ?_) (fun c9 => ?_)
  ·have h3 := bB c9 h3
   refine aU rfl rfl (aA rfl) rfl c9 (aN (aA rfl) rfl wY) ?_
   refine aU rfl rfl (aA rfl) rfl c9 (aQ (aA rfl) rfl (i := 0) rfl rfl bL) ?_
   refine aU rfl rfl (aA rfl) rfl c9 (aD (v := .d (.lit (.int .i64 low_1))) (aA rfl) rfl rfl) ?_
   refine aU rfl rfl (aA rfl) rfl c9 (aD (v := .d (.lit (.int .i64 high_2))) (aA rfl) rfl rfl) ?_
   obtain ⟨r10, h11, h3⟩ := bind_some h3
   refine aU rfl rfl (aA rfl) rfl c9 (cQ (aA rfl) (.func _ _ Try.call57) rfl rfl (BVs.refl _ _) (eQ _ _ _ h11) rfl) ?_
   refine tr1 rfl (bR (v := .d (.lit (.bool r10))) (aA rfl) rfl c9 rfl rfl) ?_
   have h3 := Option.some.inj h3
   subst h3
   refine aI (bT rfl ⟨rfl, rfl, rfl, trivial⟩ rfl)
  ·have h3 := bD c9 h3
   refine aX rfl rfl (aA rfl) rfl (aA rfl) rfl c9 ?_
   refine aX rfl rfl (aA rfl) rfl (aA rfl) rfl c9 ?_
   refine aX rfl rfl (aA rfl) rfl (aA rfl) rfl c9 ?_
   refine aX rfl rfl (aA rfl) rfl (aA rfl) rfl c9 ?_
   refine aX rfl rfl (aA rfl) rfl (aA rfl) rfl c9 ?_
   refine tr1 rfl (bQ (v := .d (.lit (.bool false))) (aA rfl) rfl c9 rfl rfl) ?_
   have h3 := Option.some.inj h3
   subst h3
   refine aI (bT rfl ⟨rfl, rfl, rfl, trivial⟩ rfl)
 ·refine tr1 rfl (aD (v := .d (.lit (.bool b2))) (aA rfl) rfl rfl) ?_
  obtain ⟨b4, h5, h⟩ := bind_some h
  refine dD 6 [] 25 b4 ?_ ?_
  ·refine cA (b2) (fun c6 => ?_) (fun c6 => ?_)
   ·have h5 := bB c6 h5
    refine aU rfl rfl (aA rfl) rfl c6 (aN (aA rfl) rfl oQ) ?_
    refine aU rfl rfl (aA rfl) rfl c6 (aQ (aA rfl) rfl (i := 0) rfl rfl bL) ?_
    refine aU rfl rfl (aA rfl) rfl c6 (aD (v := .d (.lit (.int .i64 low_1))) (aA rfl) rfl rfl) ?_
    refine aU rfl rfl (aA rfl) rfl c6 (aD (v := .d (.lit (.int .i64 high_2))) (aA rfl) rfl rfl) ?_
    obtain ⟨r7, h8, h5⟩ := bind_some h5
    refine aU rfl rfl (aA rfl) rfl c6 (cQ (aA rfl) (.func _ _ Try.call57) rfl rfl (BVs.refl _ _) (eQ _ _ _ h8) rfl) ?_
    refine tr1 rfl (bR (v := .d (.lit (.bool r7))) (aA rfl) rfl c6 rfl rfl) ?_
    have h5 := Option.some.inj h5
    subst h5
    refine aI (bT rfl trivial rfl)
   ·have h5 := bD c6 h5
    refine aX rfl rfl (aA rfl) rfl (aA rfl) rfl c6 ?_
    refine aX rfl rfl (aA rfl) rfl (aA rfl) rfl c6 ?_
    refine aX rfl rfl (aA rfl) rfl (aA rfl) rfl c6 ?_
    refine aX rfl rfl (aA rfl) rfl (aA rfl) rfl c6 ?_
    refine aX rfl rfl (aA rfl) rfl (aA rfl) rfl c6 ?_
    refine tr1 rfl (bQ (v := .d (.lit (.bool false))) (aA rfl) rfl c6 rfl rfl) ?_
    have h5 := Option.some.inj h5
    subst h5
    refine aI (bT rfl trivial rfl)
  ·refine tr1 rfl (aK (v := .d (.lit (.bool b4))) (aA rfl) rfl rfl) ?_
   refine aI ?_
   have h := Option.some.inj h
   subst h
   refine cT (cR (cU (l := [6]) ⟨rfl, trivial⟩)) ?_
   exact cB ⟨rfl, _, .one _, rfl, rfl⟩

theorem aDq (s_0 : bJ) {r : Bool} (h : uK s_0 = some r) : Fn Try.prog 59 [.agg (bA s_0)] (.d (.lit (.bool r))) := by
 unfold uK at h
 refine Fn.of_tr Try.func59 rfl (rs := [.tmp 2]) Try.results59 Try.ntmps59 (Nat.le_of_ble_eq_true rfl) ?_
 refine aH ?_
 refine aE ?_
 refine cI rfl (eU (v := .agg (bA s_0)) (aA rfl) rfl rfl rfl) ?_
 rintro _ ⟨b1, rfl⟩
 refine tr1 rfl (aK (v := .d (.lit (.bool false))) (aA rfl) rfl rfl) ?_
 refine aI ?_
 refine aH ?_
 refine aE ?_
 refine tr1 rfl (bO (aA rfl) rfl (i := 0) rfl gM (es := (bA s_0)) rfl rfl) ?_
 obtain ⟨r2, h3, h⟩ := bind_some h
 refine tr1 rfl (cQ (aA rfl) (.func _ _ Try.call60) rfl rfl (BVs.refl _ _) (yA _ _ _ h3) rfl) ?_
 refine tr1 rfl (fE (aA rfl) rfl) ?_
 refine tr1 rfl (aK (v := .d (.lit (.bool (!r2)))) (aA rfl) rfl rfl) ?_
 refine aI ?_
 have h := Option.some.inj h
 subst h
 refine cT (cR (cU (l := [2]) ⟨rfl, trivial⟩)) ?_
 exact cB ⟨rfl, _, .one _, rfl, rfl⟩

theorem wL (length_0 : bJ) (due_1 : Int) {r : Bool} (h : nB length_0 due_1 = some r) : Fn Try.prog 61 [.agg (bA length_0), .d (.lit (.int .i64 due_1))] (.d (.lit (.bool r))) := by
 unfold nB at h
 refine Fn.of_tr Try.func61 rfl (rs := [.tmp 4]) Try.results61 Try.ntmps61 (Nat.le_of_ble_eq_true rfl) ?_
 refine aH ?_
 refine aE ?_
 refine cI rfl (eU (v := .agg (bA length_0)) (aA rfl) rfl rfl rfl) ?_
 rintro _ ⟨b1, rfl⟩
 refine tr1 rfl (aK (v := .d (.lit (.bool false))) (aA rfl) rfl rfl) ?_
 refine aI ?_
 refine aH ?_
 refine aE ?_
 refine tr1 rfl (bO (aA rfl) rfl (i := 0) rfl gM (es := (bA length_0)) rfl rfl) ?_
 obtain ⟨r2, h3, h⟩ := bind_some h
 refine tr1 rfl (cQ (aA rfl) (.func _ _ Try.call60) rfl rfl (BVs.refl _ _) (yA _ _ _ h3) rfl) ?_
 refine tr1 rfl (aD (v := .d (.lit (.bool r2))) (aA rfl) rfl rfl) ?_
 obtain ⟨b4, h5, h⟩ := bind_some h
 refine dD 3 [] 10 b4 ?_ ?_
 ·refine cA (r2) (fun c6 => ?_) (fun c6 => ?_)
  ·have h5 := bB c6 h5
   refine aU rfl rfl (aA rfl) rfl c6 (aD (v := .d (.lit (.int .i64 due_1))) (aA rfl) rfl rfl) ?_
   obtain ⟨r7, h8, h5⟩ := bind_some h5
   refine aU rfl rfl (aA rfl) rfl c6 (cQ (aA rfl) (.func _ _ Try.call57) rfl rfl (BVs.refl _ _) (eQ _ _ _ h8) rfl) ?_
   refine tr1 rfl (bR (v := .d (.lit (.bool r7))) (aA rfl) rfl c6 rfl rfl) ?_
   have h5 := Option.some.inj h5
   subst h5
   refine aI (bT rfl trivial rfl)
  ·have h5 := bD c6 h5
   refine aX rfl rfl (aA rfl) rfl (aA rfl) rfl c6 ?_
   refine aX rfl rfl (aA rfl) rfl (aA rfl) rfl c6 ?_
   refine tr1 rfl (bQ (v := .d (.lit (.bool false))) (aA rfl) rfl c6 rfl rfl) ?_
   have h5 := Option.some.inj h5
   subst h5
   refine aI (bT rfl trivial rfl)
 ·refine tr1 rfl (aK (v := .d (.lit (.bool b4))) (aA rfl) rfl rfl) ?_
  refine aI ?_
  have h := Option.some.inj h
  subst h
  refine cT (cR (cU (l := [4]) ⟨rfl, trivial⟩)) ?_
  exact cB ⟨rfl, _, .one _, rfl, rfl⟩

theorem wJ (l_0 : List Int) (bound_1 : Int) {r : Bool} (h : qN l_0 bound_1 = some r) : Fn Try.prog 62 [.d (.sl 1 (l_0.map aW)), .d (.lit (.int .i64 bound_1))] (.d (.lit (.bool r))) := by
 unfold qN at h
 refine Fn.of_tr Try.func62 rfl (rs := [.tmp 4]) Try.results62 Try.ntmps62 (Nat.le_of_ble_eq_true rfl) ?_
 refine aH ?_
 refine aE ?_
 refine tr1 rfl (aK (v := .d (.lit (.bool false))) (aA rfl) rfl rfl) ?_
 refine aI ?_
 refine aH ?_
 refine aH ?_
 refine aE ?_
 refine tr1 rfl (aD (v := .d (.sl 1 (l_0.map aW))) (aA rfl) rfl rfl) ?_
 refine tr1 rfl (dC (aA rfl) rfl dV.of) ?_
 refine tr1 rfl (aD (v := .d (.lit (.int .i64 0))) (aA rfl) rfl rfl) ?_
 refine aI ?_
 refine cW ?_
 refine dY [0, 1, 7, 8] (fun (s1 : Int) => [(9, .d (.lit (.int .i64 s1)))]) (fun (s1 : Int) => []) (fun (k : Nat) (s1 : Int) => oE l_0 bound_1 l_0 (l_0.length : Int) k s1) (fun _ => rfl) (0) h (bI [] rfl rfl (aZ rfl (bC ⟨rfl, rfl, rfl, rfl, trivial⟩))) ?_
 rintro k2 t9_0_1 h
 simp only [oE] at h
 refine aH ?_
 refine aE ?_
 refine tr1 rfl (bP (aA rfl) rfl rfl rfl) ?_
 refine aI ?_
 refine aH ?_
 refine cK rfl (fun c3 => ?_) (fun c3 => ?_)
 ·have h := bB c3 h
  refine cF ?_
  refine aH ?_
  refine cW ?_
  refine aH ?_
  refine aE ?_
  refine tr1 rfl (aD (v := .d (.lit (.int .i64 t9_0_1))) (aA rfl) rfl rfl) ?_
  obtain ⟨x4, h5, h⟩ := bind_some h
  refine tr1 rfl (bU (aA rfl) rfl rfl dV.of (cE aW h5)) ?_
  refine tr1 rfl (cJ (aA rfl) rfl bL) ?_
  refine tr1 rfl (aK (v := .d (.lit (.int .i64 t9_0_1))) (aA rfl) rfl rfl) ?_
  refine tr1 rfl (aK (v := .d (.lit (.int .i64 x4))) (aA rfl) rfl rfl) ?_
  refine aI ?_
  refine aH ?_
  refine aE ?_
  refine tr1 rfl (aD (v := .d (.lit (.int .i64 x4))) (aA rfl) rfl rfl) ?_
  refine tr1 rfl (aD (v := .d (.lit (.int .i64 bound_1))) (aA rfl) rfl rfl) ?_
  refine tr1 rfl (cG (aA rfl) rfl rfl rfl) ?_
  obtain ⟨r6, h7, h⟩ := bind_some h
  refine tr1 rfl (cQ (aA rfl) (.func _ _ Try.call57) rfl rfl (BVs.refl _ _) (eQ _ _ _ h7) rfl) ?_
  refine tr1 rfl (fE (aA rfl) rfl) ?_
  refine tr1 rfl (aD (v := .d (.lit (.bool (!r6)))) (aA rfl) rfl rfl) ?_
  obtain ⟨b8, h9, h⟩ := bind_some h
  refine dD 12 [0, 1, 7, 8, 9] 31 b8 ?_ ?_
  ·refine cA (!r6) (fun c11 => ?_) (fun c11 => ?_)
   ·have h9 := bB c11 h9
    refine aX rfl rfl (aA rfl) rfl (aA rfl) rfl c11 ?_
    refine aX rfl rfl (aA rfl) rfl (aA rfl) rfl c11 ?_
    refine aX rfl rfl (aA rfl) rfl (aA rfl) rfl c11 ?_
    refine pT rfl rfl (aA rfl) rfl (aA rfl) rfl ?_
    refine pT rfl rfl (aA rfl) rfl (aA rfl) rfl ?_
    refine pT rfl rfl (aA rfl) rfl (aA rfl) rfl ?_
    refine pT rfl rfl (aA rfl) rfl (aA rfl) rfl ?_
    refine pT rfl rfl (aA rfl) rfl (aA rfl) rfl ?_
    refine pT rfl rfl (aA rfl) rfl (aA rfl) rfl ?_
    refine pT rfl rfl (aA rfl) rfl (aA rfl) rfl ?_
    refine aX rfl rfl (aA rfl) rfl (aA rfl) rfl c11 ?_
    refine tr1 rfl (bR (v := .d (.lit (.bool true))) (aA rfl) rfl c11 rfl rfl) ?_
    have h9 := Option.some.inj h9
    subst h9
    refine aI (bT rfl ⟨rfl, rfl, rfl, rfl, rfl, trivial⟩ rfl)
   ·have h9 := bD c11 h9
    refine aU rfl rfl (aA rfl) rfl c11 (aD (v := .d (.lit (.int .i64 t9_0_1))) (aA rfl) rfl rfl) ?_
    refine aU rfl rfl (aA rfl) rfl c11 (bP (aA rfl) rfl rfl rfl) ?_
    refine aU rfl rfl (aA rfl) rfl c11 (aD (v := .d (.lit (.bool ((decide (0 < t9_0_1)))))) (aA rfl) rfl rfl) ?_
    obtain ⟨b12, h13, h9⟩ := bind_some h9
    refine dD 8 [0, 1, 7, 8, 9, 19, 20, 21, 22] 30 b12 ?_ ?_
    ·refine cA (decide (0 < t9_0_1)) (fun c14 => ?_) (fun c14 => ?_)
     ·have h13 := bB c14 h13
      refine aU rfl rfl (aA rfl) rfl c14 (aD (v := .d (.lit (.int .i64 x4))) (aA rfl) rfl rfl) ?_
      refine aU rfl rfl (aA rfl) rfl c14 (aD (v := .d (.sl 1 (l_0.map aW))) (aA rfl) rfl rfl) ?_
      refine aU rfl rfl (aA rfl) rfl c14 (aD (v := .d (.lit (.int .i64 t9_0_1))) (aA rfl) rfl rfl) ?_
      refine aU rfl rfl (aA rfl) rfl c14 (cG (aA rfl) rfl rfl rfl) ?_
      obtain ⟨x15, h16, h13⟩ := bind_some h13
      refine aU rfl rfl (aA rfl) rfl c14 (bU (aA rfl) rfl rfl dV.of (cE aW h16)) ?_
      refine aU rfl rfl (aA rfl) rfl c14 (cJ (aA rfl) rfl bL) ?_
      refine aU rfl rfl (aA rfl) rfl c14 (bP (aA rfl) rfl rfl rfl) ?_
      refine aU rfl rfl (aA rfl) rfl c11 (bR (v := .d (.lit (.bool ((decide (x4 ≤ x15)))))) (aA rfl) rfl c14 rfl rfl) ?_
      have h13 := Option.some.inj h13
      subst h13
      refine aI (bT rfl ⟨rfl, rfl, rfl, rfl, rfl, rfl, rfl, rfl, rfl, trivial⟩ rfl)
     ·have h13 := bD c14 h13
      refine aX rfl rfl (aA rfl) rfl (aA rfl) rfl c14 ?_
      refine aX rfl rfl (aA rfl) rfl (aA rfl) rfl c14 ?_
      refine aX rfl rfl (aA rfl) rfl (aA rfl) rfl c14 ?_
      refine aX rfl rfl (aA rfl) rfl (aA rfl) rfl c14 ?_
      refine aX rfl rfl (aA rfl) rfl (aA rfl) rfl c14 ?_
      refine aX rfl rfl (aA rfl) rfl (aA rfl) rfl c14 ?_
      refine aX rfl rfl (aA rfl) rfl (aA rfl) rfl c14 ?_
      refine aU rfl rfl (aA rfl) rfl c11 (bQ (v := .d (.lit (.bool false))) (aA rfl) rfl c14 rfl rfl) ?_
      have h13 := Option.some.inj h13
      subst h13
      refine aI (bT rfl ⟨rfl, rfl, rfl, rfl, rfl, rfl, rfl, rfl, rfl, trivial⟩ rfl)
    ·refine tr1 rfl (bQ (v := .d (.lit (.bool b12))) (aA rfl) rfl c11 rfl rfl) ?_
     have h9 := Option.some.inj h9
     subst h9
     refine aI (bT rfl ⟨rfl, rfl, rfl, rfl, rfl, trivial⟩ rfl)
  ·refine aI ?_
   refine cK rfl (fun c10 => ?_) (fun c10 => ?_)
   ·have h := bB c10 h
    refine aH ?_
    refine aE ?_
    refine tr1 rfl (aK (v := .d (.lit (.bool false))) (aA rfl) rfl rfl) ?_
    refine aI ?_
    have h := Option.some.inj h
    subst h
    exact cB ⟨rfl, _, .one _, rfl, rfl⟩
   ·have h := bD c10 h
    refine fB ?_
    refine aE ?_
    refine tr1 rfl (cG (aA rfl) rfl rfl rfl) ?_
    refine tr1 rfl (aD (v := .d (.lit (.int .i64 ((w64 (t9_0_1 + 1)))))) (aA rfl) rfl rfl) ?_
    refine aI ?_
    exact ⟨(w64 (t9_0_1 + 1)), h, bI [] rfl rfl (aZ rfl (bC ⟨rfl, rfl, rfl, rfl, trivial⟩))⟩
 ·have h := bD c3 h
  refine dO ?_
  refine .inl ⟨rfl, ?_⟩
  simp only [vG] at h
  refine aH ?_
  refine aE ?_
  refine tr1 rfl (aK (v := .d (.lit (.bool true))) (aA rfl) rfl rfl) ?_
  refine aI ?_
  have h := Option.some.inj h
  subst h
  exact cB ⟨rfl, _, .one _, rfl, rfl⟩

theorem sV (s_0 : List Int) (v_1 : Int) {r : Int} (h : gV s_0 v_1 = some r) : Fn Try.prog 90 [.d (.sl 1 (s_0.map aW)), .d (.lit (.int .i64 v_1))] (.d (.lit (.int .i64 r))) := by
 unfold gV at h
 refine Fn.of_tr Try.func90 rfl (rs := [.tmp 4]) Try.results90 Try.ntmps90 (Nat.le_of_ble_eq_true rfl) ?_
 refine aH ?_
 refine aE ?_
 refine tr1 rfl (aK (v := .d (.lit (.int .i64 0))) (aA rfl) rfl rfl) ?_
 refine aI ?_
 refine aH ?_
 refine aH ?_
 refine aE ?_
 refine tr1 rfl (aD (v := .d (.sl 1 (s_0.map aW))) (aA rfl) rfl rfl) ?_
 refine tr1 rfl (dC (aA rfl) rfl dV.of) ?_
 refine tr1 rfl (aD (v := .d (.lit (.int .i64 0))) (aA rfl) rfl rfl) ?_
 refine aI ?_
 refine cW ?_
 refine dY [0, 1, 7] (fun (s1 : Int) => [(8, .d (.lit (.int .i64 s1)))]) (fun (s1 : Int) => []) (fun (k : Nat) (s1 : Int) => gK s_0 v_1 (s_0.length : Int) k s1) (fun _ => rfl) (0) h (bI [] rfl rfl (aZ rfl (bC ⟨rfl, rfl, rfl, trivial⟩))) ?_
 rintro k2 t8_0_1 h
 simp only [gK] at h
 refine aH ?_
 refine aE ?_
 refine tr1 rfl (bP (aA rfl) rfl rfl rfl) ?_
 refine aI ?_
 refine aH ?_
 refine cK rfl (fun c3 => ?_) (fun c3 => ?_)
 ·have h := bB c3 h
  refine cF ?_
  refine aH ?_
  refine cW ?_
  refine aH ?_
  refine aE ?_
  refine tr1 rfl (aD (v := .d (.lit (.int .i64 t8_0_1))) (aA rfl) rfl rfl) ?_
  refine tr1 rfl (aK (v := .d (.lit (.int .i64 t8_0_1))) (aA rfl) rfl rfl) ?_
  refine aI ?_
  refine aH ?_
  refine aE ?_
  refine tr1 rfl (aD (v := .d (.lit (.int .i64 v_1))) (aA rfl) rfl rfl) ?_
  refine tr1 rfl (aD (v := .d (.sl 1 (s_0.map aW))) (aA rfl) rfl rfl) ?_
  refine tr1 rfl (aD (v := .d (.lit (.int .i64 t8_0_1))) (aA rfl) rfl rfl) ?_
  obtain ⟨x4, h5, h⟩ := bind_some h
  refine tr1 rfl (bU (aA rfl) rfl rfl dV.of (cE aW h5)) ?_
  refine tr1 rfl (cJ (aA rfl) rfl bL) ?_
  refine tr1 rfl (bP (aA rfl) rfl rfl rfl) ?_
  refine aI ?_
  refine cK rfl (fun c6 => ?_) (fun c6 => ?_)
  ·have h := bB c6 h
   refine aH ?_
   refine aE ?_
   refine tr1 rfl (aD (v := .d (.lit (.int .i64 t8_0_1))) (aA rfl) rfl rfl) ?_
   refine tr1 rfl (aK (v := .d (.lit (.int .i64 t8_0_1))) (aA rfl) rfl rfl) ?_
   refine aI ?_
   have h := Option.some.inj h
   subst h
   exact cB ⟨rfl, _, .one _, rfl, rfl⟩
  ·have h := bD c6 h
   refine fB ?_
   refine aE ?_
   refine tr1 rfl (cG (aA rfl) rfl rfl rfl) ?_
   refine tr1 rfl (aD (v := .d (.lit (.int .i64 ((w64 (t8_0_1 + 1)))))) (aA rfl) rfl rfl) ?_
   refine aI ?_
   exact ⟨(w64 (t8_0_1 + 1)), h, bI [] rfl rfl (aZ rfl (bC ⟨rfl, rfl, rfl, trivial⟩))⟩
 ·have h := bD c3 h
  refine dO ?_
  refine .inl ⟨rfl, ?_⟩
  simp only [nZ] at h
  refine aH ?_
  refine aE ?_
  refine tr1 rfl (aK (v := .d (.lit (.int .i64 (-1)))) (aA rfl) rfl rfl) ?_
  refine aI ?_
  have h := Option.some.inj h
  subst h
  exact cB ⟨rfl, _, .one _, rfl, rfl⟩

theorem eO (s_0 : List Int) (v_1 : Int) {r : Bool} (h : eC s_0 v_1 = some r) : Fn Try.prog 63 [.d (.sl 1 (s_0.map aW)), .d (.lit (.int .i64 v_1))] (.d (.lit (.bool r))) := by
 unfold eC at h
 refine Fn.of_tr Try.func63 rfl (rs := [.tmp 4]) Try.results63 Try.ntmps63 (Nat.le_of_ble_eq_true rfl) ?_
 refine aH ?_
 refine aE ?_
 refine tr1 rfl (aK (v := .d (.lit (.bool false))) (aA rfl) rfl rfl) ?_
 refine aI ?_
 refine aH ?_
 refine aE ?_
 refine tr1 rfl (aD (v := .d (.sl 1 (s_0.map aW))) (aA rfl) rfl rfl) ?_
 refine tr1 rfl (aD (v := .d (.lit (.int .i64 v_1))) (aA rfl) rfl rfl) ?_
 obtain ⟨r1, h2, h⟩ := bind_some h
 refine tr1 rfl (cQ (aA rfl) (.func _ _ Try.call90) rfl rfl (BVs.refl _ _) (sV _ _ h2) rfl) ?_
 refine tr1 rfl (bP (aA rfl) rfl rfl rfl) ?_
 refine tr1 rfl (aK (v := .d (.lit (.bool ((decide (0 ≤ r1)))))) (aA rfl) rfl rfl) ?_
 refine aI ?_
 have h := Option.some.inj h
 subst h
 exact cB ⟨rfl, _, .one _, rfl, rfl⟩

theorem uL (p_0 : cP) {r : Int} (h : qK p_0 = some r) : Fn Try.prog 25 [.agg (bK p_0)] (.d (.lit (.int .i64 r))) := by
 unfold qK at h
 refine Fn.of_tr Try.func25 rfl (rs := [.tmp 2]) Try.results25 Try.ntmps25 (Nat.le_of_ble_eq_true rfl) ?_
 refine aH ?_
 refine aE ?_
 refine cI rfl (eU (v := .agg (bK p_0)) (aA rfl) rfl rfl rfl) ?_
 rintro _ ⟨b1, rfl⟩
 refine tr1 rfl (aK (v := .d (.lit (.int .i64 0))) (aA rfl) rfl rfl) ?_
 refine aI ?_
 refine aH ?_
 refine aH ?_
 refine aE ?_
 refine tr1 rfl (aN (aA rfl) rfl lF) ?_
 refine tr1 rfl (aQ (aA rfl) rfl (i := 0) rfl rfl oS) ?_
 refine tr1 rfl (dC (aA rfl) rfl oX.of) ?_
 obtain ⟨r2, h3, h⟩ := bind_some h
 refine tr1 rfl (cQ (aA rfl) (.func _ _ Try.call57) rfl rfl (BVs.refl _ _) (eQ _ _ _ h3) rfl) ?_
 refine tr1 rfl (fE (aA rfl) rfl) ?_
 refine tr1 rfl (aD (v := .d (.lit (.bool (!r2)))) (aA rfl) rfl rfl) ?_
 obtain ⟨b4, h5, h⟩ := bind_some h
 refine dD 5 [1] 17 b4 ?_ ?_
 ·refine cA (!r2) (fun c56 => ?_) (fun c56 => ?_)
  ·have h5 := bB c56 h5
   refine aX rfl rfl (aA rfl) rfl (aA rfl) rfl c56 ?_
   refine aX rfl rfl (aA rfl) rfl (aA rfl) rfl c56 ?_
   refine aX rfl rfl (aA rfl) rfl (aA rfl) rfl c56 ?_
   refine aX rfl rfl (aA rfl) rfl (aA rfl) rfl c56 ?_
   refine tr1 rfl (bR (v := .d (.lit (.bool true))) (aA rfl) rfl c56 rfl rfl) ?_
   have h5 := Option.some.inj h5
   subst h5
   refine aI (bT rfl ⟨rfl, trivial⟩ rfl)
  ·have h5 := bD c56 h5
   refine aU rfl rfl (aA rfl) rfl c56 (aN (aA rfl) rfl aFn) ?_
   refine aU rfl rfl (aA rfl) rfl c56 (aQ (aA rfl) rfl (i := 0) rfl rfl bL) ?_
   obtain ⟨r57, h58, h5⟩ := bind_some h5
   refine aU rfl rfl (aA rfl) rfl c56 (cQ (aA rfl) (.func _ _ Try.call57) rfl rfl (BVs.refl _ _) (eQ _ _ _ h58) rfl) ?_
   refine aU rfl rfl (aA rfl) rfl c56 (fE (aA rfl) rfl) ?_
   refine tr1 rfl (bQ (v := .d (.lit (.bool (!r57)))) (aA rfl) rfl c56 rfl rfl) ?_
   have h5 := Option.some.inj h5
   subst h5
   refine aI (bT rfl ⟨rfl, trivial⟩ rfl)
 ·refine tr1 rfl (aD (v := .d (.lit (.bool b4))) (aA rfl) rfl rfl) ?_
  obtain ⟨b6, h7, h⟩ := bind_some h
  refine dD 5 [1] 23 b6 ?_ ?_
  ·refine cA (b4) (fun c55 => ?_) (fun c55 => ?_)
   ·have h7 := bB c55 h7
    refine aX rfl rfl (aA rfl) rfl (aA rfl) rfl c55 ?_
    refine aX rfl rfl (aA rfl) rfl (aA rfl) rfl c55 ?_
    refine aX rfl rfl (aA rfl) rfl (aA rfl) rfl c55 ?_
    refine aX rfl rfl (aA rfl) rfl (aA rfl) rfl c55 ?_
    refine tr1 rfl (bR (v := .d (.lit (.bool true))) (aA rfl) rfl c55 rfl rfl) ?_
    have h7 := Option.some.inj h7
    subst h7
    refine aI (bT rfl ⟨rfl, trivial⟩ rfl)
   ·have h7 := bD c55 h7
    refine aU rfl rfl (aA rfl) rfl c55 (aN (aA rfl) rfl gB) ?_
    refine aU rfl rfl (aA rfl) rfl c55 (aQ (aA rfl) rfl (i := 0) rfl rfl jH) ?_
    refine aU rfl rfl (aA rfl) rfl c55 (dC (aA rfl) rfl eE.of) ?_
    refine aU rfl rfl (aA rfl) rfl c55 (bP (aA rfl) rfl rfl rfl) ?_
    refine tr1 rfl (bQ (v := .d (.lit (.bool ((decide (6 < (p_0.Jobs.length : Int))))))) (aA rfl) rfl c55 rfl rfl) ?_
    have h7 := Option.some.inj h7
    subst h7
    refine aI (bT rfl ⟨rfl, trivial⟩ rfl)
  ·refine aI ?_
   refine cK rfl (fun c8 => ?_) (fun c8 => ?_)
   ·have h := bB c8 h
    refine aH ?_
    refine aE ?_
    refine tr1 rfl (aK (v := .d (.lit (.int .i64 80))) (aA rfl) rfl rfl) ?_
    refine aI ?_
    have h := Option.some.inj h
    subst h
    refine cT (cR (cU (l := [2]) ⟨rfl, trivial⟩)) ?_
    exact cB ⟨rfl, _, .one _, rfl, rfl⟩
   ·have h := bD c8 h
    refine cF ?_
    refine aH ?_
    refine aH ?_
    refine aE ?_
    refine tr1 rfl (aN (aA rfl) rfl lF) ?_
    refine tr1 rfl (aQ (aA rfl) rfl (i := 0) rfl rfl oS) ?_
    refine tr1 rfl (dC (aA rfl) rfl oX.of) ?_
    refine tr1 rfl (aD (v := .d (.lit (.int .i64 0))) (aA rfl) rfl rfl) ?_
    refine aI ?_
    refine cW ?_
    refine dY [1, 25, 26] (fun (s9 : Int) => [(27, .d (.lit (.int .i64 s9)))]) (fun (s9 : Int) => [.box b1 0 (bK p_0)]) (fun (k : Nat) (s9 : Int) => pJ p_0.Days (p_0.Days.length : Int) p_0 k s9) (fun _ => rfl) (0) h (bI [0] rfl rfl (aZ rfl (bC ⟨rfl, rfl, rfl, trivial⟩))) ?_
    rintro k10 t27_0_9 h
    simp only [pJ] at h
    refine aH ?_
    refine aE ?_
    refine tr1 rfl (bP (aA rfl) rfl rfl rfl) ?_
    refine aI ?_
    refine aH ?_
    refine cK rfl (fun c11 => ?_) (fun c11 => ?_)
    ·have h := bB c11 h
     refine cF ?_
     refine aH ?_
     refine cW ?_
     refine aH ?_
     refine aE ?_
     obtain ⟨x12, h13, h⟩ := bind_some h
     refine tr1 rfl (bU (aA rfl) rfl rfl oX.of (cE bH h13)) ?_
     refine tr1 rfl (cJ (aA rfl) rfl uJ) ?_
     refine tr1 rfl (aK (v := .d (.sl 2 (x12.map bA))) (aA rfl) rfl rfl) ?_
     refine aI ?_
     refine aH ?_
     refine aH ?_
     refine aE ?_
     refine tr1 rfl (aD (v := .d (.sl 2 (x12.map bA))) (aA rfl) rfl rfl) ?_
     refine tr1 rfl (dC (aA rfl) rfl kC.of) ?_
     obtain ⟨r14, h15, h⟩ := bind_some h
     refine tr1 rfl (cQ (aA rfl) (.func _ _ Try.call57) rfl rfl (BVs.refl _ _) (eQ _ _ _ h15) rfl) ?_
     refine tr1 rfl (fE (aA rfl) rfl) ?_
     refine tr1 rfl (aD (v := .d (.lit (.bool (!r14)))) (aA rfl) rfl rfl) ?_
     obtain ⟨b16, h17, h⟩ := bind_some h
     refine dD 9 [1, 4, 25, 26, 27] 44 b16 ?_ ?_
     ·refine cA (!r14) (fun c23 => ?_) (fun c23 => ?_)
      ·have h17 := bB c23 h17
       refine aX rfl rfl (aA rfl) rfl (aA rfl) rfl c23 ?_
       refine aX rfl rfl (aA rfl) rfl (aA rfl) rfl c23 ?_
       refine aX rfl rfl (aA rfl) rfl (aA rfl) rfl c23 ?_
       refine aX rfl rfl (aA rfl) rfl (aA rfl) rfl c23 ?_
       refine aX rfl rfl (aA rfl) rfl (aA rfl) rfl c23 ?_
       refine aX rfl rfl (aA rfl) rfl (aA rfl) rfl c23 ?_
       refine aX rfl rfl (aA rfl) rfl (aA rfl) rfl c23 ?_
       refine aX rfl rfl (aA rfl) rfl (aA rfl) rfl c23 ?_
       refine tr1 rfl (bR (v := .d (.lit (.bool true))) (aA rfl) rfl c23 rfl rfl) ?_
       have h17 := Option.some.inj h17
       subst h17
       refine aI (bT rfl ⟨rfl, rfl, rfl, rfl, rfl, trivial⟩ rfl)
      ·have h17 := bD c23 h17
       refine aU rfl rfl (aA rfl) rfl c23 (aD (v := .d (.sl 2 (x12.map bA))) (aA rfl) rfl rfl) ?_
       refine aU rfl rfl (aA rfl) rfl c23 (dC (aA rfl) rfl kC.of) ?_
       refine aU rfl rfl (aA rfl) rfl c23 (aN (aA rfl) rfl lF) ?_
       refine aU rfl rfl (aA rfl) rfl c23 (aQ (aA rfl) rfl (i := 0) rfl rfl oS) ?_
       obtain ⟨x24, h25, h17⟩ := bind_some h17
       refine aU rfl rfl (aA rfl) rfl c23 (bU (aA rfl) rfl rfl oX.of (cE bH h25)) ?_
       refine aU rfl rfl (aA rfl) rfl c23 (cJ (aA rfl) rfl uJ) ?_
       refine aU rfl rfl (aA rfl) rfl c23 (dC (aA rfl) rfl kC.of) ?_
       refine aU rfl rfl (aA rfl) rfl c23 (bP (aA rfl) rfl rfl rfl) ?_
       refine tr1 rfl (bQ (v := .d (.lit (.bool ((!decide ((x12.length : Int) = (x24.length : Int))))))) (aA rfl) rfl c23 rfl rfl) ?_
       have h17 := Option.some.inj h17
       subst h17
       refine aI (bT rfl ⟨rfl, rfl, rfl, rfl, rfl, trivial⟩ rfl)
     ·refine aI ?_
      refine cK rfl (fun c18 => ?_) (fun c18 => ?_)
      ·have h := bB c18 h
       refine aH ?_
       refine aE ?_
       refine tr1 rfl (aK (v := .d (.lit (.int .i64 80))) (aA rfl) rfl rfl) ?_
       refine aI ?_
       have h := Option.some.inj h
       subst h
       refine cT (cR (cU (l := [2]) ⟨rfl, trivial⟩)) ?_
       exact cB ⟨rfl, _, .one _, rfl, rfl⟩
      ·have h := bD c18 h
       refine cF ?_
       refine aH ?_
       refine aE ?_
       refine tr1 rfl (aD (v := .d (.sl 2 (x12.map bA))) (aA rfl) rfl rfl) ?_
       obtain ⟨r20, h21, h⟩ := bind_some h
       refine tr1 rfl (cQ (aA rfl) (.func _ _ Try.call58) rfl rfl (BVs.refl _ _) (qZ _ _ 59 [] Try.call59 (fun _ _ h => aDq _ h) h21) rfl) ?_
       refine aI ?_
       refine cK rfl (fun c22 => ?_) (fun c22 => ?_)
       ·have h := bB c22 h
        refine aH ?_
        refine aE ?_
        refine tr1 rfl (aK (v := .d (.lit (.int .i64 80))) (aA rfl) rfl rfl) ?_
        refine aI ?_
        have h := Option.some.inj h
        subst h
        refine cT (cR (cU (l := [2]) ⟨rfl, trivial⟩)) ?_
        exact cB ⟨rfl, _, .one _, rfl, rfl⟩
       ·have h := bD c22 h
        refine fB ?_
        refine aE ?_
        refine tr1 rfl (cG (aA rfl) rfl rfl rfl) ?_
        refine tr1 rfl (aD (v := .d (.lit (.int .i64 ((w64 (t27_0_9 + 1)))))) (aA rfl) rfl rfl) ?_
        refine aI ?_
        exact ⟨(w64 (t27_0_9 + 1)), h, bI [0] rfl rfl (aZ rfl (bC ⟨rfl, rfl, rfl, trivial⟩))⟩
    ·have h := bD c11 h
     refine dO ?_
     refine .inl ⟨rfl, ?_⟩
     simp only [xW] at h
     refine aH ?_
     refine aH ?_
     refine aE ?_
     refine tr1 rfl (aN (aA rfl) rfl gB) ?_
     refine tr1 rfl (aQ (aA rfl) rfl (i := 0) rfl rfl jH) ?_
     refine tr1 rfl (dC (aA rfl) rfl eE.of) ?_
     refine tr1 rfl (aD (v := .d (.lit (.int .i64 0))) (aA rfl) rfl rfl) ?_
     refine aI ?_
     refine cW ?_
     refine dY [1, 49, 50] (fun (s26 : Int) => [(51, .d (.lit (.int .i64 s26)))]) (fun (s26 : Int) => [.box b1 0 (bK p_0)]) (fun (k : Nat) (s26 : Int) => pK p_0.Jobs (p_0.Jobs.length : Int) p_0 k s26) (fun _ => rfl) (0) h (bI [0] rfl rfl (aZ rfl (bC ⟨rfl, rfl, rfl, trivial⟩))) ?_
     rintro k27 t51_2_26 h
     simp only [pK] at h
     refine aH ?_
     refine aE ?_
     refine tr1 rfl (bP (aA rfl) rfl rfl rfl) ?_
     refine aI ?_
     refine aH ?_
     refine cK rfl (fun c28 => ?_) (fun c28 => ?_)
     ·have h := bB c28 h
      refine cF ?_
      refine aH ?_
      refine cW ?_
      refine aH ?_
      refine aE ?_
      refine tr1 rfl (aD (v := .d (.lit (.int .i64 t51_2_26))) (aA rfl) rfl rfl) ?_
      obtain ⟨x29, h30, h⟩ := bind_some h
      refine tr1 rfl (bU (aA rfl) rfl rfl eE.of (cE aT h30)) ?_
      refine tr1 rfl (dE (aA rfl) rfl yM (es := (aT x29)) rfl rfl) ?_
      refine cI rfl (dM (zs := [.lit (.int .i64 0), .lit (.int .i64 0), .sl 1 ((([] : List Int)).map aW), .sl 1 ((([] : List Int)).map aW), .lit (.int .i64 0), .lit (.int .i64 0)]) (aA rfl) Try.zeroValue36 rfl rfl) ?_
      rintro _ ⟨b31, rfl⟩
      refine tr1 rfl (aK (v := .d (.lit (.int .i64 t51_2_26))) (aA rfl) rfl rfl) ?_
      refine tr1 rfl (cL (i := 1) rfl rfl rfl rfl rfl Try.sizeOf36 rfl (aA rfl) (Nat.le_of_ble_eq_true rfl) (ds' := (aT x29)) rfl) ?_
      refine aI ?_
      refine aH ?_
      refine aE ?_
      refine tr1 rfl (aN (aA rfl) rfl mO) ?_
      refine tr1 rfl (bO (aA rfl) rfl (i := 1) rfl gM (es := (bA x29.Length)) rfl rfl) ?_
      refine tr1 rfl (aN (aA rfl) rfl mP) ?_
      refine tr1 rfl (aQ (aA rfl) rfl (i := 1) rfl rfl bL) ?_
      obtain ⟨r32, h33, h⟩ := bind_some h
      refine tr1 rfl (cQ (aA rfl) (.func _ _ Try.call61) rfl rfl (BVs.refl _ _) (wL _ _ h33) rfl) ?_
      refine tr1 rfl (fE (aA rfl) rfl) ?_
      refine tr1 rfl (aD (v := .d (.lit (.bool (!r32)))) (aA rfl) rfl rfl) ?_
      obtain ⟨b34, h35, h⟩ := bind_some h
      refine dD 5 [1, 5, 6, 49, 50, 51] 67 b34 ?_ ?_
      ·refine cA (!r32) (fun c52 => ?_) (fun c52 => ?_)
       ·have h35 := bB c52 h35
        refine aX rfl rfl (aA rfl) rfl (aA rfl) rfl c52 ?_
        refine aX rfl rfl (aA rfl) rfl (aA rfl) rfl c52 ?_
        refine aX rfl rfl (aA rfl) rfl (aA rfl) rfl c52 ?_
        refine aX rfl rfl (aA rfl) rfl (aA rfl) rfl c52 ?_
        refine tr1 rfl (bR (v := .d (.lit (.bool true))) (aA rfl) rfl c52 rfl rfl) ?_
        have h35 := Option.some.inj h35
        subst h35
        refine aI (bT rfl ⟨rfl, rfl, rfl, rfl, rfl, rfl, trivial⟩ rfl)
       ·have h35 := bD c52 h35
        refine aU rfl rfl (aA rfl) rfl c52 (aN (aA rfl) rfl uC) ?_
        refine aU rfl rfl (aA rfl) rfl c52 (aQ (aA rfl) rfl (i := 1) rfl rfl bL) ?_
        obtain ⟨r53, h54, h35⟩ := bind_some h35
        refine aU rfl rfl (aA rfl) rfl c52 (cQ (aA rfl) (.func _ _ Try.call57) rfl rfl (BVs.refl _ _) (eQ _ _ _ h54) rfl) ?_
        refine aU rfl rfl (aA rfl) rfl c52 (fE (aA rfl) rfl) ?_
        refine tr1 rfl (bQ (v := .d (.lit (.bool (!r53)))) (aA rfl) rfl c52 rfl rfl) ?_
        have h35 := Option.some.inj h35
        subst h35
        refine aI (bT rfl ⟨rfl, rfl, rfl, rfl, rfl, rfl, trivial⟩ rfl)
      ·refine tr1 rfl (aD (v := .d (.lit (.bool b34))) (aA rfl) rfl rfl) ?_
       obtain ⟨b36, h37, h⟩ := bind_some h
       refine dD 6 [1, 5, 6, 49, 50, 51] 74 b36 ?_ ?_
       ·refine cA (b34) (fun c49 => ?_) (fun c49 => ?_)
        ·have h37 := bB c49 h37
         refine aX rfl rfl (aA rfl) rfl (aA rfl) rfl c49 ?_
         refine aX rfl rfl (aA rfl) rfl (aA rfl) rfl c49 ?_
         refine aX rfl rfl (aA rfl) rfl (aA rfl) rfl c49 ?_
         refine aX rfl rfl (aA rfl) rfl (aA rfl) rfl c49 ?_
         refine aX rfl rfl (aA rfl) rfl (aA rfl) rfl c49 ?_
         refine tr1 rfl (bR (v := .d (.lit (.bool true))) (aA rfl) rfl c49 rfl rfl) ?_
         have h37 := Option.some.inj h37
         subst h37
         refine aI (bT rfl ⟨rfl, rfl, rfl, rfl, rfl, rfl, trivial⟩ rfl)
        ·have h37 := bD c49 h37
         refine aU rfl rfl (aA rfl) rfl c49 (aN (aA rfl) rfl nN) ?_
         refine aU rfl rfl (aA rfl) rfl c49 (aQ (aA rfl) rfl (i := 1) rfl rfl eI) ?_
         refine aU rfl rfl (aA rfl) rfl c49 (aD (v := .d (.lit (.int .i64 t51_2_26))) (aA rfl) rfl rfl) ?_
         obtain ⟨r50, h51, h37⟩ := bind_some h37
         refine aU rfl rfl (aA rfl) rfl c49 (cQ (aA rfl) (.func _ _ Try.call62) rfl rfl (BVs.refl _ _) (wJ _ _ h51) rfl) ?_
         refine aU rfl rfl (aA rfl) rfl c49 (fE (aA rfl) rfl) ?_
         refine tr1 rfl (bQ (v := .d (.lit (.bool (!r50)))) (aA rfl) rfl c49 rfl rfl) ?_
         have h37 := Option.some.inj h37
         subst h37
         refine aI (bT rfl ⟨rfl, rfl, rfl, rfl, rfl, rfl, trivial⟩ rfl)
       ·refine tr1 rfl (aD (v := .d (.lit (.bool b36))) (aA rfl) rfl rfl) ?_
        obtain ⟨b38, h39, h⟩ := bind_some h
        refine dD 8 [1, 5, 6, 49, 50, 51] 83 b38 ?_ ?_
        ·refine cA (b36) (fun c46 => ?_) (fun c46 => ?_)
         ·have h39 := bB c46 h39
          refine aX rfl rfl (aA rfl) rfl (aA rfl) rfl c46 ?_
          refine aX rfl rfl (aA rfl) rfl (aA rfl) rfl c46 ?_
          refine aX rfl rfl (aA rfl) rfl (aA rfl) rfl c46 ?_
          refine aX rfl rfl (aA rfl) rfl (aA rfl) rfl c46 ?_
          refine aX rfl rfl (aA rfl) rfl (aA rfl) rfl c46 ?_
          refine aX rfl rfl (aA rfl) rfl (aA rfl) rfl c46 ?_
          refine aX rfl rfl (aA rfl) rfl (aA rfl) rfl c46 ?_
          refine tr1 rfl (bR (v := .d (.lit (.bool true))) (aA rfl) rfl c46 rfl rfl) ?_
          have h39 := Option.some.inj h39
          subst h39
          refine aI (bT rfl ⟨rfl, rfl, rfl, rfl, rfl, rfl, trivial⟩ rfl)
         ·have h39 := bD c46 h39
          refine aU rfl rfl (aA rfl) rfl c46 (aN (aA rfl) rfl uB) ?_
          refine aU rfl rfl (aA rfl) rfl c46 (aQ (aA rfl) rfl (i := 1) rfl rfl eI) ?_
          refine aU rfl rfl (aA rfl) rfl c46 (aN (aA rfl) rfl gB) ?_
          refine aU rfl rfl (aA rfl) rfl c46 (aQ (aA rfl) rfl (i := 0) rfl rfl jH) ?_
          refine aU rfl rfl (aA rfl) rfl c46 (dC (aA rfl) rfl eE.of) ?_
          obtain ⟨r47, h48, h39⟩ := bind_some h39
          refine aU rfl rfl (aA rfl) rfl c46 (cQ (aA rfl) (.func _ _ Try.call62) rfl rfl (BVs.refl _ _) (wJ _ _ h48) rfl) ?_
          refine aU rfl rfl (aA rfl) rfl c46 (fE (aA rfl) rfl) ?_
          refine tr1 rfl (bQ (v := .d (.lit (.bool (!r47)))) (aA rfl) rfl c46 rfl rfl) ?_
          have h39 := Option.some.inj h39
          subst h39
          refine aI (bT rfl ⟨rfl, rfl, rfl, rfl, rfl, rfl, trivial⟩ rfl)
        ·refine tr1 rfl (aD (v := .d (.lit (.bool b38))) (aA rfl) rfl rfl) ?_
         obtain ⟨b40, h41, h⟩ := bind_some h
         refine dD 5 [1, 49, 50, 51] 89 b40 ?_ ?_
         ·refine cA (b38) (fun c43 => ?_) (fun c43 => ?_)
          ·have h41 := bB c43 h41
           refine aX rfl rfl (aA rfl) rfl (aA rfl) rfl c43 ?_
           refine aX rfl rfl (aA rfl) rfl (aA rfl) rfl c43 ?_
           refine aX rfl rfl (aA rfl) rfl (aA rfl) rfl c43 ?_
           refine aX rfl rfl (aA rfl) rfl (aA rfl) rfl c43 ?_
           refine tr1 rfl (bR (v := .d (.lit (.bool true))) (aA rfl) rfl c43 rfl rfl) ?_
           have h41 := Option.some.inj h41
           subst h41
           refine aI (bT rfl ⟨rfl, rfl, rfl, rfl, trivial⟩ rfl)
          ·have h41 := bD c43 h41
           refine aU rfl rfl (aA rfl) rfl c43 (aN (aA rfl) rfl uB) ?_
           refine aU rfl rfl (aA rfl) rfl c43 (aQ (aA rfl) rfl (i := 1) rfl rfl eI) ?_
           refine aU rfl rfl (aA rfl) rfl c43 (aD (v := .d (.lit (.int .i64 t51_2_26))) (aA rfl) rfl rfl) ?_
           obtain ⟨r44, h45, h41⟩ := bind_some h41
           refine aU rfl rfl (aA rfl) rfl c43 (cQ (aA rfl) (.func _ _ Try.call63) rfl rfl (BVs.refl _ _) (eO _ _ h45) rfl) ?_
           refine tr1 rfl (bQ (v := .d (.lit (.bool r44))) (aA rfl) rfl c43 rfl rfl) ?_
           have h41 := Option.some.inj h41
           subst h41
           refine aI (bT rfl ⟨rfl, rfl, rfl, rfl, trivial⟩ rfl)
         ·refine aI ?_
          refine cK rfl (fun c42 => ?_) (fun c42 => ?_)
          ·have h := bB c42 h
           refine aH ?_
           refine aE ?_
           refine tr1 rfl (aK (v := .d (.lit (.int .i64 80))) (aA rfl) rfl rfl) ?_
           refine aI ?_
           have h := Option.some.inj h
           subst h
           refine cT (cR (cU (l := [2]) ⟨rfl, trivial⟩)) ?_
           exact cB ⟨rfl, _, .one _, rfl, rfl⟩
          ·have h := bD c42 h
           refine fB ?_
           refine aE ?_
           refine tr1 rfl (cG (aA rfl) rfl rfl rfl) ?_
           refine tr1 rfl (aD (v := .d (.lit (.int .i64 ((w64 (t51_2_26 + 1)))))) (aA rfl) rfl rfl) ?_
           refine aI ?_
           exact ⟨(w64 (t51_2_26 + 1)), h, bI [0] rfl rfl (aZ rfl (bC ⟨rfl, rfl, rfl, trivial⟩))⟩
     ·have h := bD c28 h
      refine dO ?_
      refine .inl ⟨rfl, ?_⟩
      simp only [xX] at h
      refine aH ?_
      refine aE ?_
      refine tr1 rfl (aK (v := .d (.lit (.int .i64 0))) (aA rfl) rfl rfl) ?_
      refine aI ?_
      have h := Option.some.inj h
      subst h
      refine cT (cR (cU (l := [2]) ⟨rfl, trivial⟩)) ?_
      exact cB ⟨rfl, _, .one _, rfl, rfl⟩

theorem vW (s_0 : List Int) (f_1 : Int → Option Bool) {r : Int} (f_1_f : Nat) (f_1_v : List AV) (f_1_e : ∀ args w, (callFunc f_1_f args).run Try.prog w = .ok (.enter f_1_f args) w) (f_1_h : ∀ (x0 : Int) r, f_1 x0 = some r → Fn Try.prog f_1_f ([.d (.lit (.int .i64 x0))] ++ f_1_v) (.d (.lit (.bool r)))) (h : nO s_0 f_1 = some r) : Fn Try.prog 108 [.d (.sl 1 (s_0.map aW)), .fn f_1_f f_1_v] (.d (.lit (.int .i64 r))) := by
 unfold nO at h
 refine Fn.of_tr Try.func108 rfl (rs := [.tmp 4]) Try.results108 Try.ntmps108 (Nat.le_of_ble_eq_true rfl) ?_
 refine aH ?_
 refine aE ?_
 refine tr1 rfl (aK (v := .d (.lit (.int .i64 0))) (aA rfl) rfl rfl) ?_
 refine aI ?_
 refine aH ?_
 refine aH ?_
 refine aE ?_
 refine tr1 rfl (aD (v := .d (.sl 1 (s_0.map aW))) (aA rfl) rfl rfl) ?_
 refine tr1 rfl (dC (aA rfl) rfl dV.of) ?_
 refine tr1 rfl (aD (v := .d (.lit (.int .i64 0))) (aA rfl) rfl rfl) ?_
 refine aI ?_
 refine cW ?_
 refine dY [0, 1, 7] (fun (s1 : Int) => [(8, .d (.lit (.int .i64 s1)))]) (fun (s1 : Int) => []) (fun (k : Nat) (s1 : Int) => jT s_0 f_1 (s_0.length : Int) k s1) (fun _ => rfl) (0) h (bI [] rfl rfl (aZ rfl (bC ⟨rfl, rfl, rfl, trivial⟩))) ?_
 rintro k2 t8_0_1 h
 simp only [jT] at h
 refine aH ?_
 refine aE ?_
 refine tr1 rfl (bP (aA rfl) rfl rfl rfl) ?_
 refine aI ?_
 refine aH ?_
 refine cK rfl (fun c3 => ?_) (fun c3 => ?_)
 ·have h := bB c3 h
  refine cF ?_
  refine aH ?_
  refine cW ?_
  refine aH ?_
  refine aE ?_
  refine tr1 rfl (aD (v := .d (.lit (.int .i64 t8_0_1))) (aA rfl) rfl rfl) ?_
  refine tr1 rfl (aK (v := .d (.lit (.int .i64 t8_0_1))) (aA rfl) rfl rfl) ?_
  refine aI ?_
  refine aH ?_
  refine aE ?_
  refine tr1 rfl (aD (v := .fn f_1_f f_1_v) (aA rfl) rfl rfl) ?_
  refine tr1 rfl (aD (v := .d (.sl 1 (s_0.map aW))) (aA rfl) rfl rfl) ?_
  refine tr1 rfl (aD (v := .d (.lit (.int .i64 t8_0_1))) (aA rfl) rfl rfl) ?_
  obtain ⟨x4, h5, h⟩ := bind_some h
  refine tr1 rfl (bU (aA rfl) rfl rfl dV.of (cE aW h5)) ?_
  refine tr1 rfl (cJ (aA rfl) rfl bL) ?_
  obtain ⟨r6, h7, h⟩ := bind_some h
  refine tr1 rfl (cQ (aA rfl) (.clo _ _ _ _ f_1_e rfl) (yS rfl) rfl (BVs.refl _ _) (f_1_h _ _  h7) rfl) ?_
  refine aI ?_
  refine cK rfl (fun c8 => ?_) (fun c8 => ?_)
  ·have h := bB c8 h
   refine aH ?_
   refine aE ?_
   refine tr1 rfl (aD (v := .d (.lit (.int .i64 t8_0_1))) (aA rfl) rfl rfl) ?_
   refine tr1 rfl (aK (v := .d (.lit (.int .i64 t8_0_1))) (aA rfl) rfl rfl) ?_
   refine aI ?_
   have h := Option.some.inj h
   subst h
   exact cB ⟨rfl, _, .one _, rfl, rfl⟩
  ·have h := bD c8 h
   refine fB ?_
   refine aE ?_
   refine tr1 rfl (cG (aA rfl) rfl rfl rfl) ?_
   refine tr1 rfl (aD (v := .d (.lit (.int .i64 ((w64 (t8_0_1 + 1)))))) (aA rfl) rfl rfl) ?_
   refine aI ?_
   exact ⟨(w64 (t8_0_1 + 1)), h, bI [] rfl rfl (aZ rfl (bC ⟨rfl, rfl, rfl, trivial⟩))⟩
 ·have h := bD c3 h
  refine dO ?_
  refine .inl ⟨rfl, ?_⟩
  simp only [oY] at h
  refine aH ?_
  refine aE ?_
  refine tr1 rfl (aK (v := .d (.lit (.int .i64 (-1)))) (aA rfl) rfl rfl) ?_
  refine aI ?_
  have h := Option.some.inj h
  subst h
  exact cB ⟨rfl, _, .one _, rfl, rfl⟩

theorem tK (s_0 : List Int) (f_1 : Int → Option Bool) {r : Bool} (f_1_f : Nat) (f_1_v : List AV) (f_1_e : ∀ args w, (callFunc f_1_f args).run Try.prog w = .ok (.enter f_1_f args) w) (f_1_h : ∀ (x0 : Int) r, f_1 x0 = some r → Fn Try.prog f_1_f ([.d (.lit (.int .i64 x0))] ++ f_1_v) (.d (.lit (.bool r)))) (h : lX s_0 f_1 = some r) : Fn Try.prog 84 [.d (.sl 1 (s_0.map aW)), .fn f_1_f f_1_v] (.d (.lit (.bool r))) := by
 unfold lX at h
 refine Fn.of_tr Try.func84 rfl (rs := [.tmp 4]) Try.results84 Try.ntmps84 (Nat.le_of_ble_eq_true rfl) ?_
 refine aH ?_
 refine aE ?_
 refine tr1 rfl (aK (v := .d (.lit (.bool false))) (aA rfl) rfl rfl) ?_
 refine aI ?_
 refine aH ?_
 refine aE ?_
 refine tr1 rfl (aD (v := .d (.sl 1 (s_0.map aW))) (aA rfl) rfl rfl) ?_
 refine tr1 rfl (aD (v := .fn f_1_f f_1_v) (aA rfl) rfl rfl) ?_
 obtain ⟨r1, h2, h⟩ := bind_some h
 refine tr1 rfl (cQ (aA rfl) (.func _ _ Try.call108) rfl rfl (BVs.refl _ _) (vW _ _ f_1_f f_1_v f_1_e f_1_h h2) rfl) ?_
 refine tr1 rfl (bP (aA rfl) rfl rfl rfl) ?_
 refine tr1 rfl (aK (v := .d (.lit (.bool ((decide (0 ≤ r1)))))) (aA rfl) rfl rfl) ?_
 refine aI ?_
 have h := Option.some.inj h
 subst h
 exact cB ⟨rfl, _, .one _, rfl, rfl⟩

theorem aBp (n_0 : Int) (c_1 : List Int) {r : Bool} (h : rT n_0 c_1 = some r) : Fn Try.prog 85 [.d (.lit (.int .i64 n_0)), .cp [.sl 1 (c_1.map aW)]] (.d (.lit (.bool r))) := by
 unfold rT at h
 refine Fn.of_tr Try.func85 rfl (rs := [.tmp 3]) Try.results85 Try.ntmps85 (Nat.le_of_ble_eq_true rfl) ?_
 refine aH ?_
 refine aE ?_
 refine tr1 rfl (aK (v := .d (.lit (.bool false))) (aA rfl) rfl rfl) ?_
 refine aI ?_
 refine aH ?_
 refine aE ?_
 refine tr1 rfl (cJ (aA rfl) rfl eI) ?_
 refine tr1 rfl (aD (v := .d (.lit (.int .i64 n_0))) (aA rfl) rfl rfl) ?_
 obtain ⟨r1, h2, h⟩ := bind_some h
 refine tr1 rfl (cQ (aA rfl) (.func _ _ Try.call63) rfl rfl (BVs.refl _ _) (eO _ _ h2) rfl) ?_
 refine tr1 rfl (fE (aA rfl) rfl) ?_
 refine tr1 rfl (aK (v := .d (.lit (.bool (!r1)))) (aA rfl) rfl rfl) ?_
 refine aI ?_
 have h := Option.some.inj h
 subst h
 exact cB ⟨rfl, _, .one _, rfl, rfl⟩

theorem wK (p_0 : cP) (order_1 : List bM) {r : Bool} (h : qP p_0 order_1 = some r) : Fn Try.prog 50 [.agg (bK p_0), .d (.sl 3 (order_1.map aR))] (.d (.lit (.bool r))) := by
 unfold qP at h
 refine Fn.of_tr Try.func50 rfl (rs := [.tmp 4]) Try.results50 Try.ntmps50 (Nat.le_of_ble_eq_true rfl) ?_
 refine aH ?_
 refine aE ?_
 refine cI rfl (eU (v := .agg (bK p_0)) (aA rfl) rfl rfl rfl) ?_
 rintro _ ⟨b1, rfl⟩
 refine tr1 rfl (aK (v := .d (.lit (.bool false))) (aA rfl) rfl rfl) ?_
 refine aI ?_
 refine aH ?_
 refine aE ?_
 refine cI rfl (dM (zs := [.lit (.slice none 0 0)]) (aA rfl) Try.zeroValue27 rfl rfl) ?_
 rintro _ ⟨b2, rfl⟩
 refine lB (wX 3 1) ?_
 refine aI ?_
 refine aH ?_
 refine aH ?_
 refine aE ?_
 refine tr1 rfl (aD (v := .d (.sl 3 (order_1.map aR))) (aA rfl) rfl rfl) ?_
 refine tr1 rfl (dC (aA rfl) rfl oH.of) ?_
 refine tr1 rfl (aD (v := .d (.lit (.int .i64 0))) (aA rfl) rfl rfl) ?_
 refine aI ?_
 refine cW ?_
 refine dY [1, 2, 5, 10, 11] (fun (s3 : Int × (List Int) × Value) => [(12, .d (.lit (.int .i64 s3.1)))]) (fun (s3 : Int × (List Int) × Value) => [.box b1 0 (bK p_0), .arr s3.2.2 3 1 (s3.2.1.map aW), .box b2 0 [.lit s3.2.2]]) (fun (k : Nat) (s3 : Int × (List Int) × Value) => oG order_1 order_1 (order_1.length : Int) p_0 k s3.1 s3.2.1) (fun _ => rfl) (0, ([] : List Int), (.slice none 0 0)) h (bI [0, 2, 1] rfl rfl (aZ rfl (bC ⟨rfl, rfl, rfl, rfl, rfl, trivial⟩))) ?_
 rintro k5 ⟨t12_0_3, done_0_3, w4⟩ h
 simp only [oG] at h
 refine aH ?_
 refine aE ?_
 refine tr1 rfl (bP (aA rfl) rfl rfl rfl) ?_
 refine aI ?_
 refine aH ?_
 refine cK rfl (fun c6 => ?_) (fun c6 => ?_)
 ·have h := bB c6 h
  refine cF ?_
  refine aH ?_
  refine cW ?_
  refine aH ?_
  refine aE ?_
  refine tr1 rfl (aD (v := .d (.lit (.int .i64 t12_0_3))) (aA rfl) rfl rfl) ?_
  obtain ⟨x7, h8, h⟩ := bind_some h
  refine tr1 rfl (bU (aA rfl) rfl rfl oH.of (cE aR h8)) ?_
  refine tr1 rfl (dE (aA rfl) rfl lD (es := (aR x7)) rfl rfl) ?_
  refine cI rfl (dM (zs := [.lit (.int .i64 0), .lit (.int .i64 0), .lit (.int .i64 0)]) (aA rfl) Try.zeroValue45 rfl rfl) ?_
  rintro _ ⟨b9, rfl⟩
  refine tr1 rfl (aK (v := .d (.lit (.int .i64 t12_0_3))) (aA rfl) rfl rfl) ?_
  refine tr1 rfl (cL (i := 3) rfl rfl rfl rfl rfl Try.sizeOf45 rfl (aA rfl) (Nat.le_of_ble_eq_true rfl) (ds' := (aR x7)) rfl) ?_
  refine aI ?_
  refine aH ?_
  refine aH ?_
  obtain ⟨r10, h11, h⟩ := bind_some h
  obtain ⟨b12, h13, h⟩ := bind_some h
  obtain ⟨b17, h18, h⟩ := bind_some h
  obtain ⟨b22, h23, h⟩ := bind_some h
  refine eS mix 36 [1, 2, 5, 6, 7, 10, 11, 12] [(52, .d (.lit (.bool b22)))] ?_ ?_
  ·refine cA (!r10) (fun c14 => ?_) (fun c14 => ?_)
   ·have h13 := bB c14 h13
    have h13 := Option.some.inj h13
    subst h13
    have c19 : true = true := rfl
    have h18 := bB c19 h18
    have h18 := Option.some.inj h18
    subst h18
    have c24 : true = true := rfl
    have h23 := bB c24 h23
    have h23 := Option.some.inj h23
    subst h23
    refine ⟨[(17, 0, .bp b9 0 0), (18, 1, .d (.lit (.int .i64 x7.Job))), (19, 2, .bp b1 0 2), (20, 3, .d (.sl 6 (p_0.Jobs.map aT))), (21, 4, .d (.lit (.int .i64 ((p_0.Jobs.length : Int))))), (22, 5, .d (.lit (.int .i64 ((w64 ((p_0.Jobs.length : Int) - 1)))))), (23, 6, .d (.lit (.bool r10))), (24, 7, .d (.lit (.bool (!r10)))), (25, 8, .d (.lit (.bool (!r10)))), (26, 9, .tup []), (27, 10, .tup []), (28, 11, .tup []), (29, 12, .tup []), (30, 13, .d (.lit (.bool true))), (31, 14, .d (.lit (.bool (true)))), (32, 15, .tup []), (33, 16, .tup []), (34, 17, .tup []), (35, 18, .tup []), (36, 19, .tup []), (37, 20, .tup []), (38, 21, .tup []), (39, 22, .tup []), (40, 23, .d (.lit (.bool true))), (41, 24, .d (.lit (.bool (true)))), (42, 25, .tup []), (43, 26, .tup []), (44, 27, .tup []), (45, 28, .tup []), (46, 29, .tup []), (47, 30, .tup []), (48, 31, .tup []), (49, 32, .tup []), (50, 33, .tup []), (51, 34, .tup []), (52, 35, .d (.lit (.bool true)))], ?_, ?_⟩
    · exact ⟨by kernel_rfl, by kernel_rfl, by kernel_rfl, by kernel_rfl, by kernel_rfl, [([], []), ([0], []), ([], []), ([2], []), ([3], []), ([4], []), ([1, 5], []), ([6], []), ([7], []), ([8], []), ([8], []), ([8, 10], []), ([8, 9, 11], []), ([8, 12], []), ([13], []), ([14], []), ([14, 15], []), ([14], []), ([14, 17], []), ([14, 18], []), ([14, 19], []), ([14, 16, 20], []), ([14, 21], []), ([14, 22], []), ([23], []), ([24], []), ([24, 25], []), ([24], []), ([24, 27], []), ([24, 28], []), ([24, 29], []), ([24, 30], []), ([24, 31], []), ([24, 26, 32], []), ([24, 33], []), ([24, 34], [])], by kernel_rfl, ⟨fun S hS => aB rfl (aL rfl (aN (aA rfl) (aC hS rfl) fU)),
      fun S hS => aB rfl (aL rfl (aQ (aA rfl) (aC hS rfl) (i := 3) rfl rfl bL)),
      fun S hS => aB rfl (aL rfl (aN (aA rfl) (aC hS rfl) gB)),
      fun S hS => aB rfl (aL rfl (aQ (aA rfl) (aC hS rfl) (i := 0) rfl rfl jH)),
      fun S hS => aB rfl (aL rfl (dC (aA rfl) (aC hS rfl) eE.of)),
      fun S hS => aB rfl (aL rfl (cG (aA rfl) (aC hS rfl) rfl rfl)),
      fun S hS => aB rfl (aL rfl (cQ (aA rfl) (.func _ _ Try.call57) (ev2 (aC hS rfl) (ev2 rfl (ev2 (aC hS rfl) evn))) rfl (BVs.refl _ _) (eQ _ _ _ h11) rfl)),
      fun S hS => aB rfl (aL rfl (fE (aA rfl) (aC hS rfl))),
      fun S hS => aB rfl (aL rfl (aD (v := .d (.lit (.bool (!r10)))) (aA rfl) (aC hS rfl) rfl)),
      fun S hS => aB rfl (aM rfl rfl (aA rfl) rfl (aA rfl) (aF hS rfl) c14),
      fun S hS => aB rfl (aM rfl rfl (aA rfl) rfl (aA rfl) (aF hS rfl) c14),
      fun S hS => aB rfl (aM rfl rfl (aA rfl) rfl (aA rfl) (aF hS rfl) c14),
      fun S hS => aB rfl (aM rfl rfl (aA rfl) rfl (aA rfl) (aF hS rfl) c14),
      fun S hS => aB rfl (aL rfl (bR (v := .d (.lit (.bool true))) (aA rfl) (aC hS rfl) c14 rfl rfl)),
      fun S hS => aB rfl (aL rfl (aD (v := .d (.lit (.bool (true)))) (aA rfl) (aC hS rfl) rfl)),
      fun S hS => aB rfl (aM rfl rfl (aA rfl) rfl (aA rfl) (aF hS rfl) c19),
      fun S hS => aB rfl (aM rfl rfl (aA rfl) rfl (aA rfl) (aF hS rfl) c19),
      fun S hS => aB rfl (aM rfl rfl (aA rfl) rfl (aA rfl) (aF hS rfl) c19),
      fun S hS => aB rfl (aM rfl rfl (aA rfl) rfl (aA rfl) (aF hS rfl) c19),
      fun S hS => aB rfl (aM rfl rfl (aA rfl) rfl (aA rfl) (aF hS rfl) c19),
      fun S hS => aB rfl (aM rfl rfl (aA rfl) rfl (aA rfl) (aF hS rfl) c19),
      fun S hS => aB rfl (aM rfl rfl (aA rfl) rfl (aA rfl) (aF hS rfl) c19),
      fun S hS => aB rfl (aM rfl rfl (aA rfl) rfl (aA rfl) (aF hS rfl) c19),
      fun S hS => aB rfl (aL rfl (bR (v := .d (.lit (.bool true))) (aA rfl) (aC hS rfl) c19 rfl rfl)),
      fun S hS => aB rfl (aL rfl (aD (v := .d (.lit (.bool (true)))) (aA rfl) (aC hS rfl) rfl)),
      fun S hS => aB rfl (aM rfl rfl (aA rfl) rfl (aA rfl) (aF hS rfl) c24),
      fun S hS => aB rfl (aM rfl rfl (aA rfl) rfl (aA rfl) (aF hS rfl) c24),
      fun S hS => aB rfl (aM rfl rfl (aA rfl) rfl (aA rfl) (aF hS rfl) c24),
      fun S hS => aB rfl (aM rfl rfl (aA rfl) rfl (aA rfl) (aF hS rfl) c24),
      fun S hS => aB rfl (aM rfl rfl (aA rfl) rfl (aA rfl) (aF hS rfl) c24),
      fun S hS => aB rfl (aM rfl rfl (aA rfl) rfl (aA rfl) (aF hS rfl) c24),
      fun S hS => aB rfl (aM rfl rfl (aA rfl) rfl (aA rfl) (aF hS rfl) c24),
      fun S hS => aB rfl (aM rfl rfl (aA rfl) rfl (aA rfl) (aF hS rfl) c24),
      fun S hS => aB rfl (aM rfl rfl (aA rfl) rfl (aA rfl) (aF hS rfl) c24),
      fun S hS => aB rfl (aM rfl rfl (aA rfl) rfl (aA rfl) (aF hS rfl) c24),
      fun S hS => aB rfl (aL rfl (bR (v := .d (.lit (.bool true))) (aA rfl) (aC hS rfl) c24 rfl rfl)), trivial⟩⟩
    · exact dB (aZ rfl (bC ⟨rfl, rfl, rfl, rfl, rfl, rfl, rfl, rfl, trivial⟩))
   ·have h13 := bD c14 h13
    obtain ⟨r15, h16, h13⟩ := bind_some h13
    have h13 := Option.some.inj h13
    subst h13
    refine cA (r15) (fun c19 => ?_) (fun c19 => ?_)
    ·have h18 := bB c19 h18
     have h18 := Option.some.inj h18
     subst h18
     have c24 : true = true := rfl
     have h23 := bB c24 h23
     have h23 := Option.some.inj h23
     subst h23
     refine ⟨[(17, 0, .bp b9 0 0), (18, 1, .d (.lit (.int .i64 x7.Job))), (19, 2, .bp b1 0 2), (20, 3, .d (.sl 6 (p_0.Jobs.map aT))), (21, 4, .d (.lit (.int .i64 ((p_0.Jobs.length : Int))))), (22, 5, .d (.lit (.int .i64 ((w64 ((p_0.Jobs.length : Int) - 1)))))), (23, 6, .d (.lit (.bool r10))), (24, 7, .d (.lit (.bool (!r10)))), (25, 8, .d (.lit (.bool (!r10)))), (26, 9, .d (.lit w4)), (27, 10, .bp b9 0 0), (28, 11, .d (.lit (.int .i64 x7.Job))), (29, 12, .d (.lit (.bool r15))), (30, 13, .d (.lit (.bool r15))), (31, 14, .d (.lit (.bool (r15)))), (32, 15, .tup []), (33, 16, .tup []), (34, 17, .tup []), (35, 18, .tup []), (36, 19, .tup []), (37, 20, .tup []), (38, 21, .tup []), (39, 22, .tup []), (40, 23, .d (.lit (.bool true))), (41, 24, .d (.lit (.bool (true)))), (42, 25, .tup []), (43, 26, .tup []), (44, 27, .tup []), (45, 28, .tup []), (46, 29, .tup []), (47, 30, .tup []), (48, 31, .tup []), (49, 32, .tup []), (50, 33, .tup []), (51, 34, .tup []), (52, 35, .d (.lit (.bool true)))], ?_, ?_⟩
     · exact ⟨by kernel_rfl, by kernel_rfl, by kernel_rfl, by kernel_rfl, by kernel_rfl, [([], []), ([0], []), ([], []), ([2], []), ([3], []), ([4], []), ([1, 5], []), ([6], []), ([7], []), ([8], []), ([8], []), ([8, 10], []), ([8, 9, 11], []), ([8, 12], []), ([13], []), ([14], []), ([14, 15], []), ([14], []), ([14, 17], []), ([14, 18], []), ([14, 19], []), ([14, 16, 20], []), ([14, 21], []), ([14, 22], []), ([23], []), ([24], []), ([24, 25], []), ([24], []), ([24, 27], []), ([24, 28], []), ([24, 29], []), ([24, 30], []), ([24, 31], []), ([24, 26, 32], []), ([24, 33], []), ([24, 34], [])], by kernel_rfl, ⟨fun S hS => aB rfl (aL rfl (aN (aA rfl) (aC hS rfl) fU)),
      fun S hS => aB rfl (aL rfl (aQ (aA rfl) (aC hS rfl) (i := 3) rfl rfl bL)),
      fun S hS => aB rfl (aL rfl (aN (aA rfl) (aC hS rfl) gB)),
      fun S hS => aB rfl (aL rfl (aQ (aA rfl) (aC hS rfl) (i := 0) rfl rfl jH)),
      fun S hS => aB rfl (aL rfl (dC (aA rfl) (aC hS rfl) eE.of)),
      fun S hS => aB rfl (aL rfl (cG (aA rfl) (aC hS rfl) rfl rfl)),
      fun S hS => aB rfl (aL rfl (cQ (aA rfl) (.func _ _ Try.call57) (ev2 (aC hS rfl) (ev2 rfl (ev2 (aC hS rfl) evn))) rfl (BVs.refl _ _) (eQ _ _ _ h11) rfl)),
      fun S hS => aB rfl (aL rfl (fE (aA rfl) (aC hS rfl))),
      fun S hS => aB rfl (aL rfl (aD (v := .d (.lit (.bool (!r10)))) (aA rfl) (aC hS rfl) rfl)),
      fun S hS => aB rfl (aO rfl rfl (aA rfl) (aF hS rfl) c14 (aQ (aA rfl) (aC hS rfl) (i := 2) rfl rfl eI)),
      fun S hS => aB rfl (aO rfl rfl (aA rfl) (aF hS rfl) c14 (aN (aA rfl) (aC hS rfl) fU)),
      fun S hS => aB rfl (aO rfl rfl (aA rfl) (aF hS rfl) c14 (aQ (aA rfl) (aC hS rfl) (i := 3) rfl rfl bL)),
      fun S hS => aB rfl (aO rfl rfl (aA rfl) (aF hS rfl) c14 (cQ (aA rfl) (.func _ _ Try.call63) (ev2 (aC hS rfl) (ev2 (aC hS rfl) evn)) rfl (.cons (.d (jF 1 rfl (dT (f := aW) fun _ => rfl))) (.cons (.same _) .nil)) (eO _ _ h16) rfl)),
      fun S hS => aB rfl (aL rfl (bQ (v := .d (.lit (.bool r15))) (aA rfl) (aC hS rfl) c14 (aC hS rfl) rfl)),
      fun S hS => aB rfl (aL rfl (aD (v := .d (.lit (.bool (r15)))) (aA rfl) (aC hS rfl) rfl)),
      fun S hS => aB rfl (aM rfl rfl (aA rfl) rfl (aA rfl) (aF hS rfl) c19),
      fun S hS => aB rfl (aM rfl rfl (aA rfl) rfl (aA rfl) (aF hS rfl) c19),
      fun S hS => aB rfl (aM rfl rfl (aA rfl) rfl (aA rfl) (aF hS rfl) c19),
      fun S hS => aB rfl (aM rfl rfl (aA rfl) rfl (aA rfl) (aF hS rfl) c19),
      fun S hS => aB rfl (aM rfl rfl (aA rfl) rfl (aA rfl) (aF hS rfl) c19),
      fun S hS => aB rfl (aM rfl rfl (aA rfl) rfl (aA rfl) (aF hS rfl) c19),
      fun S hS => aB rfl (aM rfl rfl (aA rfl) rfl (aA rfl) (aF hS rfl) c19),
      fun S hS => aB rfl (aM rfl rfl (aA rfl) rfl (aA rfl) (aF hS rfl) c19),
      fun S hS => aB rfl (aL rfl (bR (v := .d (.lit (.bool true))) (aA rfl) (aC hS rfl) c19 rfl rfl)),
      fun S hS => aB rfl (aL rfl (aD (v := .d (.lit (.bool (true)))) (aA rfl) (aC hS rfl) rfl)),
      fun S hS => aB rfl (aM rfl rfl (aA rfl) rfl (aA rfl) (aF hS rfl) c24),
      fun S hS => aB rfl (aM rfl rfl (aA rfl) rfl (aA rfl) (aF hS rfl) c24),
      fun S hS => aB rfl (aM rfl rfl (aA rfl) rfl (aA rfl) (aF hS rfl) c24),
      fun S hS => aB rfl (aM rfl rfl (aA rfl) rfl (aA rfl) (aF hS rfl) c24),
      fun S hS => aB rfl (aM rfl rfl (aA rfl) rfl (aA rfl) (aF hS rfl) c24),
      fun S hS => aB rfl (aM rfl rfl (aA rfl) rfl (aA rfl) (aF hS rfl) c24),
      fun S hS => aB rfl (aM rfl rfl (aA rfl) rfl (aA rfl) (aF hS rfl) c24),
      fun S hS => aB rfl (aM rfl rfl (aA rfl) rfl (aA rfl) (aF hS rfl) c24),
      fun S hS => aB rfl (aM rfl rfl (aA rfl) rfl (aA rfl) (aF hS rfl) c24),
      fun S hS => aB rfl (aM rfl rfl (aA rfl) rfl (aA rfl) (aF hS rfl) c24),
      fun S hS => aB rfl (aL rfl (bR (v := .d (.lit (.bool true))) (aA rfl) (aC hS rfl) c24 rfl rfl)), trivial⟩⟩
     · exact dB (aZ rfl (bC ⟨rfl, rfl, rfl, rfl, rfl, rfl, rfl, rfl, trivial⟩))
    ·have h18 := bD c19 h18
     obtain ⟨r20, h21, h18⟩ := bind_some h18
     have h18 := Option.some.inj h18
     subst h18
     refine cA (!r20) (fun c24 => ?_) (fun c24 => ?_)
     ·have h23 := bB c24 h23
      have h23 := Option.some.inj h23
      subst h23
      refine ⟨[(17, 0, .bp b9 0 0), (18, 1, .d (.lit (.int .i64 x7.Job))), (19, 2, .bp b1 0 2), (20, 3, .d (.sl 6 (p_0.Jobs.map aT))), (21, 4, .d (.lit (.int .i64 ((p_0.Jobs.length : Int))))), (22, 5, .d (.lit (.int .i64 ((w64 ((p_0.Jobs.length : Int) - 1)))))), (23, 6, .d (.lit (.bool r10))), (24, 7, .d (.lit (.bool (!r10)))), (25, 8, .d (.lit (.bool (!r10)))), (26, 9, .d (.lit w4)), (27, 10, .bp b9 0 0), (28, 11, .d (.lit (.int .i64 x7.Job))), (29, 12, .d (.lit (.bool r15))), (30, 13, .d (.lit (.bool r15))), (31, 14, .d (.lit (.bool (r15)))), (32, 15, .bp b9 0 1), (33, 16, .d (.lit (.int .i64 x7.Day))), (34, 17, .bp b1 0 0), (35, 18, .d (.sl 1 (p_0.Days.map bH))), (36, 19, .d (.lit (.int .i64 ((p_0.Days.length : Int))))), (37, 20, .d (.lit (.int .i64 ((w64 ((p_0.Days.length : Int) - 1)))))), (38, 21, .d (.lit (.bool r20))), (39, 22, .d (.lit (.bool (!r20)))), (40, 23, .d (.lit (.bool (!r20)))), (41, 24, .d (.lit (.bool (!r20)))), (42, 25, .tup []), (43, 26, .tup []), (44, 27, .tup []), (45, 28, .tup []), (46, 29, .tup []), (47, 30, .tup []), (48, 31, .tup []), (49, 32, .tup []), (50, 33, .tup []), (51, 34, .tup []), (52, 35, .d (.lit (.bool true)))], ?_, ?_⟩
      · exact ⟨by kernel_rfl, by kernel_rfl, by kernel_rfl, by kernel_rfl, by kernel_rfl, [([], []), ([0], []), ([], []), ([2], []), ([3], []), ([4], []), ([1, 5], []), ([6], []), ([7], []), ([8], []), ([8], []), ([8, 10], []), ([8, 9, 11], []), ([8, 12], []), ([13], []), ([14], []), ([14, 15], []), ([14], []), ([14, 17], []), ([14, 18], []), ([14, 19], []), ([14, 16, 20], []), ([14, 21], []), ([14, 22], []), ([23], []), ([24], []), ([24, 25], []), ([24], []), ([24, 27], []), ([24, 28], []), ([24, 29], []), ([24, 30], []), ([24, 31], []), ([24, 26, 32], []), ([24, 33], []), ([24, 34], [])], by kernel_rfl, ⟨fun S hS => aB rfl (aL rfl (aN (aA rfl) (aC hS rfl) fU)),
      fun S hS => aB rfl (aL rfl (aQ (aA rfl) (aC hS rfl) (i := 3) rfl rfl bL)),
      fun S hS => aB rfl (aL rfl (aN (aA rfl) (aC hS rfl) gB)),
      fun S hS => aB rfl (aL rfl (aQ (aA rfl) (aC hS rfl) (i := 0) rfl rfl jH)),
      fun S hS => aB rfl (aL rfl (dC (aA rfl) (aC hS rfl) eE.of)),
      fun S hS => aB rfl (aL rfl (cG (aA rfl) (aC hS rfl) rfl rfl)),
      fun S hS => aB rfl (aL rfl (cQ (aA rfl) (.func _ _ Try.call57) (ev2 (aC hS rfl) (ev2 rfl (ev2 (aC hS rfl) evn))) rfl (BVs.refl _ _) (eQ _ _ _ h11) rfl)),
      fun S hS => aB rfl (aL rfl (fE (aA rfl) (aC hS rfl))),
      fun S hS => aB rfl (aL rfl (aD (v := .d (.lit (.bool (!r10)))) (aA rfl) (aC hS rfl) rfl)),
      fun S hS => aB rfl (aO rfl rfl (aA rfl) (aF hS rfl) c14 (aQ (aA rfl) (aC hS rfl) (i := 2) rfl rfl eI)),
      fun S hS => aB rfl (aO rfl rfl (aA rfl) (aF hS rfl) c14 (aN (aA rfl) (aC hS rfl) fU)),
      fun S hS => aB rfl (aO rfl rfl (aA rfl) (aF hS rfl) c14 (aQ (aA rfl) (aC hS rfl) (i := 3) rfl rfl bL)),
      fun S hS => aB rfl (aO rfl rfl (aA rfl) (aF hS rfl) c14 (cQ (aA rfl) (.func _ _ Try.call63) (ev2 (aC hS rfl) (ev2 (aC hS rfl) evn)) rfl (.cons (.d (jF 1 rfl (dT (f := aW) fun _ => rfl))) (.cons (.same _) .nil)) (eO _ _ h16) rfl)),
      fun S hS => aB rfl (aL rfl (bQ (v := .d (.lit (.bool r15))) (aA rfl) (aC hS rfl) c14 (aC hS rfl) rfl)),
      fun S hS => aB rfl (aL rfl (aD (v := .d (.lit (.bool (r15)))) (aA rfl) (aC hS rfl) rfl)),
      fun S hS => aB rfl (aO rfl rfl (aA rfl) (aF hS rfl) c19 (aN (aA rfl) (aC hS rfl) lG)),
      fun S hS => aB rfl (aO rfl rfl (aA rfl) (aF hS rfl) c19 (aQ (aA rfl) (aC hS rfl) (i := 3) rfl rfl bL)),
      fun S hS => aB rfl (aO rfl rfl (aA rfl) (aF hS rfl) c19 (aN (aA rfl) (aC hS rfl) lF)),
      fun S hS => aB rfl (aO rfl rfl (aA rfl) (aF hS rfl) c19 (aQ (aA rfl) (aC hS rfl) (i := 0) rfl rfl oS)),
      fun S hS => aB rfl (aO rfl rfl (aA rfl) (aF hS rfl) c19 (dC (aA rfl) (aC hS rfl) oX.of)),
      fun S hS => aB rfl (aO rfl rfl (aA rfl) (aF hS rfl) c19 (cG (aA rfl) (aC hS rfl) rfl rfl)),
      fun S hS => aB rfl (aO rfl rfl (aA rfl) (aF hS rfl) c19 (cQ (aA rfl) (.func _ _ Try.call57) (ev2 (aC hS rfl) (ev2 rfl (ev2 (aC hS rfl) evn))) rfl (BVs.refl _ _) (eQ _ _ _ h21) rfl)),
      fun S hS => aB rfl (aO rfl rfl (aA rfl) (aF hS rfl) c19 (fE (aA rfl) (aC hS rfl))),
      fun S hS => aB rfl (aL rfl (bQ (v := .d (.lit (.bool (!r20)))) (aA rfl) (aC hS rfl) c19 (aC hS rfl) rfl)),
      fun S hS => aB rfl (aL rfl (aD (v := .d (.lit (.bool (!r20)))) (aA rfl) (aC hS rfl) rfl)),
      fun S hS => aB rfl (aM rfl rfl (aA rfl) rfl (aA rfl) (aF hS rfl) c24),
      fun S hS => aB rfl (aM rfl rfl (aA rfl) rfl (aA rfl) (aF hS rfl) c24),
      fun S hS => aB rfl (aM rfl rfl (aA rfl) rfl (aA rfl) (aF hS rfl) c24),
      fun S hS => aB rfl (aM rfl rfl (aA rfl) rfl (aA rfl) (aF hS rfl) c24),
      fun S hS => aB rfl (aM rfl rfl (aA rfl) rfl (aA rfl) (aF hS rfl) c24),
      fun S hS => aB rfl (aM rfl rfl (aA rfl) rfl (aA rfl) (aF hS rfl) c24),
      fun S hS => aB rfl (aM rfl rfl (aA rfl) rfl (aA rfl) (aF hS rfl) c24),
      fun S hS => aB rfl (aM rfl rfl (aA rfl) rfl (aA rfl) (aF hS rfl) c24),
      fun S hS => aB rfl (aM rfl rfl (aA rfl) rfl (aA rfl) (aF hS rfl) c24),
      fun S hS => aB rfl (aM rfl rfl (aA rfl) rfl (aA rfl) (aF hS rfl) c24),
      fun S hS => aB rfl (aL rfl (bR (v := .d (.lit (.bool true))) (aA rfl) (aC hS rfl) c24 rfl rfl)), trivial⟩⟩
      · exact dB (aZ rfl (bC ⟨rfl, rfl, rfl, rfl, rfl, rfl, rfl, rfl, trivial⟩))
     ·have h23 := bD c24 h23
      obtain ⟨x25, h26, h23⟩ := bind_some h23
      obtain ⟨r27, h28, h23⟩ := bind_some h23
      have h23 := Option.some.inj h23
      subst h23
      refine ⟨[(17, 0, .bp b9 0 0), (18, 1, .d (.lit (.int .i64 x7.Job))), (19, 2, .bp b1 0 2), (20, 3, .d (.sl 6 (p_0.Jobs.map aT))), (21, 4, .d (.lit (.int .i64 ((p_0.Jobs.length : Int))))), (22, 5, .d (.lit (.int .i64 ((w64 ((p_0.Jobs.length : Int) - 1)))))), (23, 6, .d (.lit (.bool r10))), (24, 7, .d (.lit (.bool (!r10)))), (25, 8, .d (.lit (.bool (!r10)))), (26, 9, .d (.lit w4)), (27, 10, .bp b9 0 0), (28, 11, .d (.lit (.int .i64 x7.Job))), (29, 12, .d (.lit (.bool r15))), (30, 13, .d (.lit (.bool r15))), (31, 14, .d (.lit (.bool (r15)))), (32, 15, .bp b9 0 1), (33, 16, .d (.lit (.int .i64 x7.Day))), (34, 17, .bp b1 0 0), (35, 18, .d (.sl 1 (p_0.Days.map bH))), (36, 19, .d (.lit (.int .i64 ((p_0.Days.length : Int))))), (37, 20, .d (.lit (.int .i64 ((w64 ((p_0.Days.length : Int) - 1)))))), (38, 21, .d (.lit (.bool r20))), (39, 22, .d (.lit (.bool (!r20)))), (40, 23, .d (.lit (.bool (!r20)))), (41, 24, .d (.lit (.bool (!r20)))), (42, 25, .bp b9 0 2), (43, 26, .d (.lit (.int .i64 x7.Court))), (44, 27, .bp b1 0 0), (45, 28, .d (.sl 1 (p_0.Days.map bH))), (46, 29, .cp [.sl 2 (x25.map bA)]), (47, 30, .d (.sl 2 (x25.map bA))), (48, 31, .d (.lit (.int .i64 ((x25.length : Int))))), (49, 32, .d (.lit (.int .i64 ((w64 ((x25.length : Int) - 1)))))), (50, 33, .d (.lit (.bool r27))), (51, 34, .d (.lit (.bool (!r27)))), (52, 35, .d (.lit (.bool (!r27))))], ?_, ?_⟩
      · exact ⟨by kernel_rfl, by kernel_rfl, by kernel_rfl, by kernel_rfl, by kernel_rfl, [([], []), ([0], []), ([], []), ([2], []), ([3], []), ([4], []), ([1, 5], []), ([6], []), ([7], []), ([8], []), ([8], []), ([8, 10], []), ([8, 9, 11], []), ([8, 12], []), ([13], []), ([14], []), ([14, 15], []), ([14], []), ([14, 17], []), ([14, 18], []), ([14, 19], []), ([14, 16, 20], []), ([14, 21], []), ([14, 22], []), ([23], []), ([24], []), ([24, 25], []), ([24], []), ([24, 27], []), ([24, 28], []), ([24, 29], []), ([24, 30], []), ([24, 31], []), ([24, 26, 32], []), ([24, 33], []), ([24, 34], [])], by kernel_rfl, ⟨fun S hS => aB rfl (aL rfl (aN (aA rfl) (aC hS rfl) fU)),
      fun S hS => aB rfl (aL rfl (aQ (aA rfl) (aC hS rfl) (i := 3) rfl rfl bL)),
      fun S hS => aB rfl (aL rfl (aN (aA rfl) (aC hS rfl) gB)),
      fun S hS => aB rfl (aL rfl (aQ (aA rfl) (aC hS rfl) (i := 0) rfl rfl jH)),
      fun S hS => aB rfl (aL rfl (dC (aA rfl) (aC hS rfl) eE.of)),
      fun S hS => aB rfl (aL rfl (cG (aA rfl) (aC hS rfl) rfl rfl)),
      fun S hS => aB rfl (aL rfl (cQ (aA rfl) (.func _ _ Try.call57) (ev2 (aC hS rfl) (ev2 rfl (ev2 (aC hS rfl) evn))) rfl (BVs.refl _ _) (eQ _ _ _ h11) rfl)),
      fun S hS => aB rfl (aL rfl (fE (aA rfl) (aC hS rfl))),
      fun S hS => aB rfl (aL rfl (aD (v := .d (.lit (.bool (!r10)))) (aA rfl) (aC hS rfl) rfl)),
      fun S hS => aB rfl (aO rfl rfl (aA rfl) (aF hS rfl) c14 (aQ (aA rfl) (aC hS rfl) (i := 2) rfl rfl eI)),
      fun S hS => aB rfl (aO rfl rfl (aA rfl) (aF hS rfl) c14 (aN (aA rfl) (aC hS rfl) fU)),
      fun S hS => aB rfl (aO rfl rfl (aA rfl) (aF hS rfl) c14 (aQ (aA rfl) (aC hS rfl) (i := 3) rfl rfl bL)),
      fun S hS => aB rfl (aO rfl rfl (aA rfl) (aF hS rfl) c14 (cQ (aA rfl) (.func _ _ Try.call63) (ev2 (aC hS rfl) (ev2 (aC hS rfl) evn)) rfl (.cons (.d (jF 1 rfl (dT (f := aW) fun _ => rfl))) (.cons (.same _) .nil)) (eO _ _ h16) rfl)),
      fun S hS => aB rfl (aL rfl (bQ (v := .d (.lit (.bool r15))) (aA rfl) (aC hS rfl) c14 (aC hS rfl) rfl)),
      fun S hS => aB rfl (aL rfl (aD (v := .d (.lit (.bool (r15)))) (aA rfl) (aC hS rfl) rfl)),
      fun S hS => aB rfl (aO rfl rfl (aA rfl) (aF hS rfl) c19 (aN (aA rfl) (aC hS rfl) lG)),
      fun S hS => aB rfl (aO rfl rfl (aA rfl) (aF hS rfl) c19 (aQ (aA rfl) (aC hS rfl) (i := 3) rfl rfl bL)),
      fun S hS => aB rfl (aO rfl rfl (aA rfl) (aF hS rfl) c19 (aN (aA rfl) (aC hS rfl) lF)),
      fun S hS => aB rfl (aO rfl rfl (aA rfl) (aF hS rfl) c19 (aQ (aA rfl) (aC hS rfl) (i := 0) rfl rfl oS)),
      fun S hS => aB rfl (aO rfl rfl (aA rfl) (aF hS rfl) c19 (dC (aA rfl) (aC hS rfl) oX.of)),
      fun S hS => aB rfl (aO rfl rfl (aA rfl) (aF hS rfl) c19 (cG (aA rfl) (aC hS rfl) rfl rfl)),
      fun S hS => aB rfl (aO rfl rfl (aA rfl) (aF hS rfl) c19 (cQ (aA rfl) (.func _ _ Try.call57) (ev2 (aC hS rfl) (ev2 rfl (ev2 (aC hS rfl) evn))) rfl (BVs.refl _ _) (eQ _ _ _ h21) rfl)),
      fun S hS => aB rfl (aO rfl rfl (aA rfl) (aF hS rfl) c19 (fE (aA rfl) (aC hS rfl))),
      fun S hS => aB rfl (aL rfl (bQ (v := .d (.lit (.bool (!r20)))) (aA rfl) (aC hS rfl) c19 (aC hS rfl) rfl)),
      fun S hS => aB rfl (aL rfl (aD (v := .d (.lit (.bool (!r20)))) (aA rfl) (aC hS rfl) rfl)),
      fun S hS => aB rfl (aO rfl rfl (aA rfl) (aF hS rfl) c24 (aN (aA rfl) (aC hS rfl) wZ)),
      fun S hS => aB rfl (aO rfl rfl (aA rfl) (aF hS rfl) c24 (aQ (aA rfl) (aC hS rfl) (i := 3) rfl rfl bL)),
      fun S hS => aB rfl (aO rfl rfl (aA rfl) (aF hS rfl) c24 (aN (aA rfl) (aC hS rfl) lF)),
      fun S hS => aB rfl (aO rfl rfl (aA rfl) (aF hS rfl) c24 (aQ (aA rfl) (aC hS rfl) (i := 0) rfl rfl oS)),
      fun S hS => aB rfl (aO rfl rfl (aA rfl) (aF hS rfl) c24 (bU (aA rfl) (aC hS rfl) rfl oX.of (cE bH h26))),
      fun S hS => aB rfl (aO rfl rfl (aA rfl) (aF hS rfl) c24 (cJ (aA rfl) (aC hS rfl) uJ)),
      fun S hS => aB rfl (aO rfl rfl (aA rfl) (aF hS rfl) c24 (dC (aA rfl) (aC hS rfl) kC.of)),
      fun S hS => aB rfl (aO rfl rfl (aA rfl) (aF hS rfl) c24 (cG (aA rfl) (aC hS rfl) rfl rfl)),
      fun S hS => aB rfl (aO rfl rfl (aA rfl) (aF hS rfl) c24 (cQ (aA rfl) (.func _ _ Try.call57) (ev2 (aC hS rfl) (ev2 rfl (ev2 (aC hS rfl) evn))) rfl (BVs.refl _ _) (eQ _ _ _ h28) rfl)),
      fun S hS => aB rfl (aO rfl rfl (aA rfl) (aF hS rfl) c24 (fE (aA rfl) (aC hS rfl))),
      fun S hS => aB rfl (aL rfl (bQ (v := .d (.lit (.bool (!r27)))) (aA rfl) (aC hS rfl) c24 (aC hS rfl) rfl)), trivial⟩⟩
      · exact dB (aZ rfl (bC ⟨rfl, rfl, rfl, rfl, rfl, rfl, rfl, rfl, trivial⟩))
  ·refine aI ?_
   refine cK rfl (fun c29 => ?_) (fun c29 => ?_)
   ·have h := bB c29 h
    refine aH ?_
    refine aE ?_
    refine tr1 rfl (aK (v := .d (.lit (.bool false))) (aA rfl) rfl rfl) ?_
    refine aI ?_
    have h := Option.some.inj h
    subst h
    refine cT (cR (cU (l := [4]) ⟨rfl, trivial⟩)) ?_
    exact cB ⟨rfl, _, .one _, rfl, rfl⟩
   ·have h := bD c29 h
    refine cF ?_
    refine aH ?_
    refine aE ?_
    refine tr1 rfl (aN (aA rfl) rfl gB) ?_
    refine tr1 rfl (aQ (aA rfl) rfl (i := 0) rfl rfl jH) ?_
    refine tr1 rfl (aN (aA rfl) rfl fU) ?_
    refine tr1 rfl (aQ (aA rfl) rfl (i := 3) rfl rfl bL) ?_
    obtain ⟨x30, h31, h⟩ := bind_some h
    refine tr1 rfl (bU (aA rfl) rfl rfl eE.of (cE aT h31)) ?_
    refine tr1 rfl (dE (aA rfl) rfl yM (es := (aT x30)) rfl rfl) ?_
    refine cI rfl (dM (zs := [.lit (.int .i64 0), .lit (.int .i64 0), .sl 1 ((([] : List Int)).map aW), .sl 1 ((([] : List Int)).map aW), .lit (.int .i64 0), .lit (.int .i64 0)]) (aA rfl) Try.zeroValue36 rfl rfl) ?_
    rintro _ ⟨b32, rfl⟩
    refine tr1 rfl (cL (i := 4) rfl rfl rfl rfl rfl Try.sizeOf36 rfl (aA rfl) (Nat.le_of_ble_eq_true rfl) (ds' := (aT x30)) rfl) ?_
    refine aI ?_
    refine aH ?_
    refine aE ?_
    refine tr1 rfl (aN (aA rfl) rfl nN) ?_
    refine tr1 rfl (aQ (aA rfl) rfl (i := 4) rfl rfl eI) ?_
    refine tr1 rfl (aGd (aA rfl) rfl rfl) ?_
    obtain ⟨r34, h35, h⟩ := bind_some h
    refine tr1 rfl (cQ (aA rfl) (.func _ _ Try.call84) rfl rfl (.cons (.same _) (.cons ((aLv (.cons ((tH 2 rfl rfl (dvc (jF 1 rfl (dT (f := aW) fun _ => rfl)) dvn))) .nil))) .nil)) (tK _ _ 85 [.cp [.sl 1 (done_0_3.map aW)]] Try.call85 (fun _ _ h => aBp _ _ h) h35) rfl) ?_
    refine tr1 rfl (aK (v := .d (.lit (.bool r34))) (aA rfl) rfl rfl) ?_
    refine aI ?_
    refine aH ?_
    refine aH ?_
    obtain ⟨b36, h37, h⟩ := bind_some h
    obtain ⟨b39, h40, h⟩ := bind_some h
    refine eS mix 23 [1, 2, 5, 7, 10, 11, 12] [(85, .d (.lit (.bool b39)))] ?_ ?_
    ·refine cA (decide (x30.Due < x7.Day)) (fun c38 => ?_) (fun c38 => ?_)
     ·have h37 := bB c38 h37
      have h37 := Option.some.inj h37
      subst h37
      have c41 : true = true := rfl
      have h40 := bB c41 h40
      have h40 := Option.some.inj h40
      subst h40
      refine ⟨[(63, 0, .bp b9 0 1), (64, 1, .d (.lit (.int .i64 x7.Day))), (65, 2, .bp b32 0 4), (66, 3, .d (.lit (.int .i64 x30.Due))), (67, 4, .d (.lit (.bool ((decide (x30.Due < x7.Day)))))), (68, 5, .d (.lit (.bool ((decide (x30.Due < x7.Day)))))), (69, 6, .tup []), (70, 7, .d (.lit (.bool true))), (71, 8, .d (.lit (.bool (true)))), (72, 9, .tup []), (73, 10, .tup []), (74, 11, .tup []), (75, 12, .tup []), (76, 13, .tup []), (77, 14, .tup []), (78, 15, .tup []), (79, 16, .tup []), (80, 17, .tup []), (81, 18, .tup []), (82, 19, .tup []), (83, 20, .tup []), (84, 21, .tup []), (85, 22, .d (.lit (.bool true)))], ?_, ?_⟩
      · exact ⟨by kernel_rfl, by kernel_rfl, by kernel_rfl, by kernel_rfl, by kernel_rfl, [([], []), ([0], []), ([], []), ([2], []), ([1, 3], []), ([4], []), ([5], []), ([5, 6], []), ([7], []), ([8], []), ([8, 9], []), ([8, 10], []), ([11], []), ([11, 12], []), ([11], []), ([11], []), ([11, 15], []), ([11, 14, 16], []), ([11, 17], []), ([11, 18], []), ([11, 13, 19], []), ([8, 11, 20], []), ([8, 21], [])], by kernel_rfl, ⟨fun S hS => aB rfl (aL rfl (aN (aA rfl) (aC hS rfl) lG)),
      fun S hS => aB rfl (aL rfl (aQ (aA rfl) (aC hS rfl) (i := 3) rfl rfl bL)),
      fun S hS => aB rfl (aL rfl (aN (aA rfl) (aC hS rfl) mP)),
      fun S hS => aB rfl (aL rfl (aQ (aA rfl) (aC hS rfl) (i := 4) rfl rfl bL)),
      fun S hS => aB rfl (aL rfl (bP (aA rfl) (aC hS rfl) (aC hS rfl) rfl)),
      fun S hS => aB rfl (aL rfl (aD (v := .d (.lit (.bool ((decide (x30.Due < x7.Day)))))) (aA rfl) (aC hS rfl) rfl)),
      fun S hS => aB rfl (aM rfl rfl (aA rfl) rfl (aA rfl) (aF hS rfl) c38),
      fun S hS => aB rfl (aL rfl (bR (v := .d (.lit (.bool true))) (aA rfl) (aC hS rfl) c38 rfl rfl)),
      fun S hS => aB rfl (aL rfl (aD (v := .d (.lit (.bool (true)))) (aA rfl) (aC hS rfl) rfl)),
      fun S hS => aB rfl (aM rfl rfl (aA rfl) rfl (aA rfl) (aF hS rfl) c41),
      fun S hS => aB rfl (aM rfl rfl (aA rfl) rfl (aA rfl) (aF hS rfl) c41),
      fun S hS => aB rfl (aM rfl rfl (aA rfl) rfl (aA rfl) (aF hS rfl) c41),
      fun S hS => aB rfl (iK rfl rfl (aA rfl) rfl (aA rfl) (aF hS rfl)),
      fun S hS => aB rfl (iK rfl rfl (aA rfl) rfl (aA rfl) (aF hS rfl)),
      fun S hS => aB rfl (iK rfl rfl (aA rfl) rfl (aA rfl) (aF hS rfl)),
      fun S hS => aB rfl (iK rfl rfl (aA rfl) rfl (aA rfl) (aF hS rfl)),
      fun S hS => aB rfl (iK rfl rfl (aA rfl) rfl (aA rfl) (aF hS rfl)),
      fun S hS => aB rfl (iK rfl rfl (aA rfl) rfl (aA rfl) (aF hS rfl)),
      fun S hS => aB rfl (iK rfl rfl (aA rfl) rfl (aA rfl) (aF hS rfl)),
      fun S hS => aB rfl (iK rfl rfl (aA rfl) rfl (aA rfl) (aF hS rfl)),
      fun S hS => aB rfl (iK rfl rfl (aA rfl) rfl (aA rfl) (aF hS rfl)),
      fun S hS => aB rfl (aM rfl rfl (aA rfl) rfl (aA rfl) (aF hS rfl) c41),
      fun S hS => aB rfl (aL rfl (bR (v := .d (.lit (.bool true))) (aA rfl) (aC hS rfl) c41 rfl rfl)), trivial⟩⟩
      · exact dB (aZ rfl (bC ⟨rfl, rfl, rfl, rfl, rfl, rfl, rfl, trivial⟩))
     ·have h37 := bD c38 h37
      have h37 := Option.some.inj h37
      subst h37
      refine cA (r34) (fun c41 => ?_) (fun c41 => ?_)
      ·have h40 := bB c41 h40
       have h40 := Option.some.inj h40
       subst h40
       refine ⟨[(63, 0, .bp b9 0 1), (64, 1, .d (.lit (.int .i64 x7.Day))), (65, 2, .bp b32 0 4), (66, 3, .d (.lit (.int .i64 x30.Due))), (67, 4, .d (.lit (.bool ((decide (x30.Due < x7.Day)))))), (68, 5, .d (.lit (.bool ((decide (x30.Due < x7.Day)))))), (69, 6, .d (.lit (.bool r34))), (70, 7, .d (.lit (.bool r34))), (71, 8, .d (.lit (.bool (r34)))), (72, 9, .tup []), (73, 10, .tup []), (74, 11, .tup []), (75, 12, .tup []), (76, 13, .tup []), (77, 14, .tup []), (78, 15, .tup []), (79, 16, .tup []), (80, 17, .tup []), (81, 18, .tup []), (82, 19, .tup []), (83, 20, .tup []), (84, 21, .tup []), (85, 22, .d (.lit (.bool true)))], ?_, ?_⟩
       · exact ⟨by kernel_rfl, by kernel_rfl, by kernel_rfl, by kernel_rfl, by kernel_rfl, [([], []), ([0], []), ([], []), ([2], []), ([1, 3], []), ([4], []), ([5], []), ([5, 6], []), ([7], []), ([8], []), ([8, 9], []), ([8, 10], []), ([11], []), ([11, 12], []), ([11], []), ([11], []), ([11, 15], []), ([11, 14, 16], []), ([11, 17], []), ([11, 18], []), ([11, 13, 19], []), ([8, 11, 20], []), ([8, 21], [])], by kernel_rfl, ⟨fun S hS => aB rfl (aL rfl (aN (aA rfl) (aC hS rfl) lG)),
      fun S hS => aB rfl (aL rfl (aQ (aA rfl) (aC hS rfl) (i := 3) rfl rfl bL)),
      fun S hS => aB rfl (aL rfl (aN (aA rfl) (aC hS rfl) mP)),
      fun S hS => aB rfl (aL rfl (aQ (aA rfl) (aC hS rfl) (i := 4) rfl rfl bL)),
      fun S hS => aB rfl (aL rfl (bP (aA rfl) (aC hS rfl) (aC hS rfl) rfl)),
      fun S hS => aB rfl (aL rfl (aD (v := .d (.lit (.bool ((decide (x30.Due < x7.Day)))))) (aA rfl) (aC hS rfl) rfl)),
      fun S hS => aB rfl (aO rfl rfl (aA rfl) (aF hS rfl) c38 (aD (v := .d (.lit (.bool r34))) (aA rfl) (aC hS rfl) rfl)),
      fun S hS => aB rfl (aL rfl (bQ (v := .d (.lit (.bool r34))) (aA rfl) (aC hS rfl) c38 (aC hS rfl) rfl)),
      fun S hS => aB rfl (aL rfl (aD (v := .d (.lit (.bool (r34)))) (aA rfl) (aC hS rfl) rfl)),
      fun S hS => aB rfl (aM rfl rfl (aA rfl) rfl (aA rfl) (aF hS rfl) c41),
      fun S hS => aB rfl (aM rfl rfl (aA rfl) rfl (aA rfl) (aF hS rfl) c41),
      fun S hS => aB rfl (aM rfl rfl (aA rfl) rfl (aA rfl) (aF hS rfl) c41),
      fun S hS => aB rfl (iK rfl rfl (aA rfl) rfl (aA rfl) (aF hS rfl)),
      fun S hS => aB rfl (iK rfl rfl (aA rfl) rfl (aA rfl) (aF hS rfl)),
      fun S hS => aB rfl (iK rfl rfl (aA rfl) rfl (aA rfl) (aF hS rfl)),
      fun S hS => aB rfl (iK rfl rfl (aA rfl) rfl (aA rfl) (aF hS rfl)),
      fun S hS => aB rfl (iK rfl rfl (aA rfl) rfl (aA rfl) (aF hS rfl)),
      fun S hS => aB rfl (iK rfl rfl (aA rfl) rfl (aA rfl) (aF hS rfl)),
      fun S hS => aB rfl (iK rfl rfl (aA rfl) rfl (aA rfl) (aF hS rfl)),
      fun S hS => aB rfl (iK rfl rfl (aA rfl) rfl (aA rfl) (aF hS rfl)),
      fun S hS => aB rfl (iK rfl rfl (aA rfl) rfl (aA rfl) (aF hS rfl)),
      fun S hS => aB rfl (aM rfl rfl (aA rfl) rfl (aA rfl) (aF hS rfl) c41),
      fun S hS => aB rfl (aL rfl (bR (v := .d (.lit (.bool true))) (aA rfl) (aC hS rfl) c41 rfl rfl)), trivial⟩⟩
       · exact dB (aZ rfl (bC ⟨rfl, rfl, rfl, rfl, rfl, rfl, rfl, trivial⟩))
      ·have h40 := bD c41 h40
       obtain ⟨b42, h43, h40⟩ := bind_some h40
       refine cA (decide (0 < t12_0_3)) (fun c44 => ?_) (fun c44 => ?_)
       ·have h43 := bB c44 h43
        obtain ⟨x45, h46, h43⟩ := bind_some h43
        have h43 := Option.some.inj h43
        subst h43
        have h40 := Option.some.inj h40
        subst h40
        refine ⟨[(63, 0, .bp b9 0 1), (64, 1, .d (.lit (.int .i64 x7.Day))), (65, 2, .bp b32 0 4), (66, 3, .d (.lit (.int .i64 x30.Due))), (67, 4, .d (.lit (.bool ((decide (x30.Due < x7.Day)))))), (68, 5, .d (.lit (.bool ((decide (x30.Due < x7.Day)))))), (69, 6, .d (.lit (.bool r34))), (70, 7, .d (.lit (.bool r34))), (71, 8, .d (.lit (.bool (r34)))), (72, 9, .d (.lit (.int .i64 t12_0_3))), (73, 10, .d (.lit (.bool ((decide (0 < t12_0_3)))))), (74, 11, .d (.lit (.bool ((decide (0 < t12_0_3)))))), (75, 12, .bp b9 0 1), (76, 13, .d (.lit (.int .i64 x7.Day))), (77, 14, .d (.sl 3 (order_1.map aR))), (78, 15, .d (.lit (.int .i64 t12_0_3))), (79, 16, .d (.lit (.int .i64 ((w64 (t12_0_3 - 1)))))), (80, 17, .cp [.lit (.int .i64 x45.Job), .lit (.int .i64 x45.Day), .lit (.int .i64 x45.Court)]), (81, 18, .cp [.lit (.int .i64 x45.Day)]), (82, 19, .d (.lit (.int .i64 x45.Day))), (83, 20, .d (.lit (.bool ((decide (x7.Day < x45.Day)))))), (84, 21, .d (.lit (.bool ((decide (x7.Day < x45.Day)))))), (85, 22, .d (.lit (.bool (decide (x7.Day < x45.Day)))))], ?_, ?_⟩
        · exact ⟨by kernel_rfl, by kernel_rfl, by kernel_rfl, by kernel_rfl, by kernel_rfl, [([], []), ([0], []), ([], []), ([2], []), ([1, 3], []), ([4], []), ([5], []), ([5, 6], []), ([7], []), ([8], []), ([8, 9], []), ([8, 10], []), ([11], []), ([11, 12], []), ([11], []), ([11], []), ([11, 15], []), ([11, 14, 16], []), ([11, 17], []), ([11, 18], []), ([11, 13, 19], []), ([8, 11, 20], []), ([8, 21], [])], by kernel_rfl, ⟨fun S hS => aB rfl (aL rfl (aN (aA rfl) (aC hS rfl) lG)),
      fun S hS => aB rfl (aL rfl (aQ (aA rfl) (aC hS rfl) (i := 3) rfl rfl bL)),
      fun S hS => aB rfl (aL rfl (aN (aA rfl) (aC hS rfl) mP)),
      fun S hS => aB rfl (aL rfl (aQ (aA rfl) (aC hS rfl) (i := 4) rfl rfl bL)),
      fun S hS => aB rfl (aL rfl (bP (aA rfl) (aC hS rfl) (aC hS rfl) rfl)),
      fun S hS => aB rfl (aL rfl (aD (v := .d (.lit (.bool ((decide (x30.Due < x7.Day)))))) (aA rfl) (aC hS rfl) rfl)),
      fun S hS => aB rfl (aO rfl rfl (aA rfl) (aF hS rfl) c38 (aD (v := .d (.lit (.bool r34))) (aA rfl) (aC hS rfl) rfl)),
      fun S hS => aB rfl (aL rfl (bQ (v := .d (.lit (.bool r34))) (aA rfl) (aC hS rfl) c38 (aC hS rfl) rfl)),
      fun S hS => aB rfl (aL rfl (aD (v := .d (.lit (.bool (r34)))) (aA rfl) (aC hS rfl) rfl)),
      fun S hS => aB rfl (aO rfl rfl (aA rfl) (aF hS rfl) c41 (aD (v := .d (.lit (.int .i64 t12_0_3))) (aA rfl) (aC hS rfl) rfl)),
      fun S hS => aB rfl (aO rfl rfl (aA rfl) (aF hS rfl) c41 (bP (aA rfl) (aC hS rfl) rfl rfl)),
      fun S hS => aB rfl (aO rfl rfl (aA rfl) (aF hS rfl) c41 (aD (v := .d (.lit (.bool ((decide (0 < t12_0_3)))))) (aA rfl) (aC hS rfl) rfl)),
      fun S hS => aB rfl (aO rfl rfl (aA rfl) (aF hS rfl) c44 (aN (aA rfl) (aC hS rfl) lG)),
      fun S hS => aB rfl (aO rfl rfl (aA rfl) (aF hS rfl) c44 (aQ (aA rfl) (aC hS rfl) (i := 3) rfl rfl bL)),
      fun S hS => aB rfl (aO rfl rfl (aA rfl) (aF hS rfl) c44 (aD (v := .d (.sl 3 (order_1.map aR))) (aA rfl) (aC hS rfl) rfl)),
      fun S hS => aB rfl (aO rfl rfl (aA rfl) (aF hS rfl) c44 (aD (v := .d (.lit (.int .i64 t12_0_3))) (aA rfl) (aC hS rfl) rfl)),
      fun S hS => aB rfl (aO rfl rfl (aA rfl) (aF hS rfl) c44 (cG (aA rfl) (aC hS rfl) rfl rfl)),
      fun S hS => aB rfl (aO rfl rfl (aA rfl) (aF hS rfl) c44 (bU (aA rfl) (aC hS rfl) (aC hS rfl) oH.of (cE aR h46))),
      fun S hS => aB rfl (aO rfl rfl (aA rfl) (aF hS rfl) c44 (cC (aA rfl) (aC hS rfl) lG (es := [.lit (.int .i64 x45.Day)]) rfl)),
      fun S hS => aB rfl (aO rfl rfl (aA rfl) (aF hS rfl) c44 (cJ (aA rfl) (aC hS rfl) bL)),
      fun S hS => aB rfl (aO rfl rfl (aA rfl) (aF hS rfl) c44 (bP (aA rfl) (aC hS rfl) (aC hS rfl) rfl)),
      fun S hS => aB rfl (aO rfl rfl (aA rfl) (aF hS rfl) c41 (bR (v := .d (.lit (.bool ((decide (x7.Day < x45.Day)))))) (aA rfl) (aC hS rfl) c44 (aC hS rfl) rfl)),
      fun S hS => aB rfl (aL rfl (bQ (v := .d (.lit (.bool (decide (x7.Day < x45.Day))))) (aA rfl) (aC hS rfl) c41 (aC hS rfl) rfl)), trivial⟩⟩
        · exact dB (aZ rfl (bC ⟨rfl, rfl, rfl, rfl, rfl, rfl, rfl, trivial⟩))
       ·have h43 := bD c44 h43
        have h43 := Option.some.inj h43
        subst h43
        have h40 := Option.some.inj h40
        subst h40
        refine ⟨[(63, 0, .bp b9 0 1), (64, 1, .d (.lit (.int .i64 x7.Day))), (65, 2, .bp b32 0 4), (66, 3, .d (.lit (.int .i64 x30.Due))), (67, 4, .d (.lit (.bool ((decide (x30.Due < x7.Day)))))), (68, 5, .d (.lit (.bool ((decide (x30.Due < x7.Day)))))), (69, 6, .d (.lit (.bool r34))), (70, 7, .d (.lit (.bool r34))), (71, 8, .d (.lit (.bool (r34)))), (72, 9, .d (.lit (.int .i64 t12_0_3))), (73, 10, .d (.lit (.bool ((decide (0 < t12_0_3)))))), (74, 11, .d (.lit (.bool ((decide (0 < t12_0_3)))))), (75, 12, .tup []), (76, 13, .tup []), (77, 14, .tup []), (78, 15, .tup []), (79, 16, .tup []), (80, 17, .tup []), (81, 18, .tup []), (82, 19, .tup []), (83, 20, .tup []), (84, 21, .d (.lit (.bool false))), (85, 22, .d (.lit (.bool (false))))], ?_, ?_⟩
        · exact ⟨by kernel_rfl, by kernel_rfl, by kernel_rfl, by kernel_rfl, by kernel_rfl, [([], []), ([0], []), ([], []), ([2], []), ([1, 3], []), ([4], []), ([5], []), ([5, 6], []), ([7], []), ([8], []), ([8, 9], []), ([8, 10], []), ([11], []), ([11, 12], []), ([11], []), ([11], []), ([11, 15], []), ([11, 14, 16], []), ([11, 17], []), ([11, 18], []), ([11, 13, 19], []), ([8, 11, 20], []), ([8, 21], [])], by kernel_rfl, ⟨fun S hS => aB rfl (aL rfl (aN (aA rfl) (aC hS rfl) lG)),
      fun S hS => aB rfl (aL rfl (aQ (aA rfl) (aC hS rfl) (i := 3) rfl rfl bL)),
      fun S hS => aB rfl (aL rfl (aN (aA rfl) (aC hS rfl) mP)),
      fun S hS => aB rfl (aL rfl (aQ (aA rfl) (aC hS rfl) (i := 4) rfl rfl bL)),
      fun S hS => aB rfl (aL rfl (bP (aA rfl) (aC hS rfl) (aC hS rfl) rfl)),
      fun S hS => aB rfl (aL rfl (aD (v := .d (.lit (.bool ((decide (x30.Due < x7.Day)))))) (aA rfl) (aC hS rfl) rfl)),
      fun S hS => aB rfl (aO rfl rfl (aA rfl) (aF hS rfl) c38 (aD (v := .d (.lit (.bool r34))) (aA rfl) (aC hS rfl) rfl)),
      fun S hS => aB rfl (aL rfl (bQ (v := .d (.lit (.bool r34))) (aA rfl) (aC hS rfl) c38 (aC hS rfl) rfl)),
      fun S hS => aB rfl (aL rfl (aD (v := .d (.lit (.bool (r34)))) (aA rfl) (aC hS rfl) rfl)),
      fun S hS => aB rfl (aO rfl rfl (aA rfl) (aF hS rfl) c41 (aD (v := .d (.lit (.int .i64 t12_0_3))) (aA rfl) (aC hS rfl) rfl)),
      fun S hS => aB rfl (aO rfl rfl (aA rfl) (aF hS rfl) c41 (bP (aA rfl) (aC hS rfl) rfl rfl)),
      fun S hS => aB rfl (aO rfl rfl (aA rfl) (aF hS rfl) c41 (aD (v := .d (.lit (.bool ((decide (0 < t12_0_3)))))) (aA rfl) (aC hS rfl) rfl)),
      fun S hS => aB rfl (aM rfl rfl (aA rfl) rfl (aA rfl) (aF hS rfl) c44),
      fun S hS => aB rfl (aM rfl rfl (aA rfl) rfl (aA rfl) (aF hS rfl) c44),
      fun S hS => aB rfl (aM rfl rfl (aA rfl) rfl (aA rfl) (aF hS rfl) c44),
      fun S hS => aB rfl (aM rfl rfl (aA rfl) rfl (aA rfl) (aF hS rfl) c44),
      fun S hS => aB rfl (aM rfl rfl (aA rfl) rfl (aA rfl) (aF hS rfl) c44),
      fun S hS => aB rfl (aM rfl rfl (aA rfl) rfl (aA rfl) (aF hS rfl) c44),
      fun S hS => aB rfl (aM rfl rfl (aA rfl) rfl (aA rfl) (aF hS rfl) c44),
      fun S hS => aB rfl (aM rfl rfl (aA rfl) rfl (aA rfl) (aF hS rfl) c44),
      fun S hS => aB rfl (aM rfl rfl (aA rfl) rfl (aA rfl) (aF hS rfl) c44),
      fun S hS => aB rfl (aO rfl rfl (aA rfl) (aF hS rfl) c41 (bQ (v := .d (.lit (.bool false))) (aA rfl) (aC hS rfl) c44 rfl rfl)),
      fun S hS => aB rfl (aL rfl (bQ (v := .d (.lit (.bool (false)))) (aA rfl) (aC hS rfl) c41 (aC hS rfl) rfl)), trivial⟩⟩
        · exact dB (aZ rfl (bC ⟨rfl, rfl, rfl, rfl, rfl, rfl, rfl, trivial⟩))
    ·refine aI ?_
     refine cK rfl (fun c47 => ?_) (fun c47 => ?_)
     ·have h := bB c47 h
      refine aH ?_
      refine aE ?_
      refine tr1 rfl (aK (v := .d (.lit (.bool false))) (aA rfl) rfl rfl) ?_
      refine aI ?_
      have h := Option.some.inj h
      subst h
      refine cT (cR (cU (l := [4]) ⟨rfl, trivial⟩)) ?_
      exact cB ⟨rfl, _, .one _, rfl, rfl⟩
     ·have h := bD c47 h
      refine cF ?_
      refine aE ?_
      refine tr1 rfl (aQ (aA rfl) rfl (i := 2) rfl rfl eI) ?_
      refine tr1 rfl (aN (aA rfl) rfl fU) ?_
      refine tr1 rfl (aQ (aA rfl) rfl (i := 3) rfl rfl bL) ?_
      refine tr1 rfl (jJ (aA rfl) dV rfl rfl (rows := ([x7.Job]).map aW) rfl (dT (f := aW) fun _ => rfl) rfl (by decide)) ?_
      obtain ⟨x48, h49, h⟩ := bind_some h
      refine cI rfl (mJ (i := 1) (aA rfl) dV rfl rfl rfl (fun _ => rfl) h49 rfl) ?_
      rintro _ ⟨v50, rfl⟩
      refine tr1 rfl (cL (i := 2) rfl rfl rfl rfl rfl Try.sizeOf27 rfl (aA rfl) (Nat.le_of_ble_eq_true rfl) (ds' := [.lit v50]) rfl) ?_
      refine lA ?_
      refine aE ?_
      refine tr1 rfl (cG (aA rfl) rfl rfl rfl) ?_
      refine tr1 rfl (aD (v := .d (.lit (.int .i64 ((w64 (t12_0_3 + 1)))))) (aA rfl) rfl rfl) ?_
      refine aI ?_
      exact ⟨(w64 (t12_0_3 + 1), x48, v50), h, bI [0, 1, 2] rfl rfl (aZ rfl (bC ⟨rfl, rfl, rfl, rfl, rfl, trivial⟩))⟩
 ·have h := bD c6 h
  refine dO ?_
  refine .inl ⟨rfl, ?_⟩
  simp only [vH] at h
  refine aH ?_
  refine aE ?_
  refine tr1 rfl (aQ (aA rfl) rfl (i := 2) rfl rfl eI) ?_
  refine tr1 rfl (qW (m := 1) (aA rfl) rfl rfl dV.of) ?_
  refine tr1 rfl (aN (aA rfl) rfl gB) ?_
  refine tr1 rfl (aQ (aA rfl) rfl (i := 0) rfl rfl jH) ?_
  refine tr1 rfl (dC (aA rfl) rfl eE.of) ?_
  refine tr1 rfl (bP (aA rfl) rfl rfl rfl) ?_
  refine tr1 rfl (aK (v := .d (.lit (.bool ((decide ((done_0_3.length : Int) = (p_0.Jobs.length : Int))))))) (aA rfl) rfl rfl) ?_
  refine aI ?_
  have h := Option.some.inj h
  subst h
  refine cT (cR (cU (l := [4]) ⟨rfl, trivial⟩)) ?_
  exact cB ⟨rfl, _, .one _, rfl, rfl⟩

theorem sB (p_0 : cP) (number_1 : Int) {r : dF} (h : pZ p_0 number_1 = some r) : Fn Try.prog 86 [.agg (bK p_0), .d (.lit (.int .i64 number_1))] (.agg (cH r)) := by
 unfold pZ at h
 refine sY Try.func86 rfl (rs := [.cell 4 124]) Try.results86 Try.ntmps86 (Nat.le_of_ble_eq_true rfl) ?_
 refine aH ?_
 refine aE ?_
 refine cI rfl (eU (v := .agg (bK p_0)) (aA rfl) rfl rfl rfl) ?_
 rintro _ ⟨b1, rfl⟩
 refine cI rfl (dM (zs := [.lit (.int .i64 0), .lit (.int .i64 0), .lit (.int .i64 0), .lit (.int .i64 0), .lit (.int .i64 0), .lit (.int .i64 0), .lit (.int .i64 0), .lit (.int .i64 0), .lit (.int .i64 0), .lit (.int .i64 0)]) (aA rfl) Try.zeroValue124 rfl rfl) ?_
 rintro _ ⟨b2, rfl⟩
 refine aI ?_
 refine aH ?_
 refine aE ?_
 refine tr1 rfl (aD (v := .d (.lit (.int .i64 number_1))) (aA rfl) rfl rfl) ?_
 refine tr1 rfl (eD (aA rfl) aMz (zs := [.lit (.int .i64 0), .lit (.int .i64 0), .lit (.int .i64 0), .lit (.int .i64 0), .lit (.int .i64 0), .lit (.int .i64 0), .lit (.int .i64 0), .lit (.int .i64 0), .lit (.int .i64 0), .lit (.int .i64 0)]) rfl rfl rfl rfl (es := [.lit (.int .i64 number_1), .lit (.int .i64 0), .lit (.int .i64 0), .lit (.int .i64 0), .lit (.int .i64 0), .lit (.int .i64 0), .lit (.int .i64 0), .lit (.int .i64 0), .lit (.int .i64 0), .lit (.int .i64 0)]) rfl) ?_
 refine cI rfl (dM (zs := [.lit (.int .i64 0), .lit (.int .i64 0), .lit (.int .i64 0), .lit (.int .i64 0), .lit (.int .i64 0), .lit (.int .i64 0), .lit (.int .i64 0), .lit (.int .i64 0), .lit (.int .i64 0), .lit (.int .i64 0)]) (aA rfl) Try.zeroValue124 rfl rfl) ?_
 rintro _ ⟨b3, rfl⟩
 refine tr1 rfl (cL (i := 2) rfl rfl rfl rfl rfl Try.sizeOf124 rfl (aA rfl) (Nat.le_of_ble_eq_true rfl) (ds' := (cH (dF.mk number_1 (A3.mk 0 0 0) (A6.mk 0 0 0 0 0 0)))) rfl) ?_
 refine aI ?_
 refine aH ?_
 refine aH ?_
 refine aE ?_
 refine tr1 rfl (aN (aA rfl) rfl lF) ?_
 refine tr1 rfl (aQ (aA rfl) rfl (i := 0) rfl rfl oS) ?_
 refine tr1 rfl (aD (v := .d (.lit (.int .i64 number_1))) (aA rfl) rfl rfl) ?_
 obtain ⟨x4, h5, h⟩ := bind_some h
 refine tr1 rfl (bU (aA rfl) rfl rfl oX.of (cE bH h5)) ?_
 refine tr1 rfl (cJ (aA rfl) rfl uJ) ?_
 refine tr1 rfl (dC (aA rfl) rfl kC.of) ?_
 refine tr1 rfl (aD (v := .d (.lit (.int .i64 0))) (aA rfl) rfl rfl) ?_
 refine aI ?_
 refine cW ?_
 refine dY [4, 5, 14, 15] (fun (s6 : Int × dF) => [(16, .d (.lit (.int .i64 s6.1)))]) (fun (s6 : Int × dF) => [.box b2 0 (cH (dF.mk 0 (A3.mk 0 0 0) (A6.mk 0 0 0 0 0 0))), .box b3 0 (cH s6.2)]) (fun (k : Nat) (s6 : Int × dF) => qR x4 (x4.length : Int) (dF.mk 0 (A3.mk 0 0 0) (A6.mk 0 0 0 0 0 0)) k s6.1 s6.2) (fun _ => rfl) (0, (dF.mk number_1 (A3.mk 0 0 0) (A6.mk 0 0 0 0 0 0))) h (bI [1, 2] rfl rfl (aZ rfl (bC ⟨rfl, rfl, rfl, rfl, trivial⟩))) ?_
 rintro k7 ⟨t16_0_6, d_0_6⟩ h
 simp only [qR] at h
 refine aH ?_
 refine aE ?_
 refine tr1 rfl (bP (aA rfl) rfl rfl rfl) ?_
 refine aI ?_
 refine aH ?_
 refine cK rfl (fun c8 => ?_) (fun c8 => ?_)
 ·have h := bB c8 h
  refine cF ?_
  refine aH ?_
  refine cW ?_
  refine aH ?_
  refine aE ?_
  refine tr1 rfl (aD (v := .d (.lit (.int .i64 t16_0_6))) (aA rfl) rfl rfl) ?_
  obtain ⟨x9, h10, h⟩ := bind_some h
  refine tr1 rfl (bU (aA rfl) rfl rfl kC.of (cE bA h10)) ?_
  refine tr1 rfl (dE (aA rfl) rfl gM (es := (bA x9)) rfl rfl) ?_
  refine cI rfl (dM (zs := [.lit (.int .i64 0), .lit (.int .i64 0)]) (aA rfl) Try.zeroValue34 rfl rfl) ?_
  rintro _ ⟨b11, rfl⟩
  refine tr1 rfl (aK (v := .d (.lit (.int .i64 t16_0_6))) (aA rfl) rfl rfl) ?_
  refine tr1 rfl (cL (i := 2) rfl rfl rfl rfl rfl Try.sizeOf34 rfl (aA rfl) (Nat.le_of_ble_eq_true rfl) (ds' := (bA x9)) rfl) ?_
  refine aI ?_
  refine aE ?_
  refine tr1 rfl (aD (v := .d (.lit (.int .i64 t16_0_6))) (aA rfl) rfl rfl) ?_
  refine tr1 rfl (aN (aA rfl) rfl wY) ?_
  refine tr1 rfl (aQ (aA rfl) rfl (i := 2) rfl rfl bL) ?_
  refine tr1 rfl (aN (aA rfl) rfl yV) ?_
  obtain ⟨u12, h13, h⟩ := bind_some h
  refine tr1 rfl (sD (aA rfl) rfl rfl aDg (iE h13).1 (iE h13).2) ?_
  refine tr1 rfl (cL (i := 1) (ds := (cH d_0_6)) rfl rfl rfl rfl rfl Try.sizeOf3 rfl (aA rfl) (aFo h13 rfl) (ds' := (cH (dF.mk d_0_6.number (d_0_6.free.set t16_0_6 x9.Low) d_0_6.ends))) (A3.updI (a := d_0_6.free) h13 (fun qq => (cH (dF.mk d_0_6.number qq d_0_6.ends))) rfl rfl rfl)) ?_
  refine lA ?_
  refine aE ?_
  refine tr1 rfl (cG (aA rfl) rfl rfl rfl) ?_
  refine tr1 rfl (aD (v := .d (.lit (.int .i64 ((w64 (t16_0_6 + 1)))))) (aA rfl) rfl rfl) ?_
  refine aI ?_
  exact ⟨(w64 (t16_0_6 + 1), (dF.mk d_0_6.number (d_0_6.free.set t16_0_6 x9.Low) d_0_6.ends)), h, bI [0, 1] rfl rfl (aZ rfl (bC ⟨rfl, rfl, rfl, rfl, trivial⟩))⟩
 ·have h := bD c8 h
  refine dO ?_
  refine .inl ⟨rfl, ?_⟩
  simp only [zW] at h
  refine aH ?_
  refine aE ?_
  refine tr1 rfl (bO (aA rfl) rfl (i := 1) rfl vZ (es := (cH d_0_6)) rfl rfl) ?_
  refine tr1 rfl (cL (i := 0) rfl rfl rfl rfl rfl Try.sizeOf124 rfl (aA rfl) (Nat.le_of_ble_eq_true rfl) (ds' := (cH d_0_6)) rfl) ?_
  refine aI ?_
  have h := Option.some.inj h
  subst h
  exact cB ⟨rfl, _, [.box b2 0 (cH d_0_6), .box b3 0 (cH d_0_6)], .one (.cell 4 124 rfl (i := 0) rfl vZ (es := (cH d_0_6)) rfl rfl), .refl _, .same _⟩

theorem wN (x_0 : Int) (y_1 : Int) (c_2 : cP) {r : Bool} (h : qS x_0 y_1 c_2 = some r) : Fn Try.prog 126 [.d (.lit (.int .i64 x_0)), .d (.lit (.int .i64 y_1)), .cp (bK c_2)] (.d (.lit (.bool r))) := by
 unfold qS at h
 refine Fn.of_tr Try.func126 rfl (rs := [.tmp 5]) Try.results126 Try.ntmps126 (Nat.le_of_ble_eq_true rfl) ?_
 refine aH ?_
 refine aE ?_
 refine tr1 rfl (aK (v := .d (.lit (.bool false))) (aA rfl) rfl rfl) ?_
 refine aI ?_
 refine aH ?_
 refine aE ?_
 refine tr1 rfl (cC (aA rfl) rfl gB (es := [.sl 6 (c_2.Jobs.map aT)]) rfl) ?_
 refine tr1 rfl (cJ (aA rfl) rfl jH) ?_
 refine tr1 rfl (aD (v := .d (.lit (.int .i64 x_0))) (aA rfl) rfl rfl) ?_
 obtain ⟨x1, h2, h⟩ := bind_some h
 refine tr1 rfl (bU (aA rfl) rfl rfl eE.of (cE aT h2)) ?_
 refine tr1 rfl (dE (aA rfl) rfl yM (es := (aT x1)) rfl rfl) ?_
 refine cI rfl (dM (zs := [.lit (.int .i64 0), .lit (.int .i64 0), .sl 1 ((([] : List Int)).map aW), .sl 1 ((([] : List Int)).map aW), .lit (.int .i64 0), .lit (.int .i64 0)]) (aA rfl) Try.zeroValue36 rfl rfl) ?_
 rintro _ ⟨b3, rfl⟩
 refine tr1 rfl (cL (i := 0) rfl rfl rfl rfl rfl Try.sizeOf36 rfl (aA rfl) (Nat.le_of_ble_eq_true rfl) (ds' := (aT x1)) rfl) ?_
 refine aI ?_
 refine aH ?_
 refine aE ?_
 refine tr1 rfl (aN (aA rfl) rfl nN) ?_
 refine tr1 rfl (aQ (aA rfl) rfl (i := 0) rfl rfl eI) ?_
 refine tr1 rfl (aD (v := .d (.lit (.int .i64 y_1))) (aA rfl) rfl rfl) ?_
 obtain ⟨r4, h5, h⟩ := bind_some h
 refine tr1 rfl (cQ (aA rfl) (.func _ _ Try.call63) rfl rfl (BVs.refl _ _) (eO _ _ h5) rfl) ?_
 refine tr1 rfl (aD (v := .d (.lit (.bool r4))) (aA rfl) rfl rfl) ?_
 obtain ⟨b6, h7, h⟩ := bind_some h
 refine dD 5 [] 21 b6 ?_ ?_
 ·refine cA (r4) (fun c8 => ?_) (fun c8 => ?_)
  ·have h7 := bB c8 h7
   refine aX rfl rfl (aA rfl) rfl (aA rfl) rfl c8 ?_
   refine aX rfl rfl (aA rfl) rfl (aA rfl) rfl c8 ?_
   refine aX rfl rfl (aA rfl) rfl (aA rfl) rfl c8 ?_
   refine aX rfl rfl (aA rfl) rfl (aA rfl) rfl c8 ?_
   refine tr1 rfl (bR (v := .d (.lit (.bool true))) (aA rfl) rfl c8 rfl rfl) ?_
   have h7 := Option.some.inj h7
   subst h7
   refine aI (bT rfl trivial rfl)
  ·have h7 := bD c8 h7
   refine aU rfl rfl (aA rfl) rfl c8 (aN (aA rfl) rfl uB) ?_
   refine aU rfl rfl (aA rfl) rfl c8 (aQ (aA rfl) rfl (i := 0) rfl rfl eI) ?_
   refine aU rfl rfl (aA rfl) rfl c8 (aD (v := .d (.lit (.int .i64 y_1))) (aA rfl) rfl rfl) ?_
   obtain ⟨r9, h10, h7⟩ := bind_some h7
   refine aU rfl rfl (aA rfl) rfl c8 (cQ (aA rfl) (.func _ _ Try.call63) rfl rfl (BVs.refl _ _) (eO _ _ h10) rfl) ?_
   refine tr1 rfl (bQ (v := .d (.lit (.bool r9))) (aA rfl) rfl c8 rfl rfl) ?_
   have h7 := Option.some.inj h7
   subst h7
   refine aI (bT rfl trivial rfl)
 ·refine tr1 rfl (aK (v := .d (.lit (.bool b6))) (aA rfl) rfl rfl) ?_
  refine aI ?_
  have h := Option.some.inj h
  subst h
  refine cT (cR (cU (l := [5]) ⟨rfl, trivial⟩)) ?_
  exact cB ⟨rfl, _, .one _, rfl, rfl⟩

theorem aFz (p_0 : cP) (a_1 : Int) (b_2 : Int) {r : Bool} (h : xN p_0 a_1 b_2 = some r) : Fn Try.prog 109 [.agg (bK p_0), .d (.lit (.int .i64 a_1)), .d (.lit (.int .i64 b_2))] (.d (.lit (.bool r))) := by
 unfold xN at h
 refine Fn.of_tr Try.func109 rfl (rs := [.tmp 6]) Try.results109 Try.ntmps109 (Nat.le_of_ble_eq_true rfl) ?_
 refine aH ?_
 refine aE ?_
 refine cI rfl (eU (v := .agg (bK p_0)) (aA rfl) rfl rfl rfl) ?_
 rintro _ ⟨b1, rfl⟩
 refine tr1 rfl (aK (v := .d (.lit (.bool false))) (aA rfl) rfl rfl) ?_
 refine aI ?_
 refine aH ?_
 refine aE ?_
 refine tr1 rfl (aGd (aA rfl) rfl rfl) ?_
 refine tr1 rfl (aK (v := .fn 126 [.bp b1 0 0]) (aA rfl) rfl rfl) ?_
 refine aI ?_
 refine aH ?_
 refine aE ?_
 refine tr1 rfl (aD (v := .fn 126 [.bp b1 0 0]) (aA rfl) rfl rfl) ?_
 refine tr1 rfl (aD (v := .d (.lit (.int .i64 a_1))) (aA rfl) rfl rfl) ?_
 refine tr1 rfl (aD (v := .d (.lit (.int .i64 b_2))) (aA rfl) rfl rfl) ?_
 obtain ⟨r2, h3, h⟩ := bind_some h
 refine tr1 rfl (cQ (aA rfl) (.clo _ _ _ _ Try.call126 rfl) (yS rfl) rfl (.cons (.same _) (.cons (.same _) (.cons ((tH 0 rfl rfl (dvc (.same _) (dvc (.same _) (dvc (.same _) dvn))))) .nil))) (wN _ _ _ h3) rfl) ?_
 refine tr1 rfl (aD (v := .d (.lit (.bool r2))) (aA rfl) rfl rfl) ?_
 obtain ⟨b4, h5, h⟩ := bind_some h
 refine dD 5 [] 18 b4 ?_ ?_
 ·refine cA (r2) (fun c6 => ?_) (fun c6 => ?_)
  ·have h5 := bB c6 h5
   refine aX rfl rfl (aA rfl) rfl (aA rfl) rfl c6 ?_
   refine aX rfl rfl (aA rfl) rfl (aA rfl) rfl c6 ?_
   refine aX rfl rfl (aA rfl) rfl (aA rfl) rfl c6 ?_
   refine aX rfl rfl (aA rfl) rfl (aA rfl) rfl c6 ?_
   refine tr1 rfl (bR (v := .d (.lit (.bool true))) (aA rfl) rfl c6 rfl rfl) ?_
   have h5 := Option.some.inj h5
   subst h5
   refine aI (bT rfl trivial rfl)
  ·have h5 := bD c6 h5
   refine aU rfl rfl (aA rfl) rfl c6 (aD (v := .fn 126 [.bp b1 0 0]) (aA rfl) rfl rfl) ?_
   refine aU rfl rfl (aA rfl) rfl c6 (aD (v := .d (.lit (.int .i64 b_2))) (aA rfl) rfl rfl) ?_
   refine aU rfl rfl (aA rfl) rfl c6 (aD (v := .d (.lit (.int .i64 a_1))) (aA rfl) rfl rfl) ?_
   obtain ⟨r7, h8, h5⟩ := bind_some h5
   refine aU rfl rfl (aA rfl) rfl c6 (cQ (aA rfl) (.clo _ _ _ _ Try.call126 rfl) (yS rfl) rfl (.cons (.same _) (.cons (.same _) (.cons ((tH 0 rfl rfl (dvc (.same _) (dvc (.same _) (dvc (.same _) dvn))))) .nil))) (wN _ _ _ h8) rfl) ?_
   refine tr1 rfl (bQ (v := .d (.lit (.bool r7))) (aA rfl) rfl c6 rfl rfl) ?_
   have h5 := Option.some.inj h5
   subst h5
   refine aI (bT rfl trivial rfl)
 ·refine tr1 rfl (aK (v := .d (.lit (.bool b4))) (aA rfl) rfl rfl) ?_
  refine aI ?_
  have h := Option.some.inj h
  subst h
  refine cT (cR (cU (l := [6]) ⟨rfl, trivial⟩)) ?_
  exact cB ⟨rfl, _, .one _, rfl, rfl⟩

theorem oF (d_0 : dF) (p_1 : cP) (s_2 : bM) (length_3 : Int) {r : Int × Int × dF} {d_0_b d_0_o : Nat} {d_0_post : List D} (h : nT d_0 p_1 s_2 length_3 = some r) : fI Try.prog 87 [.bp d_0_b d_0_o 0, .agg (bK p_1), .agg (aR s_2), .d (.lit (.int .i64 length_3))] [.box d_0_b d_0_o ((cH d_0) ++ d_0_post)] (fun r' o' => r' = .tup [.d (.lit (.int .i64 r.1)), .d (.lit (.int .i64 r.2.1))] ∧ o' = [.box d_0_b d_0_o ((cH r.2.2) ++ d_0_post)]) := by
 unfold nT at h
 refine aJa Try.func87 rfl (rs := [.tmp 8, .tmp 9]) Try.results87 Try.ntmps87 (Nat.le_of_ble_eq_true rfl) ?_
 refine aH ?_
 refine aE ?_
 refine cI rfl (eU (v := .agg (bK p_1)) (aA rfl) rfl rfl rfl) ?_
 rintro _ ⟨b1, rfl⟩
 refine cI rfl (eU (v := .agg (aR s_2)) (aA rfl) rfl rfl rfl) ?_
 rintro _ ⟨b2, rfl⟩
 refine tr1 rfl (aK (v := .d (.lit (.int .i64 0))) (aA rfl) rfl rfl) ?_
 refine tr1 rfl (aK (v := .d (.lit (.int .i64 0))) (aA rfl) rfl rfl) ?_
 refine aI ?_
 refine aH ?_
 obtain ⟨u3, h4, h⟩ := bind_some h
 obtain ⟨x5, h6, h⟩ := bind_some h
 refine eS mix 14 [0, 3, 5, 6] [(18, .d (.lit (.int .i64 ((d_0.free.at s_2.Court))))), (25, .d (.lit (.int .i64 x5.Earliest)))] ?_ ?_
 ·refine ⟨[(12, 0, .bp d_0_b d_0_o 0), (13, 1, .bp b2 0 2), (14, 2, .d (.lit (.int .i64 s_2.Court))), (15, 3, .bp d_0_b d_0_o 0), (16, 4, .bp d_0_b d_0_o 1), (17, 5, .bp d_0_b d_0_o (1 + s_2.Court.toNat * 1)), (18, 6, .d (.lit (.int .i64 ((d_0.free.at s_2.Court))))), (19, 7, .bp b1 0 2), (20, 8, .d (.sl 6 (p_1.Jobs.map aT))), (21, 9, .bp b2 0 0), (22, 10, .d (.lit (.int .i64 s_2.Job))), (23, 11, .cp [.lit (.int .i64 x5.Length.Low), .lit (.int .i64 x5.Length.High), .sl 1 (x5.After.map aW), .sl 1 (x5.With.map aW), .lit (.int .i64 x5.Due), .lit (.int .i64 x5.Earliest)]), (24, 12, .cp [.lit (.int .i64 x5.Earliest)]), (25, 13, .d (.lit (.int .i64 x5.Earliest)))], ?_, ?_⟩
  · exact ⟨by kernel_rfl, by kernel_rfl, by kernel_rfl, by kernel_rfl, by kernel_rfl, [([], []), ([], []), ([1], []), ([0], []), ([3], []), ([2, 4], []), ([5], []), ([], []), ([7], []), ([], []), ([9], []), ([8, 10], []), ([11], []), ([12], [])], by kernel_rfl, ⟨fun S hS => aB rfl (aL rfl (aD (v := .bp d_0_b d_0_o 0) (aA rfl) (aC hS rfl) rfl)),
      fun S hS => aB rfl (aL rfl (aN (aA rfl) (aC hS rfl) wZ)),
      fun S hS => aB rfl (aL rfl (aQ (aA rfl) (aC hS rfl) (i := 2) rfl rfl bL)),
      fun S hS => aB rfl (aL rfl (gO (aA rfl) (aC hS rfl))),
      fun S hS => aB rfl (aL rfl (aN (aA rfl) (aC hS rfl) yV)),
      fun S hS => aB rfl (aL rfl (sD (aA rfl) (aC hS rfl) (aC hS rfl) aDg (iE h4).1 (iE h4).2)),
      fun S hS => aB rfl (aL rfl (aQ (aA rfl) (aC hS rfl) (i := 0) rfl (A3.cellI (a := d_0.free) h4 rfl rfl rfl) bL)),
      fun S hS => aB rfl (aL rfl (aN (aA rfl) (aC hS rfl) gB)),
      fun S hS => aB rfl (aL rfl (aQ (aA rfl) (aC hS rfl) (i := 1) rfl rfl jH)),
      fun S hS => aB rfl (aL rfl (aN (aA rfl) (aC hS rfl) fU)),
      fun S hS => aB rfl (aL rfl (aQ (aA rfl) (aC hS rfl) (i := 2) rfl rfl bL)),
      fun S hS => aB rfl (aL rfl (bU (aA rfl) (aC hS rfl) (aC hS rfl) eE.of (cE aT h6))),
      fun S hS => aB rfl (aL rfl (cC (aA rfl) (aC hS rfl) uC (es := [.lit (.int .i64 x5.Earliest)]) rfl)),
      fun S hS => aB rfl (aL rfl (cJ (aA rfl) (aC hS rfl) bL)), trivial⟩⟩
  · exact dB (aZ rfl (aZ rfl (bC ⟨rfl, rfl, rfl, rfl, trivial⟩)))
 ·refine tr1 rfl (aMa (aA rfl) rfl rfl) ?_
  refine tr1 rfl (aK (v := .d (.lit (.int .i64 ((max (d_0.free.at s_2.Court) x5.Earliest))))) (aA rfl) rfl rfl) ?_
  refine aI ?_
  refine aH ?_
  refine aH ?_
  refine aE ?_
  refine tr1 rfl (aD (v := .bp d_0_b d_0_o 0) (aA rfl) rfl rfl) ?_
  refine tr1 rfl (gO (aA rfl) rfl) ?_
  refine tr1 rfl (aN (aA rfl) rfl aEd) ?_
  refine tr1 rfl (bO (aA rfl) rfl (i := 0) rfl aMd (es := (aMj d_0.ends)) rfl rfl) ?_
  refine tr1 rfl (aD (v := .d (.lit (.int .i64 0))) (aA rfl) rfl rfl) ?_
  refine aI ?_
  refine cW ?_
  refine dY [0, 3, 5, 6, 30] (fun (s7 : Int × Int) => [(8, .d (.lit (.int .i64 s7.1))), (31, .d (.lit (.int .i64 s7.2)))]) (fun (s7 : Int × Int) => [.box d_0_b d_0_o ((cH d_0) ++ d_0_post), .box b1 0 (bK p_1), .box b2 0 (aR s_2)]) (fun (k : Nat) (s7 : Int × Int) => lM length_3 d_0.ends d_0 p_1 s_2 k s7.1 s7.2) (fun _ => rfl) (max (d_0.free.at s_2.Court) x5.Earliest, 0) h (bI [0, 1, 2] rfl rfl (aZ rfl (aZ rfl (bC ⟨rfl, rfl, rfl, rfl, rfl, trivial⟩)))) ?_
  rintro k8 ⟨beginv_0_7, t31_0_7⟩ h
  simp only [lM] at h
  refine aH ?_
  refine aE ?_
  refine tr1 rfl (bP (aA rfl) rfl rfl rfl) ?_
  refine aI ?_
  refine aH ?_
  refine cK rfl (fun c9 => ?_) (fun c9 => ?_)
  ·have h := bB c9 h
   refine cF ?_
   refine aH ?_
   refine cW ?_
   refine aH ?_
   refine aE ?_
   refine tr1 rfl (aD (v := .d (.lit (.int .i64 t31_0_7))) (aA rfl) rfl rfl) ?_
   obtain ⟨u10, h11, h⟩ := bind_some h
   refine tr1 rfl (aGw (aA rfl) rfl rfl aGz bL (iE h11) (A6.celzI (a := d_0.ends) h11 rfl rfl rfl rfl rfl rfl)) ?_
   refine tr1 rfl (aK (v := .d (.lit (.int .i64 t31_0_7))) (aA rfl) rfl rfl) ?_
   refine tr1 rfl (aK (v := .d (.lit (.int .i64 ((d_0.ends.at t31_0_7))))) (aA rfl) rfl rfl) ?_
   refine aI ?_
   refine aH ?_
   refine aE ?_
   refine tr1 rfl (aD (v := .d (.lit (.int .i64 ((d_0.ends.at t31_0_7))))) (aA rfl) rfl rfl) ?_
   refine tr1 rfl (bP (aA rfl) rfl rfl rfl) ?_
   refine tr1 rfl (aD (v := .d (.lit (.bool ((decide (0 < (d_0.ends.at t31_0_7))))))) (aA rfl) rfl rfl) ?_
   obtain ⟨b12, h13, h⟩ := bind_some h
   refine dD 6 [0, 3, 5, 6, 8, 11, 30, 31] 43 b12 ?_ ?_
   ·refine cA (decide (0 < (d_0.ends.at t31_0_7))) (fun c15 => ?_) (fun c15 => ?_)
    ·have h13 := bB c15 h13
     refine aU rfl rfl (aA rfl) rfl c15 (bO (aA rfl) rfl (i := 1) rfl gL (es := (bK p_1)) rfl rfl) ?_
     refine aU rfl rfl (aA rfl) rfl c15 (aN (aA rfl) rfl fU) ?_
     refine aU rfl rfl (aA rfl) rfl c15 (aQ (aA rfl) rfl (i := 2) rfl rfl bL) ?_
     refine aU rfl rfl (aA rfl) rfl c15 (aD (v := .d (.lit (.int .i64 t31_0_7))) (aA rfl) rfl rfl) ?_
     obtain ⟨r16, h17, h13⟩ := bind_some h13
     refine aU rfl rfl (aA rfl) rfl c15 (cQ (aA rfl) (.func _ _ Try.call109) rfl rfl (BVs.refl _ _) (aFz _ _ _ h17) rfl) ?_
     refine tr1 rfl (bR (v := .d (.lit (.bool r16))) (aA rfl) rfl c15 rfl rfl) ?_
     have h13 := Option.some.inj h13
     subst h13
     refine aI (bT rfl ⟨rfl, rfl, rfl, rfl, rfl, rfl, rfl, rfl, trivial⟩ rfl)
    ·have h13 := bD c15 h13
     refine aX rfl rfl (aA rfl) rfl (aA rfl) rfl c15 ?_
     refine aX rfl rfl (aA rfl) rfl (aA rfl) rfl c15 ?_
     refine aX rfl rfl (aA rfl) rfl (aA rfl) rfl c15 ?_
     refine aX rfl rfl (aA rfl) rfl (aA rfl) rfl c15 ?_
     refine aX rfl rfl (aA rfl) rfl (aA rfl) rfl c15 ?_
     refine tr1 rfl (bQ (v := .d (.lit (.bool false))) (aA rfl) rfl c15 rfl rfl) ?_
     have h13 := Option.some.inj h13
     subst h13
     refine aI (bT rfl ⟨rfl, rfl, rfl, rfl, rfl, rfl, rfl, rfl, trivial⟩ rfl)
   ·refine aI ?_
    refine cK rfl (fun c14 => ?_) (fun c14 => ?_)
    ·have h := bB c14 h
     refine aE ?_
     refine tr1 rfl (aD (v := .d (.lit (.int .i64 beginv_0_7))) (aA rfl) rfl rfl) ?_
     refine tr1 rfl (aD (v := .d (.lit (.int .i64 ((d_0.ends.at t31_0_7))))) (aA rfl) rfl rfl) ?_
     refine tr1 rfl (aN (aA rfl) rfl aFn) ?_
     refine tr1 rfl (aQ (aA rfl) rfl (i := 1) rfl rfl bL) ?_
     refine tr1 rfl (cG (aA rfl) rfl rfl rfl) ?_
     refine tr1 rfl (aMa (aA rfl) rfl rfl) ?_
     refine tr1 rfl (aK (v := .d (.lit (.int .i64 ((max beginv_0_7 (w64 ((d_0.ends.at t31_0_7) + p_1.Rest))))))) (aA rfl) rfl rfl) ?_
     refine lA ?_
     refine aE ?_
     refine tr1 rfl (cG (aA rfl) rfl rfl rfl) ?_
     refine tr1 rfl (aD (v := .d (.lit (.int .i64 ((w64 (t31_0_7 + 1)))))) (aA rfl) rfl rfl) ?_
     refine aI ?_
     exact ⟨(max beginv_0_7 (w64 ((d_0.ends.at t31_0_7) + p_1.Rest)), w64 (t31_0_7 + 1)), h, bI [0, 1, 2] rfl rfl (aZ rfl (aZ rfl (bC ⟨rfl, rfl, rfl, rfl, rfl, trivial⟩)))⟩
    ·have h := bD c14 h
     refine fB ?_
     refine aE ?_
     refine tr1 rfl (cG (aA rfl) rfl rfl rfl) ?_
     refine tr1 rfl (aD (v := .d (.lit (.int .i64 ((w64 (t31_0_7 + 1)))))) (aA rfl) rfl rfl) ?_
     refine aI ?_
     exact ⟨(beginv_0_7, w64 (t31_0_7 + 1)), h, bI [0, 1, 2] rfl rfl (aZ rfl (aZ rfl (bC ⟨rfl, rfl, rfl, rfl, rfl, trivial⟩)))⟩
  ·have h := bD c9 h
   refine dO ?_
   refine .inl ⟨rfl, ?_⟩
   simp only [uM] at h
   refine aH ?_
   refine aE ?_
   refine tr1 rfl (aD (v := .d (.lit (.int .i64 beginv_0_7))) (aA rfl) rfl rfl) ?_
   refine tr1 rfl (aD (v := .d (.lit (.int .i64 length_3))) (aA rfl) rfl rfl) ?_
   refine tr1 rfl (cG (aA rfl) rfl rfl rfl) ?_
   refine tr1 rfl (aK (v := .d (.lit (.int .i64 ((w64 (beginv_0_7 + length_3)))))) (aA rfl) rfl rfl) ?_
   refine aI ?_
   refine aH ?_
   obtain ⟨u19, h20, h⟩ := bind_some h
   refine gI mix 14 [8, 9] (fun X18 => [(59, .d (.lit (.int .i64 s_2.Job))), (61, .d (.lit (.int .i64 ((w64 (beginv_0_7 + length_3)))))), (66, .bp d_0_b d_0_o 4)]) (fun X18 => [.box d_0_b d_0_o ((cH (dF.mk d_0.number (d_0.free.set s_2.Court (w64 (beginv_0_7 + length_3))) d_0.ends)) ++ d_0_post), .box b1 0 (bK p_1), .box b2 0 (aR s_2)]) ?_ ?_
   ·refine ⟨0, fun X18 => [(54, 0, .bp d_0_b d_0_o 0), (55, 1, .bp b2 0 2), (56, 2, .d (.lit (.int .i64 s_2.Court))), (57, 3, .bp d_0_b d_0_o 0), (58, 4, .bp b2 0 0), (59, 5, .d (.lit (.int .i64 s_2.Job))), (60, 6, .d (.lit (.int .i64 ((w64 (beginv_0_7 + length_3)))))), (61, 7, .d (.lit (.int .i64 ((w64 (beginv_0_7 + length_3)))))), (62, 8, .bp d_0_b d_0_o 0), (63, 9, .bp d_0_b d_0_o 1), (64, 10, .bp d_0_b d_0_o (1 + s_2.Court.toNat * 1)), (65, 12, .bp d_0_b d_0_o 0), (66, 13, .bp d_0_b d_0_o 4)], fun X18 => [([(11, .box d_0_b d_0_o ((cH (dF.mk d_0.number (d_0.free.set s_2.Court (w64 (beginv_0_7 + length_3))) d_0.ends)) ++ d_0_post))], .box d_0_b d_0_o ((cH d_0) ++ d_0_post)), ([], .box b1 0 (bK p_1)), ([], .box b2 0 (aR s_2))], ?_, ?_⟩
    · exact ⟨by kernel_rfl, by kernel_rfl, by kernel_rfl, fun _ => by kernel_rfl, fun _ => by kernel_rfl, fun _ => by kernel_rfl, fun _ => rfl, [([], [11]), ([], [11]), ([1], [11]), ([], []), ([], []), ([4], []), ([], [11]), ([], []), ([0], [11]), ([8], [11]), ([2, 9], [11]), ([6, 10], []), ([3], []), ([12], [])], by kernel_rfl, ⟨fun X18 S hw hi hS => bE (X := X18) rfl (hw X18) rfl (aL rfl (aD (v := .bp d_0_b d_0_o 0) (aA rfl) (aC hS rfl) rfl)),
      fun X18 S hw hi hS => bE (X := X18) rfl (hw X18) rfl (aL rfl (aN (aA rfl) (aC hS rfl) wZ)),
      fun X18 S hw hi hS => bE (X := X18) rfl (hw X18) rfl (aL rfl (aQ (aA rfl) (aC hS rfl) (i := 2) (og hS rfl rfl) rfl bL)),
      fun X18 S hw hi hS => bE (X := X18) rfl (hw X18) rfl (aL rfl (aD (v := .bp d_0_b d_0_o 0) (aA rfl) (aC hS rfl) rfl)),
      fun X18 S hw hi hS => bE (X := X18) rfl (hw X18) rfl (aL rfl (aN (aA rfl) (aC hS rfl) fU)),
      fun X18 S hw hi hS => bE (X := X18) rfl (hw X18) rfl (aL rfl (aQ (aA rfl) (aC hS rfl) (i := 2) (og hS rfl rfl) rfl bL)),
      fun X18 S hw hi hS => bE (X := X18) rfl (hw X18) rfl (aL rfl (aD (v := .d (.lit (.int .i64 ((w64 (beginv_0_7 + length_3)))))) (aA rfl) (aC hS rfl) rfl)),
      fun X18 S hw hi hS => bE (X := X18) rfl (hw X18) rfl (aL rfl (aD (v := .d (.lit (.int .i64 ((w64 (beginv_0_7 + length_3)))))) (aA rfl) (aC hS rfl) rfl)),
      fun X18 S hw hi hS => bE (X := X18) rfl (hw X18) rfl (aL rfl (gO (aA rfl) (aC hS rfl))),
      fun X18 S hw hi hS => bE (X := X18) rfl (hw X18) rfl (aL rfl (aN (aA rfl) (aC hS rfl) yV)),
      fun X18 S hw hi hS => bE (X := X18) rfl (hw X18) rfl (aL rfl (sD (aA rfl) (aC hS rfl) (aC hS rfl) aDg (iE h20).1 (iE h20).2)),
      fun X18 S hw hi hS => wR (X := X18) hS rfl rfl rfl (p := 0) rfl rfl (aL rfl (cL (i := 0) (ds := ((cH d_0) ++ d_0_post)) (aC hS rfl) (og hS rfl rfl) (aC hS rfl) rfl rfl Try.sizeOf3 rfl (aA rfl) (aFo h20 rfl) (ds' := ((cH (dF.mk d_0.number (d_0.free.set s_2.Court (w64 (beginv_0_7 + length_3))) d_0.ends)) ++ d_0_post)) (A3.updI (a := d_0.free) h20 (fun qq => ((cH (dF.mk d_0.number qq d_0.ends)) ++ d_0_post)) rfl rfl rfl))),
      fun X18 S hw hi hS => bE (X := X18) rfl (hw X18) rfl (aL rfl (gO (aA rfl) (aC hS rfl))),
      fun X18 S hw hi hS => bE (X := X18) rfl (hw X18) rfl (aL rfl (aN (aA rfl) (aC hS rfl) aEd)), trivial⟩⟩
    · exact fun X18 => dB (aZ rfl (aZ rfl (aZ rfl (bC ⟨rfl, rfl, trivial⟩))))
   ·intro X18
    obtain ⟨u21, h22, h⟩ := bind_some h
    refine tr1 rfl (sD (aA rfl) rfl rfl aGz (iE h22).1 (iE h22).2) ?_
    refine tr1 rfl (cL (i := 0) (ds := ((cH (dF.mk d_0.number (d_0.free.set s_2.Court (w64 (beginv_0_7 + length_3))) d_0.ends)) ++ d_0_post)) rfl rfl rfl rfl rfl Try.sizeOf3 rfl (aA rfl) (aFo h22 rfl) (ds' := ((cH (dF.mk d_0.number (d_0.free.set s_2.Court (w64 (beginv_0_7 + length_3))) (d_0.ends.set s_2.Job (w64 (beginv_0_7 + length_3))))) ++ d_0_post)) (A6.updI (a := d_0.ends) h22 (fun qq => ((cH (dF.mk d_0.number (d_0.free.set s_2.Court (w64 (beginv_0_7 + length_3))) qq)) ++ d_0_post)) rfl rfl rfl rfl rfl rfl)) ?_
    refine aI ?_
    refine aH ?_
    refine aE ?_
    refine tr1 rfl (aD (v := .d (.lit (.int .i64 beginv_0_7))) (aA rfl) rfl rfl) ?_
    refine tr1 rfl (aD (v := .d (.lit (.int .i64 ((w64 (beginv_0_7 + length_3)))))) (aA rfl) rfl rfl) ?_
    refine tr1 rfl (aK (v := .d (.lit (.int .i64 beginv_0_7))) (aA rfl) rfl rfl) ?_
    refine tr1 rfl (aK (v := .d (.lit (.int .i64 ((w64 (beginv_0_7 + length_3)))))) (aA rfl) rfl rfl) ?_
    refine aI ?_
    have h := Option.some.inj h
    subst h
    refine cT (bI [0] rfl rfl (bC (l := [8, 9]) ⟨rfl, rfl, trivial⟩)) ?_
    exact cB ⟨rfl, _, .two _ _, rfl, rfl⟩

theorem uP (p_0 : cP) (order_1 : List bM) (length_2 : bJ → Option Int) {r : (List Int) × (List Int)} (length_2_f : Nat) (length_2_v : List AV) (length_2_e : ∀ args w, (callFunc length_2_f args).run Try.prog w = .ok (.enter length_2_f args) w) (length_2_h : ∀ (x0 : bJ) r, length_2 x0 = some r → Fn Try.prog length_2_f ([.agg (bA x0)] ++ length_2_v) (.d (.lit (.int .i64 r)))) (h : qT p_0 order_1 length_2 = some r) : Fn Try.prog 51 [.agg (bK p_0), .d (.sl 3 (order_1.map aR)), .fn length_2_f length_2_v] (.tup [.d (.sl 1 (r.1.map aW)), .d (.sl 1 (r.2.map aW))]) := by
 unfold qT at h
 refine Fn.of_tr Try.func51 rfl (rs := [.tmp 6, .tmp 7]) Try.results51 Try.ntmps51 (Nat.le_of_ble_eq_true rfl) ?_
 refine aH ?_
 refine aE ?_
 refine cI rfl (eU (v := .agg (bK p_0)) (aA rfl) rfl rfl rfl) ?_
 rintro _ ⟨b1, rfl⟩
 refine tr1 rfl (jO 3 1 (.inl rfl) (aA rfl)) ?_
 refine tr1 rfl (jO 3 1 (.inl rfl) (aA rfl)) ?_
 refine aI ?_
 refine aH ?_
 obtain ⟨x5, h6, h⟩ := bind_some h
 obtain ⟨x7, h8, h⟩ := bind_some h
 refine gI mix 9 [1, 2, 3] (fun X4 => [(6, .d (.lit (X4 3).v)), (18, .d (.lit (X4 7).v))]) (fun X4 => [.box b1 0 (bK p_0), .arr (.slice none 0 0) 3 1 (([] : List Int).map aW), .arr (.slice none 0 0) 3 1 (([] : List Int).map aW), .arr (X4 3).v 3 1 (x5.map aW), .arr (X4 7).v 3 1 (x7.map aW)]) ?_ ?_
 ·refine ⟨2, fun X4 => [(11, 0, .bp b1 0 2), (12, 1, .d (.sl 6 (p_0.Jobs.map aT))), (13, 2, .d (.lit (.int .i64 ((p_0.Jobs.length : Int))))), (14, 3, .d (.lit (X4 3).v)), (15, 4, .bp b1 0 2), (16, 5, .d (.sl 6 (p_0.Jobs.map aT))), (17, 6, .d (.lit (.int .i64 ((p_0.Jobs.length : Int))))), (18, 7, .d (.lit (X4 7).v)), (6, 8, .d (.lit (X4 3).v))], fun X4 => [([], .box b1 0 (bK p_0)), ([], .arr (.slice none 0 0) 3 1 (([] : List Int).map aW)), ([], .arr (.slice none 0 0) 3 1 (([] : List Int).map aW)), ([(3, .arr (X4 3).v 3 1 (x5.map aW))], nob), ([(7, .arr (X4 7).v 3 1 (x7.map aW))], nob)], ?_, ?_⟩
  · exact ⟨by kernel_rfl, by kernel_rfl, by kernel_rfl, fun _ => by kernel_rfl, fun _ => by kernel_rfl, fun _ => by kernel_rfl, fun _ => rfl, [([], [3]), ([0], [3]), ([1], [3]), ([2], [8]), ([], [7]), ([4], [7]), ([5], [7]), ([6], []), ([3], [])], by kernel_rfl, ⟨fun X4 S hw hi hS => bE (X := X4) rfl (hw X4) rfl (aL rfl (aN (aA rfl) (aC hS rfl) gB)),
      fun X4 S hw hi hS => bE (X := X4) rfl (hw X4) rfl (aL rfl (aQ (aA rfl) (aC hS rfl) (i := 0) (og hS rfl rfl) rfl jH)),
      fun X4 S hw hi hS => bE (X := X4) rfl (hw X4) rfl (aL rfl (dC (aA rfl) (aC hS rfl) eE.of)),
      fun X4 S hw hi hS => rC (X := X4) (p := 3) (v := fun x => .d (.lit x.v)) (mo := fun x => .arr x.v 3 1 (x5.map aW)) hS hi rfl rfl (fun _ => rfl) hw (fun _ => rfl) (fun _ => rfl) (fun _ => rfl) (fun _ => ⟨rfl, rfl, .inr rfl, ⟨rfl, rfl, .inr rfl, ⟨rfl, rfl, .inr rfl, ⟨rfl, rfl, .inl rfl, ⟨rfl, rfl, .inr rfl, ⟨rfl, rfl, .inr rfl, ⟨rfl, rfl, .inr rfl, ⟨rfl, rfl, .inr rfl, ⟨rfl, rfl, .inl rfl, trivial⟩⟩⟩⟩⟩⟩⟩⟩⟩) (fun _ => ⟨trivial, rfl, ⟨trivial, rfl, ⟨trivial, rfl, ⟨⟨rfl, .inl rfl, trivial⟩, rfl, ⟨⟨rfl, .inr rfl, trivial⟩, rfl, trivial⟩⟩⟩⟩⟩) (gW (aKf (zs := [.lit (.int .i64 0)]) (aA rfl) dV (aC hS rfl) (aC hS rfl) rfl rfl (aJw aW h6) (aA rfl)) (by rintro _ ⟨w, rfl⟩; exact ⟨⟨0, w⟩, bI [0, 1, 2, 5, 4] rfl rfl (le_refl _)⟩)),
      fun X4 S hw hi hS => bE (X := X4) rfl (hw X4) rfl (aL rfl (aN (aA rfl) (aC hS rfl) gB)),
      fun X4 S hw hi hS => bE (X := X4) rfl (hw X4) rfl (aL rfl (aQ (aA rfl) (aC hS rfl) (i := 0) (og hS rfl rfl) rfl jH)),
      fun X4 S hw hi hS => bE (X := X4) rfl (hw X4) rfl (aL rfl (dC (aA rfl) (aC hS rfl) eE.of)),
      fun X4 S hw hi hS => rC (X := X4) (p := 4) (v := fun x => .d (.lit x.v)) (mo := fun x => .arr x.v 3 1 (x7.map aW)) hS hi rfl rfl (fun _ => rfl) hw (fun _ => rfl) (fun _ => rfl) (fun _ => rfl) (fun _ => ⟨rfl, rfl, .inr rfl, ⟨rfl, rfl, .inr rfl, ⟨rfl, rfl, .inr rfl, ⟨rfl, rfl, .inr rfl, ⟨rfl, rfl, .inr rfl, ⟨rfl, rfl, .inr rfl, ⟨rfl, rfl, .inr rfl, ⟨rfl, rfl, .inl rfl, ⟨rfl, rfl, .inr rfl, trivial⟩⟩⟩⟩⟩⟩⟩⟩⟩) (fun _ => ⟨trivial, rfl, ⟨trivial, rfl, ⟨trivial, rfl, ⟨⟨rfl, .inr rfl, trivial⟩, rfl, ⟨⟨rfl, .inl rfl, trivial⟩, rfl, trivial⟩⟩⟩⟩⟩) (gW (aKf (zs := [.lit (.int .i64 0)]) (aA rfl) dV (aC hS rfl) (aC hS rfl) rfl rfl (aJw aW h8) (aA rfl)) (by rintro _ ⟨w, rfl⟩; exact ⟨⟨0, w⟩, bI [0, 1, 2, 3, 5] rfl rfl (le_refl _)⟩)),
      fun X4 S hw hi hS => bE (X := X4) rfl (hw X4) rfl (aL rfl (aK (v := .d (.lit (X4 3).v)) (aA rfl) (aC hS rfl) rfl)), trivial⟩⟩
  · exact fun X4 => dB (aZ rfl (aZ rfl (bC ⟨rfl, rfl, rfl, trivial⟩)))
 ·intro X4
  refine tr1 rfl (aK (v := .d (.lit (X4 7).v)) (aA rfl) rfl rfl) ?_
  refine aI ?_
  refine aH ?_
  refine aE ?_
  refine tr1 rfl (bO (aA rfl) rfl (i := 0) rfl gL (es := (bK p_0)) rfl rfl) ?_
  obtain ⟨r9, h10, h⟩ := bind_some h
  refine tr1 rfl (iX (aA rfl) (.func _ _ Try.call86) rfl rfl (sB _ _ h10)) ?_
  refine cI rfl (dM (zs := [.lit (.int .i64 0), .lit (.int .i64 0), .lit (.int .i64 0), .lit (.int .i64 0), .lit (.int .i64 0), .lit (.int .i64 0), .lit (.int .i64 0), .lit (.int .i64 0), .lit (.int .i64 0), .lit (.int .i64 0)]) (aA rfl) Try.zeroValue124 rfl rfl) ?_
  rintro _ ⟨b11, rfl⟩
  refine tr1 rfl (cL (i := 5) rfl rfl rfl rfl rfl Try.sizeOf124 rfl (aA rfl) (Nat.le_of_ble_eq_true rfl) (ds' := (cH r9)) rfl) ?_
  refine aI ?_
  refine aH ?_
  refine aH ?_
  refine aE ?_
  refine tr1 rfl (aD (v := .d (.sl 3 (order_1.map aR))) (aA rfl) rfl rfl) ?_
  refine tr1 rfl (dC (aA rfl) rfl oH.of) ?_
  refine tr1 rfl (aD (v := .d (.lit (.int .i64 0))) (aA rfl) rfl rfl) ?_
  refine aI ?_
  refine cW ?_
  refine dY [2, 3, 8, 21, 22] (fun (s12 : Int × dF × (List Int) × (List Int)) => [(6, .d (.lit (X4 3).v)), (7, .d (.lit (X4 7).v)), (23, .d (.lit (.int .i64 s12.1)))]) (fun (s12 : Int × dF × (List Int) × (List Int)) => [.box b1 0 (bK p_0), .box b11 0 (cH s12.2.1), .arr (X4 3).v 3 1 (s12.2.2.1.map aW), .arr (X4 7).v 3 1 (s12.2.2.2.map aW)]) (fun (k : Nat) (s12 : Int × dF × (List Int) × (List Int)) => nU length_2 order_1 (order_1.length : Int) p_0 k s12.1 s12.2.1 s12.2.2.1 s12.2.2.2) (fun _ => rfl) (0, r9, x5, x7) h (bI [0, 5, 3, 4] rfl rfl (aZ rfl (aZ rfl (aZ rfl (bC ⟨rfl, rfl, rfl, rfl, rfl, trivial⟩))))) ?_
  rintro k13 ⟨t23_0_12, now_0_12, o14_0_12, o18_0_12⟩ h
  simp only [nU] at h
  refine aH ?_
  refine aE ?_
  refine tr1 rfl (bP (aA rfl) rfl rfl rfl) ?_
  refine aI ?_
  refine aH ?_
  refine cK rfl (fun c14 => ?_) (fun c14 => ?_)
  ·have h := bB c14 h
   refine cF ?_
   refine aH ?_
   refine cW ?_
   refine aH ?_
   refine aE ?_
   obtain ⟨x15, h16, h⟩ := bind_some h
   refine tr1 rfl (bU (aA rfl) rfl rfl oH.of (cE aR h16)) ?_
   refine tr1 rfl (dE (aA rfl) rfl lD (es := (aR x15)) rfl rfl) ?_
   refine cI rfl (dM (zs := [.lit (.int .i64 0), .lit (.int .i64 0), .lit (.int .i64 0)]) (aA rfl) Try.zeroValue45 rfl rfl) ?_
   rintro _ ⟨b17, rfl⟩
   refine tr1 rfl (cL (i := 4) rfl rfl rfl rfl rfl Try.sizeOf45 rfl (aA rfl) (Nat.le_of_ble_eq_true rfl) (ds' := (aR x15)) rfl) ?_
   refine aI ?_
   refine aH ?_
   refine aH ?_
   refine aE ?_
   refine tr1 rfl (aN (aA rfl) rfl lG) ?_
   refine tr1 rfl (aQ (aA rfl) rfl (i := 4) rfl rfl bL) ?_
   refine tr1 rfl (aN (aA rfl) rfl yU) ?_
   refine tr1 rfl (aQ (aA rfl) rfl (i := 1) rfl rfl bL) ?_
   refine tr1 rfl (bP (aA rfl) rfl rfl rfl) ?_
   refine aI ?_
   refine cK rfl (fun c18 => ?_) (fun c18 => ?_)
   ·have h := bB c18 h
    refine aE ?_
    refine tr1 rfl (bO (aA rfl) rfl (i := 0) rfl gL (es := (bK p_0)) rfl rfl) ?_
    refine tr1 rfl (aN (aA rfl) rfl lG) ?_
    refine tr1 rfl (aQ (aA rfl) rfl (i := 4) rfl rfl bL) ?_
    obtain ⟨r19, h20, h⟩ := bind_some h
    refine tr1 rfl (iX (aA rfl) (.func _ _ Try.call86) rfl rfl (sB _ _ h20)) ?_
    refine tr1 rfl (cL (i := 1) rfl rfl rfl rfl rfl Try.sizeOf124 rfl (aA rfl) (Nat.le_of_ble_eq_true rfl) (ds' := (cH r19)) rfl) ?_
    refine aI ?_
    obtain ⟨x22, h23, h⟩ := bind_some h
    obtain ⟨r24, h25, h⟩ := bind_some h
    obtain ⟨r26, h27, h⟩ := bind_some h
    obtain ⟨x28, h29, h⟩ := bind_some h
    refine gI mix 23 [2, 3, 6, 7, 8, 21, 22, 23] (fun X21 => [(40, .d (.lit (X4 7).v)), (42, .d (.lit (.int .i64 x15.Job))), (56, .d (.lit (.int .i64 r26.2.1)))]) (fun X21 => [.box b1 0 (bK p_0), .box b11 0 (cH r26.2.2), .arr (X4 3).v 3 1 ((o14_0_12.set x15.Job.toNat r26.1).map aW), .arr (X4 7).v 3 1 (o18_0_12.map aW), .box b17 0 (aR x15)]) ?_ ?_
    ·refine ⟨0, fun X21 => [(37, 0, .d (.lit (X4 3).v)), (38, 1, .bp b17 0 0), (39, 2, .d (.lit (.int .i64 x15.Job))), (40, 3, .d (.lit (X4 7).v)), (41, 4, .bp b17 0 0), (42, 5, .d (.lit (.int .i64 x15.Job))), (43, 6, .agg (bK p_0)), (44, 7, .agg (aR x15)), (45, 8, .fn length_2_f length_2_v), (46, 9, .bp b1 0 2), (47, 10, .d (.sl 6 (p_0.Jobs.map aT))), (48, 11, .bp b17 0 0), (49, 12, .d (.lit (.int .i64 x15.Job))), (50, 13, .cp [.lit (.int .i64 x22.Length.Low), .lit (.int .i64 x22.Length.High), .sl 1 (x22.After.map aW), .sl 1 (x22.With.map aW), .lit (.int .i64 x22.Due), .lit (.int .i64 x22.Earliest)]), (51, 14, .cp [.lit (.int .i64 x22.Length.Low), .lit (.int .i64 x22.Length.High)]), (52, 15, .agg (bA x22.Length)), (53, 16, .d (.lit (.int .i64 r24))), (54, 17, .tup [.d (.lit (.int .i64 r26.1)), .d (.lit (.int .i64 r26.2.1))]), (36, 18, .tup [.d (.lit (.int .i64 r26.1)), .d (.lit (.int .i64 r26.2.1))]), (55, 19, .d (.lit (.int .i64 r26.1))), (56, 20, .d (.lit (.int .i64 r26.2.1))), (57, 21, .ep (X4 3).v 1 x15.Job.toNat 0)], fun X21 => [([], .box b1 0 (bK p_0)), ([(17, .box b11 0 (cH r26.2.2))], .box b11 0 (cH r19)), ([(22, .arr (X4 3).v 3 1 ((o14_0_12.set x15.Job.toNat r26.1).map aW))], .arr (X4 3).v 3 1 (o14_0_12.map aW)), ([], .arr (X4 7).v 3 1 (o18_0_12.map aW)), ([], .box b17 0 (aR x15))], ?_, ?_⟩
     · exact ⟨by kernel_rfl, by kernel_rfl, by kernel_rfl, fun _ => by kernel_rfl, fun _ => by kernel_rfl, fun _ => by kernel_rfl, fun _ => rfl, [([], [22]), ([], [22]), ([1], [22]), ([], []), ([], []), ([4], []), ([], [17, 22]), ([], [17, 22]), ([], [17, 22]), ([], [17, 22]), ([9], [17, 22]), ([], [17, 22]), ([11], [17, 22]), ([10, 12], [17, 22]), ([13], [17, 22]), ([14], [17, 22]), ([8, 15], [17, 22]), ([6, 7, 16], [22]), ([17], [22]), ([17, 18], [22]), ([17, 18], []), ([0, 2, 17], [22]), ([17, 19, 21], [])], by kernel_rfl, ⟨fun X21 S hw hi hS => bE (X := X21) rfl (hw X21) rfl (aL rfl (aD (v := .d (.lit (X4 3).v)) (aA rfl) (aC hS rfl) rfl)),
      fun X21 S hw hi hS => bE (X := X21) rfl (hw X21) rfl (aL rfl (aN (aA rfl) (aC hS rfl) fU)),
      fun X21 S hw hi hS => bE (X := X21) rfl (hw X21) rfl (aL rfl (aQ (aA rfl) (aC hS rfl) (i := 4) (og hS rfl rfl) rfl bL)),
      fun X21 S hw hi hS => bE (X := X21) rfl (hw X21) rfl (aL rfl (aD (v := .d (.lit (X4 7).v)) (aA rfl) (aC hS rfl) rfl)),
      fun X21 S hw hi hS => bE (X := X21) rfl (hw X21) rfl (aL rfl (aN (aA rfl) (aC hS rfl) fU)),
      fun X21 S hw hi hS => bE (X := X21) rfl (hw X21) rfl (aL rfl (aQ (aA rfl) (aC hS rfl) (i := 4) (og hS rfl rfl) rfl bL)),
      fun X21 S hw hi hS => bE (X := X21) rfl (hw X21) rfl (aL rfl (bO (aA rfl) (aC hS rfl) (i := 0) (og hS rfl rfl) gL (es := (bK p_0)) rfl rfl)),
      fun X21 S hw hi hS => bE (X := X21) rfl (hw X21) rfl (aL rfl (bO (aA rfl) (aC hS rfl) (i := 4) (og hS rfl rfl) lD (es := (aR x15)) rfl rfl)),
      fun X21 S hw hi hS => bE (X := X21) rfl (hw X21) rfl (aL rfl (aD (v := .fn length_2_f length_2_v) (aA rfl) (aC hS rfl) rfl)),
      fun X21 S hw hi hS => bE (X := X21) rfl (hw X21) rfl (aL rfl (aN (aA rfl) (aC hS rfl) gB)),
      fun X21 S hw hi hS => bE (X := X21) rfl (hw X21) rfl (aL rfl (aQ (aA rfl) (aC hS rfl) (i := 0) (og hS rfl rfl) rfl jH)),
      fun X21 S hw hi hS => bE (X := X21) rfl (hw X21) rfl (aL rfl (aN (aA rfl) (aC hS rfl) fU)),
      fun X21 S hw hi hS => bE (X := X21) rfl (hw X21) rfl (aL rfl (aQ (aA rfl) (aC hS rfl) (i := 4) (og hS rfl rfl) rfl bL)),
      fun X21 S hw hi hS => bE (X := X21) rfl (hw X21) rfl (aL rfl (bU (aA rfl) (aC hS rfl) (aC hS rfl) eE.of (cE aT h23))),
      fun X21 S hw hi hS => bE (X := X21) rfl (hw X21) rfl (aL rfl (cC (aA rfl) (aC hS rfl) mO (es := [.lit (.int .i64 x22.Length.Low), .lit (.int .i64 x22.Length.High)]) rfl)),
      fun X21 S hw hi hS => bE (X := X21) rfl (hw X21) rfl (aL rfl (dE (aA rfl) (aC hS rfl) gM (es := (bA x22.Length)) rfl rfl)),
      fun X21 S hw hi hS => bE (X := X21) rfl (hw X21) rfl (aL rfl (cQ (aA rfl) (.clo _ _ _ _ length_2_e (aF hS rfl)) (yS (ev2 (aC hS rfl) evn)) rfl (BVs.refl _ _) (length_2_h _ _  h25) rfl)),
      fun X21 S hw hi hS => wQ (X := X21) (p := 1) hS rfl rfl rfl (hw X21) rfl rfl rfl (gW (xR ((aCf 1 (x := .box b11 0 (cH r19)) (og hS rfl rfl)).trans (bI [1, 0, 2, 3, 4] rfl rfl (le_refl _))) (mA (passed := [.box b11 0 ((cH r19) ++ [])]) (aA rfl) rfl (.func _ _ Try.call87) (ev2 (aC hS rfl) (ev2 (aC hS rfl) (ev2 (aC hS rfl) (ev2 (aC hS rfl) evn)))) rfl (oF r19 p_0 x15 r24 (d_0_post := []) h27))) (by rintro _ ⟨_, _, ⟨rfl, rfl⟩, rfl⟩; exact bI [1, 0, 2, 3, 4] rfl rfl (le_refl _))),
      fun X21 S hw hi hS => bE (X := X21) rfl (hw X21) rfl (aL rfl (aD (v := .tup [.d (.lit (.int .i64 r26.1)), .d (.lit (.int .i64 r26.2.1))]) (aA rfl) (aC hS rfl) rfl)),
      fun X21 S hw hi hS => bE (X := X21) rfl (hw X21) rfl (aL rfl (bZ (aA rfl) (aC hS rfl) rfl)),
      fun X21 S hw hi hS => bE (X := X21) rfl (hw X21) rfl (aL rfl (bZ (aA rfl) (aC hS rfl) rfl)),
      fun X21 S hw hi hS => bE (X := X21) rfl (hw X21) rfl (aL rfl (iZ (m := 2) (aA rfl) (aC hS rfl) (og hS rfl rfl) (aC hS rfl) dV.of (cE aW h29))),
      fun X21 S hw hi hS => wR (X := X21) hS rfl rfl rfl (p := 2) rfl rfl (aL rfl (qX (l := 2) (aC hS rfl) (og hS rfl rfl) (pF aW h29) (aC hS rfl) rfl rfl Try.sizeOf3 rfl (aA rfl) (Nat.le_of_ble_eq_true rfl) (rows' := ((o14_0_12.set x15.Job.toNat r26.1)).map aW) (wP _ _ _ _ rfl))), trivial⟩⟩
     · exact fun X21 => dB (aZ rfl (aZ rfl (aZ rfl (bC ⟨rfl, rfl, rfl, rfl, rfl, rfl, rfl, rfl, trivial⟩))))
    ·intro X21
     obtain ⟨x30, h31, h⟩ := bind_some h
     refine tr1 rfl (iZ (m := 3) (aA rfl) rfl rfl rfl dV.of (cE aW h31)) ?_
     refine tr1 rfl (qX (l := 3) rfl rfl (pF aW h31) rfl rfl rfl Try.sizeOf3 rfl (aA rfl) (Nat.le_of_ble_eq_true rfl) (rows' := ((o18_0_12.set x15.Job.toNat r26.2.1)).map aW) (wP _ _ _ _ rfl)) ?_
     refine lA ?_
     refine aE ?_
     refine tr1 rfl (cG (aA rfl) rfl rfl rfl) ?_
     refine tr1 rfl (aD (v := .d (.lit (.int .i64 ((w64 (t23_0_12 + 1)))))) (aA rfl) rfl rfl) ?_
     refine aI ?_
     exact ⟨(w64 (t23_0_12 + 1), r26.2.2, (o14_0_12.set x15.Job.toNat r26.1), (o18_0_12.set x15.Job.toNat r26.2.1)), h, bI [0, 1, 2, 3] rfl rfl (aZ rfl (aZ rfl (aZ rfl (bC ⟨rfl, rfl, rfl, rfl, rfl, trivial⟩))))⟩
   ·have h := bD c18 h
    refine cF ?_
    obtain ⟨x33, h34, h⟩ := bind_some h
    obtain ⟨r35, h36, h⟩ := bind_some h
    obtain ⟨r37, h38, h⟩ := bind_some h
    obtain ⟨x39, h40, h⟩ := bind_some h
    refine gI mix 23 [2, 3, 6, 7, 8, 21, 22, 23] (fun X32 => [(40, .d (.lit (X4 7).v)), (42, .d (.lit (.int .i64 x15.Job))), (56, .d (.lit (.int .i64 r37.2.1)))]) (fun X32 => [.box b1 0 (bK p_0), .box b11 0 (cH r37.2.2), .arr (X4 3).v 3 1 ((o14_0_12.set x15.Job.toNat r37.1).map aW), .arr (X4 7).v 3 1 (o18_0_12.map aW), .box b17 0 (aR x15)]) ?_ ?_
    ·refine ⟨0, fun X32 => [(37, 0, .d (.lit (X4 3).v)), (38, 1, .bp b17 0 0), (39, 2, .d (.lit (.int .i64 x15.Job))), (40, 3, .d (.lit (X4 7).v)), (41, 4, .bp b17 0 0), (42, 5, .d (.lit (.int .i64 x15.Job))), (43, 6, .agg (bK p_0)), (44, 7, .agg (aR x15)), (45, 8, .fn length_2_f length_2_v), (46, 9, .bp b1 0 2), (47, 10, .d (.sl 6 (p_0.Jobs.map aT))), (48, 11, .bp b17 0 0), (49, 12, .d (.lit (.int .i64 x15.Job))), (50, 13, .cp [.lit (.int .i64 x33.Length.Low), .lit (.int .i64 x33.Length.High), .sl 1 (x33.After.map aW), .sl 1 (x33.With.map aW), .lit (.int .i64 x33.Due), .lit (.int .i64 x33.Earliest)]), (51, 14, .cp [.lit (.int .i64 x33.Length.Low), .lit (.int .i64 x33.Length.High)]), (52, 15, .agg (bA x33.Length)), (53, 16, .d (.lit (.int .i64 r35))), (54, 17, .tup [.d (.lit (.int .i64 r37.1)), .d (.lit (.int .i64 r37.2.1))]), (36, 18, .tup [.d (.lit (.int .i64 r37.1)), .d (.lit (.int .i64 r37.2.1))]), (55, 19, .d (.lit (.int .i64 r37.1))), (56, 20, .d (.lit (.int .i64 r37.2.1))), (57, 21, .ep (X4 3).v 1 x15.Job.toNat 0)], fun X32 => [([], .box b1 0 (bK p_0)), ([(17, .box b11 0 (cH r37.2.2))], .box b11 0 (cH now_0_12)), ([(22, .arr (X4 3).v 3 1 ((o14_0_12.set x15.Job.toNat r37.1).map aW))], .arr (X4 3).v 3 1 (o14_0_12.map aW)), ([], .arr (X4 7).v 3 1 (o18_0_12.map aW)), ([], .box b17 0 (aR x15))], ?_, ?_⟩
     · exact ⟨by kernel_rfl, by kernel_rfl, by kernel_rfl, fun _ => by kernel_rfl, fun _ => by kernel_rfl, fun _ => by kernel_rfl, fun _ => rfl, [([], [22]), ([], [22]), ([1], [22]), ([], []), ([], []), ([4], []), ([], [17, 22]), ([], [17, 22]), ([], [17, 22]), ([], [17, 22]), ([9], [17, 22]), ([], [17, 22]), ([11], [17, 22]), ([10, 12], [17, 22]), ([13], [17, 22]), ([14], [17, 22]), ([8, 15], [17, 22]), ([6, 7, 16], [22]), ([17], [22]), ([17, 18], [22]), ([17, 18], []), ([0, 2, 17], [22]), ([17, 19, 21], [])], by kernel_rfl, ⟨fun X32 S hw hi hS => bE (X := X32) rfl (hw X32) rfl (aL rfl (aD (v := .d (.lit (X4 3).v)) (aA rfl) (aC hS rfl) rfl)),
      fun X32 S hw hi hS => bE (X := X32) rfl (hw X32) rfl (aL rfl (aN (aA rfl) (aC hS rfl) fU)),
      fun X32 S hw hi hS => bE (X := X32) rfl (hw X32) rfl (aL rfl (aQ (aA rfl) (aC hS rfl) (i := 4) (og hS rfl rfl) rfl bL)),
      fun X32 S hw hi hS => bE (X := X32) rfl (hw X32) rfl (aL rfl (aD (v := .d (.lit (X4 7).v)) (aA rfl) (aC hS rfl) rfl)),
      fun X32 S hw hi hS => bE (X := X32) rfl (hw X32) rfl (aL rfl (aN (aA rfl) (aC hS rfl) fU)),
      fun X32 S hw hi hS => bE (X := X32) rfl (hw X32) rfl (aL rfl (aQ (aA rfl) (aC hS rfl) (i := 4) (og hS rfl rfl) rfl bL)),
      fun X32 S hw hi hS => bE (X := X32) rfl (hw X32) rfl (aL rfl (bO (aA rfl) (aC hS rfl) (i := 0) (og hS rfl rfl) gL (es := (bK p_0)) rfl rfl)),
      fun X32 S hw hi hS => bE (X := X32) rfl (hw X32) rfl (aL rfl (bO (aA rfl) (aC hS rfl) (i := 4) (og hS rfl rfl) lD (es := (aR x15)) rfl rfl)),
      fun X32 S hw hi hS => bE (X := X32) rfl (hw X32) rfl (aL rfl (aD (v := .fn length_2_f length_2_v) (aA rfl) (aC hS rfl) rfl)),
      fun X32 S hw hi hS => bE (X := X32) rfl (hw X32) rfl (aL rfl (aN (aA rfl) (aC hS rfl) gB)),
      fun X32 S hw hi hS => bE (X := X32) rfl (hw X32) rfl (aL rfl (aQ (aA rfl) (aC hS rfl) (i := 0) (og hS rfl rfl) rfl jH)),
      fun X32 S hw hi hS => bE (X := X32) rfl (hw X32) rfl (aL rfl (aN (aA rfl) (aC hS rfl) fU)),
      fun X32 S hw hi hS => bE (X := X32) rfl (hw X32) rfl (aL rfl (aQ (aA rfl) (aC hS rfl) (i := 4) (og hS rfl rfl) rfl bL)),
      fun X32 S hw hi hS => bE (X := X32) rfl (hw X32) rfl (aL rfl (bU (aA rfl) (aC hS rfl) (aC hS rfl) eE.of (cE aT h34))),
      fun X32 S hw hi hS => bE (X := X32) rfl (hw X32) rfl (aL rfl (cC (aA rfl) (aC hS rfl) mO (es := [.lit (.int .i64 x33.Length.Low), .lit (.int .i64 x33.Length.High)]) rfl)),
      fun X32 S hw hi hS => bE (X := X32) rfl (hw X32) rfl (aL rfl (dE (aA rfl) (aC hS rfl) gM (es := (bA x33.Length)) rfl rfl)),
      fun X32 S hw hi hS => bE (X := X32) rfl (hw X32) rfl (aL rfl (cQ (aA rfl) (.clo _ _ _ _ length_2_e (aF hS rfl)) (yS (ev2 (aC hS rfl) evn)) rfl (BVs.refl _ _) (length_2_h _ _  h36) rfl)),
      fun X32 S hw hi hS => wQ (X := X32) (p := 1) hS rfl rfl rfl (hw X32) rfl rfl rfl (gW (xR ((aCf 1 (x := .box b11 0 (cH now_0_12)) (og hS rfl rfl)).trans (bI [1, 0, 2, 3, 4] rfl rfl (le_refl _))) (mA (passed := [.box b11 0 ((cH now_0_12) ++ [])]) (aA rfl) rfl (.func _ _ Try.call87) (ev2 (aC hS rfl) (ev2 (aC hS rfl) (ev2 (aC hS rfl) (ev2 (aC hS rfl) evn)))) rfl (oF now_0_12 p_0 x15 r35 (d_0_post := []) h38))) (by rintro _ ⟨_, _, ⟨rfl, rfl⟩, rfl⟩; exact bI [1, 0, 2, 3, 4] rfl rfl (le_refl _))),
      fun X32 S hw hi hS => bE (X := X32) rfl (hw X32) rfl (aL rfl (aD (v := .tup [.d (.lit (.int .i64 r37.1)), .d (.lit (.int .i64 r37.2.1))]) (aA rfl) (aC hS rfl) rfl)),
      fun X32 S hw hi hS => bE (X := X32) rfl (hw X32) rfl (aL rfl (bZ (aA rfl) (aC hS rfl) rfl)),
      fun X32 S hw hi hS => bE (X := X32) rfl (hw X32) rfl (aL rfl (bZ (aA rfl) (aC hS rfl) rfl)),
      fun X32 S hw hi hS => bE (X := X32) rfl (hw X32) rfl (aL rfl (iZ (m := 2) (aA rfl) (aC hS rfl) (og hS rfl rfl) (aC hS rfl) dV.of (cE aW h40))),
      fun X32 S hw hi hS => wR (X := X32) hS rfl rfl rfl (p := 2) rfl rfl (aL rfl (qX (l := 2) (aC hS rfl) (og hS rfl rfl) (pF aW h40) (aC hS rfl) rfl rfl Try.sizeOf3 rfl (aA rfl) (Nat.le_of_ble_eq_true rfl) (rows' := ((o14_0_12.set x15.Job.toNat r37.1)).map aW) (wP _ _ _ _ rfl))), trivial⟩⟩
     · exact fun X32 => dB (aZ rfl (aZ rfl (aZ rfl (bC ⟨rfl, rfl, rfl, rfl, rfl, rfl, rfl, rfl, trivial⟩))))
    ·intro X32
     obtain ⟨x41, h42, h⟩ := bind_some h
     refine tr1 rfl (iZ (m := 3) (aA rfl) rfl rfl rfl dV.of (cE aW h42)) ?_
     refine tr1 rfl (qX (l := 3) rfl rfl (pF aW h42) rfl rfl rfl Try.sizeOf3 rfl (aA rfl) (Nat.le_of_ble_eq_true rfl) (rows' := ((o18_0_12.set x15.Job.toNat r37.2.1)).map aW) (wP _ _ _ _ rfl)) ?_
     refine lA ?_
     refine aE ?_
     refine tr1 rfl (cG (aA rfl) rfl rfl rfl) ?_
     refine tr1 rfl (aD (v := .d (.lit (.int .i64 ((w64 (t23_0_12 + 1)))))) (aA rfl) rfl rfl) ?_
     refine aI ?_
     exact ⟨(w64 (t23_0_12 + 1), r37.2.2, (o14_0_12.set x15.Job.toNat r37.1), (o18_0_12.set x15.Job.toNat r37.2.1)), h, bI [0, 1, 2, 3] rfl rfl (aZ rfl (aZ rfl (aZ rfl (bC ⟨rfl, rfl, rfl, rfl, rfl, trivial⟩))))⟩
  ·have h := bD c14 h
   refine dO ?_
   refine .inl ⟨rfl, ?_⟩
   simp only [yB] at h
   refine aH ?_
   refine aE ?_
   refine tr1 rfl (aD (v := .d (.lit (X4 3).v)) (aA rfl) rfl rfl) ?_
   refine tr1 rfl (aD (v := .d (.lit (X4 7).v)) (aA rfl) rfl rfl) ?_
   refine tr1 rfl (aK (v := .d (.lit (X4 3).v)) (aA rfl) rfl rfl) ?_
   refine tr1 rfl (aK (v := .d (.lit (X4 7).v)) (aA rfl) rfl rfl) ?_
   refine aI ?_
   have h := Option.some.inj h
   subst h
   refine cT (cR (iG (k := 7) (v := .d (.sl 1 (o18_0_12.map aW))) (.d (jF 3 rfl (dT (f := aW) fun _ => rfl))) (iG (k := 6) (v := .d (.sl 1 (o14_0_12.map aW))) (.d (jF 2 rfl (dT (f := aW) fun _ => rfl))) (wA)))) ?_
   exact cB ⟨rfl, _, .two _ _, rfl, rfl⟩

theorem wM (s_0 : bJ) {r : Int} (h : qQ s_0 = some r) : Fn Try.prog 53 [.agg (bA s_0)] (.d (.lit (.int .i64 r))) := by
 unfold qQ at h
 refine Fn.of_tr Try.func53 rfl (rs := [.tmp 2]) Try.results53 Try.ntmps53 (Nat.le_of_ble_eq_true rfl) ?_
 refine aH ?_
 refine aE ?_
 refine cI rfl (eU (v := .agg (bA s_0)) (aA rfl) rfl rfl rfl) ?_
 rintro _ ⟨b1, rfl⟩
 refine tr1 rfl (aK (v := .d (.lit (.int .i64 0))) (aA rfl) rfl rfl) ?_
 refine aI ?_
 refine aH ?_
 refine aE ?_
 refine tr1 rfl (aN (aA rfl) rfl oQ) ?_
 refine tr1 rfl (aQ (aA rfl) rfl (i := 0) rfl rfl bL) ?_
 refine tr1 rfl (aK (v := .d (.lit (.int .i64 s_0.High))) (aA rfl) rfl rfl) ?_
 refine aI ?_
 have h := Option.some.inj h
 subst h
 refine cT (cR (cU (l := [2]) ⟨rfl, trivial⟩)) ?_
 exact cB ⟨rfl, _, .one _, rfl, rfl⟩

theorem aGr (p_0 : cP) (order_1 : List bM) {r : Bool × Int × Int} (h : zS p_0 order_1 = some r) : Fn Try.prog 18 [.agg (bK p_0), .d (.sl 3 (order_1.map aR))] (.tup [.d (.lit (.bool r.1)), .d (.lit (.int .i64 r.2.1)), .d (.lit (.int .i64 r.2.2))]) := by
 unfold zS at h
 refine Fn.of_tr Try.func18 rfl (rs := [.tmp 4, .tmp 5, .tmp 6]) Try.results18 Try.ntmps18 (Nat.le_of_ble_eq_true rfl) ?_
 refine aH ?_
 refine aE ?_
 refine cI rfl (eU (v := .agg (bK p_0)) (aA rfl) rfl rfl rfl) ?_
 rintro _ ⟨b1, rfl⟩
 refine tr1 rfl (aK (v := .d (.lit (.bool false))) (aA rfl) rfl rfl) ?_
 refine tr1 rfl (aK (v := .d (.lit (.int .i64 0))) (aA rfl) rfl rfl) ?_
 refine tr1 rfl (aK (v := .d (.lit (.int .i64 0))) (aA rfl) rfl rfl) ?_
 refine aI ?_
 refine aH ?_
 refine aH ?_
 refine aE ?_
 refine tr1 rfl (bO (aA rfl) rfl (i := 0) rfl gL (es := (bK p_0)) rfl rfl) ?_
 obtain ⟨r2, h3, h⟩ := bind_some h
 refine tr1 rfl (cQ (aA rfl) (.func _ _ Try.call25) rfl rfl (BVs.refl _ _) (uL _ h3) rfl) ?_
 refine tr1 rfl (aK (v := .d (.lit (.int .i64 r2))) (aA rfl) rfl rfl) ?_
 refine aI ?_
 refine aH ?_
 refine aE ?_
 refine tr1 rfl (aD (v := .d (.lit (.int .i64 r2))) (aA rfl) rfl rfl) ?_
 refine tr1 rfl (bP (aA rfl) rfl rfl rfl) ?_
 refine aI ?_
 refine cK rfl (fun c4 => ?_) (fun c4 => ?_)
 ·have h := bB c4 h
  refine aH ?_
  refine aE ?_
  refine tr1 rfl (aD (v := .d (.lit (.int .i64 r2))) (aA rfl) rfl rfl) ?_
  refine tr1 rfl (aK (v := .d (.lit (.bool false))) (aA rfl) rfl rfl) ?_
  refine tr1 rfl (aK (v := .d (.lit (.int .i64 0))) (aA rfl) rfl rfl) ?_
  refine tr1 rfl (aK (v := .d (.lit (.int .i64 r2))) (aA rfl) rfl rfl) ?_
  refine aI ?_
  have h := Option.some.inj h
  subst h
  refine cT (cR (cU (l := [4, 5, 6]) ⟨rfl, rfl, rfl, trivial⟩)) ?_
  exact cB ⟨rfl, _, .three _ _ _, rfl, rfl⟩
 ·have h := bD c4 h
  refine cF ?_
  refine aH ?_
  refine aH ?_
  refine aE ?_
  refine tr1 rfl (bO (aA rfl) rfl (i := 0) rfl gL (es := (bK p_0)) rfl rfl) ?_
  refine tr1 rfl (aD (v := .d (.sl 3 (order_1.map aR))) (aA rfl) rfl rfl) ?_
  obtain ⟨r5, h6, h⟩ := bind_some h
  refine tr1 rfl (cQ (aA rfl) (.func _ _ Try.call50) rfl rfl (BVs.refl _ _) (wK _ _ h6) rfl) ?_
  refine tr1 rfl (fE (aA rfl) rfl) ?_
  refine aI ?_
  refine cK rfl (fun c7 => ?_) (fun c7 => ?_)
  ·have h := bB c7 h
   refine aH ?_
   refine aE ?_
   refine tr1 rfl (aK (v := .d (.lit (.bool false))) (aA rfl) rfl rfl) ?_
   refine tr1 rfl (aK (v := .d (.lit (.int .i64 0))) (aA rfl) rfl rfl) ?_
   refine tr1 rfl (aK (v := .d (.lit (.int .i64 81))) (aA rfl) rfl rfl) ?_
   refine aI ?_
   have h := Option.some.inj h
   subst h
   refine cT (cR (cU (l := [4, 5, 6]) ⟨rfl, rfl, rfl, trivial⟩)) ?_
   exact cB ⟨rfl, _, .three _ _ _, rfl, rfl⟩
  ·have h := bD c7 h
   refine cF ?_
   refine aH ?_
   refine aE ?_
   refine tr1 rfl (bO (aA rfl) rfl (i := 0) rfl gL (es := (bK p_0)) rfl rfl) ?_
   refine tr1 rfl (aD (v := .d (.sl 3 (order_1.map aR))) (aA rfl) rfl rfl) ?_
   obtain ⟨r9, h10, h⟩ := bind_some h
   refine tr1 rfl (iX (aA rfl) (.func _ _ Try.call51) rfl rfl (uP _ _ _ 53 [] Try.call53 (fun _ _ h => wM _ h) h10)) ?_
   refine tr1 rfl (aD (v := .tup [.d (.sl 1 (r9.1.map aW)), .d (.sl 1 (r9.2.map aW))]) (aA rfl) rfl rfl) ?_
   refine tr1 rfl (bZ (aA rfl) rfl rfl) ?_
   refine tr1 rfl (bZ (aA rfl) rfl rfl) ?_
   refine tr1 rfl (aK (v := .d (.sl 1 (r9.1.map aW))) (aA rfl) rfl rfl) ?_
   refine tr1 rfl (aK (v := .d (.sl 1 (r9.2.map aW))) (aA rfl) rfl rfl) ?_
   refine aI ?_
   refine aH ?_
   refine aH ?_
   refine aE ?_
   refine tr1 rfl (aD (v := .d (.sl 3 (order_1.map aR))) (aA rfl) rfl rfl) ?_
   refine tr1 rfl (dC (aA rfl) rfl oH.of) ?_
   refine tr1 rfl (aD (v := .d (.lit (.int .i64 0))) (aA rfl) rfl rfl) ?_
   refine aI ?_
   refine cW ?_
   refine dY [2, 9, 27, 28] (fun (s11 : Int) => [(29, .d (.lit (.int .i64 s11)))]) (fun (s11 : Int) => [.box b1 0 (bK p_0)]) (fun (k : Nat) (s11 : Int) => qL r9.2 order_1 (order_1.length : Int) p_0 k s11) (fun _ => rfl) (0) h (bI [0] rfl rfl (aZ rfl (bC ⟨rfl, rfl, rfl, rfl, trivial⟩))) ?_
   rintro k12 t29_0_11 h
   simp only [qL] at h
   refine aH ?_
   refine aE ?_
   refine tr1 rfl (bP (aA rfl) rfl rfl rfl) ?_
   refine aI ?_
   refine aH ?_
   refine cK rfl (fun c13 => ?_) (fun c13 => ?_)
   ·have h := bB c13 h
    refine cF ?_
    refine aH ?_
    refine cW ?_
    refine aH ?_
    refine aE ?_
    obtain ⟨x14, h15, h⟩ := bind_some h
    refine tr1 rfl (bU (aA rfl) rfl rfl oH.of (cE aR h15)) ?_
    refine tr1 rfl (dE (aA rfl) rfl lD (es := (aR x14)) rfl rfl) ?_
    refine cI rfl (dM (zs := [.lit (.int .i64 0), .lit (.int .i64 0), .lit (.int .i64 0)]) (aA rfl) Try.zeroValue45 rfl rfl) ?_
    rintro _ ⟨b16, rfl⟩
    refine tr1 rfl (cL (i := 1) rfl rfl rfl rfl rfl Try.sizeOf45 rfl (aA rfl) (Nat.le_of_ble_eq_true rfl) (ds' := (aR x14)) rfl) ?_
    refine aI ?_
    refine aH ?_
    obtain ⟨x17, h18, h⟩ := bind_some h
    obtain ⟨x19, h20, h⟩ := bind_some h
    obtain ⟨x21, h22, h⟩ := bind_some h
    refine eS mix 16 [2, 9, 11, 27, 28, 29] [(37, .d (.lit (.int .i64 x17))), (48, .d (.lit (.int .i64 x21.High)))] ?_ ?_
    ·refine ⟨[(33, 0, .d (.sl 1 (r9.2.map aW))), (34, 1, .bp b16 0 0), (35, 2, .d (.lit (.int .i64 x14.Job))), (36, 3, .cp [.lit (.int .i64 x17)]), (37, 4, .d (.lit (.int .i64 x17))), (38, 5, .bp b1 0 0), (39, 6, .d (.sl 1 (p_0.Days.map bH))), (40, 7, .bp b16 0 1), (41, 8, .d (.lit (.int .i64 x14.Day))), (42, 9, .cp [.sl 2 (x19.map bA)]), (43, 10, .d (.sl 2 (x19.map bA))), (44, 11, .bp b16 0 2), (45, 12, .d (.lit (.int .i64 x14.Court))), (46, 13, .cp [.lit (.int .i64 x21.Low), .lit (.int .i64 x21.High)]), (47, 14, .cp [.lit (.int .i64 x21.High)]), (48, 15, .d (.lit (.int .i64 x21.High)))], ?_, ?_⟩
     · exact ⟨by kernel_rfl, by kernel_rfl, by kernel_rfl, by kernel_rfl, by kernel_rfl, [([], []), ([], []), ([1], []), ([0, 2], []), ([3], []), ([], []), ([5], []), ([], []), ([7], []), ([6, 8], []), ([9], []), ([], []), ([11], []), ([10, 12], []), ([13], []), ([14], [])], by kernel_rfl, ⟨fun S hS => aB rfl (aL rfl (aD (v := .d (.sl 1 (r9.2.map aW))) (aA rfl) (aC hS rfl) rfl)),
      fun S hS => aB rfl (aL rfl (aN (aA rfl) (aC hS rfl) fU)),
      fun S hS => aB rfl (aL rfl (aQ (aA rfl) (aC hS rfl) (i := 1) rfl rfl bL)),
      fun S hS => aB rfl (aL rfl (bU (aA rfl) (aC hS rfl) (aC hS rfl) dV.of (cE aW h18))),
      fun S hS => aB rfl (aL rfl (cJ (aA rfl) (aC hS rfl) bL)),
      fun S hS => aB rfl (aL rfl (aN (aA rfl) (aC hS rfl) lF)),
      fun S hS => aB rfl (aL rfl (aQ (aA rfl) (aC hS rfl) (i := 0) rfl rfl oS)),
      fun S hS => aB rfl (aL rfl (aN (aA rfl) (aC hS rfl) lG)),
      fun S hS => aB rfl (aL rfl (aQ (aA rfl) (aC hS rfl) (i := 1) rfl rfl bL)),
      fun S hS => aB rfl (aL rfl (bU (aA rfl) (aC hS rfl) (aC hS rfl) oX.of (cE bH h20))),
      fun S hS => aB rfl (aL rfl (cJ (aA rfl) (aC hS rfl) uJ)),
      fun S hS => aB rfl (aL rfl (aN (aA rfl) (aC hS rfl) wZ)),
      fun S hS => aB rfl (aL rfl (aQ (aA rfl) (aC hS rfl) (i := 1) rfl rfl bL)),
      fun S hS => aB rfl (aL rfl (bU (aA rfl) (aC hS rfl) (aC hS rfl) kC.of (cE bA h22))),
      fun S hS => aB rfl (aL rfl (cC (aA rfl) (aC hS rfl) oQ (es := [.lit (.int .i64 x21.High)]) rfl)),
      fun S hS => aB rfl (aL rfl (cJ (aA rfl) (aC hS rfl) bL)), trivial⟩⟩
     · exact dB (aZ rfl (aZ rfl (bC ⟨rfl, rfl, rfl, rfl, rfl, rfl, trivial⟩)))
    ·refine tr1 rfl (bP (aA rfl) rfl rfl rfl) ?_
     refine aI ?_
     refine cK rfl (fun c23 => ?_) (fun c23 => ?_)
     ·have h := bB c23 h
      refine aH ?_
      refine eS mix 3 [] [(4, .d (.lit (.bool false))), (51, .d (.lit (.int .i64 x14.Job)))] ?_ ?_
      ·refine ⟨[(50, 0, .bp b16 0 0), (51, 1, .d (.lit (.int .i64 x14.Job))), (4, 2, .d (.lit (.bool false)))], ?_, ?_⟩
       · exact ⟨by kernel_rfl, by kernel_rfl, by kernel_rfl, by kernel_rfl, by kernel_rfl, [([], []), ([0], []), ([], [])], by kernel_rfl, ⟨fun S hS => aB rfl (aL rfl (aN (aA rfl) (aC hS rfl) fU)),
      fun S hS => aB rfl (aL rfl (aQ (aA rfl) (aC hS rfl) (i := 1) rfl rfl bL)),
      fun S hS => aB rfl (aL rfl (aK (v := .d (.lit (.bool false))) (aA rfl) rfl rfl)), trivial⟩⟩
       · exact dB (aZ rfl (aZ rfl (bC trivial)))
      ·refine tr1 rfl (aK (v := .d (.lit (.int .i64 x14.Job))) (aA rfl) rfl rfl) ?_
       refine tr1 rfl (aK (v := .d (.lit (.int .i64 0))) (aA rfl) rfl rfl) ?_
       refine aI ?_
       have h := Option.some.inj h
       subst h
       refine cT (cR (cU (l := [4, 5, 6]) ⟨rfl, rfl, rfl, trivial⟩)) ?_
       exact cB ⟨rfl, _, .three _ _ _, rfl, rfl⟩
     ·have h := bD c23 h
      refine fB ?_
      refine aE ?_
      refine tr1 rfl (cG (aA rfl) rfl rfl rfl) ?_
      refine tr1 rfl (aD (v := .d (.lit (.int .i64 ((w64 (t29_0_11 + 1)))))) (aA rfl) rfl rfl) ?_
      refine aI ?_
      exact ⟨(w64 (t29_0_11 + 1)), h, bI [0] rfl rfl (aZ rfl (bC ⟨rfl, rfl, rfl, rfl, trivial⟩))⟩
   ·have h := bD c13 h
    refine dO ?_
    refine .inl ⟨rfl, ?_⟩
    simp only [zT] at h
    refine aH ?_
    refine aE ?_
    refine tr1 rfl (aK (v := .d (.lit (.bool true))) (aA rfl) rfl rfl) ?_
    refine tr1 rfl (aK (v := .d (.lit (.int .i64 (-1)))) (aA rfl) rfl rfl) ?_
    refine tr1 rfl (aK (v := .d (.lit (.int .i64 0))) (aA rfl) rfl rfl) ?_
    refine aI ?_
    have h := Option.some.inj h
    subst h
    refine cT (cR (cU (l := [4, 5, 6]) ⟨rfl, rfl, rfl, trivial⟩)) ?_
    exact cB ⟨rfl, _, .three _ _ _, rfl, rfl⟩

theorem uO (x_0 : aS) (job_1 : Int) {r : Bool} (h : oW x_0 job_1 = some r) : Fn Try.prog 127 [.agg (bG x_0), .d (.lit (.int .i64 job_1))] (.d (.lit (.bool r))) := by
 unfold oW at h
 refine Fn.of_tr Try.func127 rfl (rs := [.tmp 4]) Try.results127 Try.ntmps127 (Nat.le_of_ble_eq_true rfl) ?_
 refine aH ?_
 refine aE ?_
 refine cI rfl (eU (v := .agg (bG x_0)) (aA rfl) rfl rfl rfl) ?_
 rintro _ ⟨b1, rfl⟩
 refine tr1 rfl (aK (v := .d (.lit (.bool false))) (aA rfl) rfl rfl) ?_
 refine aI ?_
 refine aH ?_
 refine aE ?_
 refine tr1 rfl (aN (aA rfl) rfl vA) ?_
 refine tr1 rfl (aQ (aA rfl) rfl (i := 0) rfl rfl bL) ?_
 refine tr1 rfl (aD (v := .d (.lit (.int .i64 job_1))) (aA rfl) rfl rfl) ?_
 obtain ⟨u2, h3, h⟩ := bind_some h
 refine tr1 rfl (aEx (aA rfl) rfl rfl (vC h3)) ?_
 refine tr1 rfl (zY (aA rfl) rfl rfl (.inl ⟨rfl, rfl⟩)) ?_
 refine tr1 rfl (bP (aA rfl) rfl rfl rfl) ?_
 refine tr1 rfl (aK (v := .d (.lit (.bool ((decide ((aNj (x_0.done.fdiv (2 ^ (min job_1.toNat 64))) 1) = 1)))))) (aA rfl) rfl rfl) ?_
 refine aI ?_
 have h := Option.some.inj h
 subst h
 refine cT (cR (cU (l := [4]) ⟨rfl, trivial⟩)) ?_
 exact cB ⟨rfl, _, .one _, rfl, rfl⟩

theorem uV (s_0 : List bM) (v_1 : bM) {r : Int} (h : nD s_0 v_1 = some r) : Fn Try.prog 133 [.d (.sl 3 (s_0.map aR)), .agg (aR v_1)] (.d (.lit (.int .i64 r))) := by
 unfold nD at h
 refine Fn.of_tr Try.func133 rfl (rs := [.tmp 4]) Try.results133 Try.ntmps133 (Nat.le_of_ble_eq_true rfl) ?_
 refine aH ?_
 refine aE ?_
 refine cI rfl (eU (v := .agg (aR v_1)) (aA rfl) rfl rfl rfl) ?_
 rintro _ ⟨b1, rfl⟩
 refine tr1 rfl (aK (v := .d (.lit (.int .i64 0))) (aA rfl) rfl rfl) ?_
 refine aI ?_
 refine aH ?_
 refine aH ?_
 refine aE ?_
 refine tr1 rfl (aD (v := .d (.sl 3 (s_0.map aR))) (aA rfl) rfl rfl) ?_
 refine tr1 rfl (dC (aA rfl) rfl oH.of) ?_
 refine tr1 rfl (aD (v := .d (.lit (.int .i64 0))) (aA rfl) rfl rfl) ?_
 refine aI ?_
 refine cW ?_
 refine dY [0, 3, 7] (fun (s2 : Int) => [(8, .d (.lit (.int .i64 s2)))]) (fun (s2 : Int) => [.box b1 0 (aR v_1)]) (fun (k : Nat) (s2 : Int) => jK s_0 (s_0.length : Int) v_1 k s2) (fun _ => rfl) (0) h (bI [0] rfl rfl (aZ rfl (bC ⟨rfl, rfl, rfl, trivial⟩))) ?_
 rintro k3 t8_0_2 h
 simp only [jK] at h
 refine aH ?_
 refine aE ?_
 refine tr1 rfl (bP (aA rfl) rfl rfl rfl) ?_
 refine aI ?_
 refine aH ?_
 refine cK rfl (fun c4 => ?_) (fun c4 => ?_)
 ·have h := bB c4 h
  refine cF ?_
  refine aH ?_
  refine cW ?_
  refine aH ?_
  refine aE ?_
  refine tr1 rfl (aD (v := .d (.lit (.int .i64 t8_0_2))) (aA rfl) rfl rfl) ?_
  refine tr1 rfl (aK (v := .d (.lit (.int .i64 t8_0_2))) (aA rfl) rfl rfl) ?_
  refine aI ?_
  refine aH ?_
  obtain ⟨x5, h6, h⟩ := bind_some h
  refine eS mix 5 [0, 3, 5, 7, 8] [(11, .agg (aR v_1)), (15, .agg (aR x5))] ?_ ?_
  ·refine ⟨[(11, 0, .agg (aR v_1)), (12, 1, .d (.sl 3 (s_0.map aR))), (13, 2, .d (.lit (.int .i64 t8_0_2))), (14, 3, .cp [.lit (.int .i64 x5.Job), .lit (.int .i64 x5.Day), .lit (.int .i64 x5.Court)]), (15, 4, .agg (aR x5))], ?_, ?_⟩
   · exact ⟨by kernel_rfl, by kernel_rfl, by kernel_rfl, by kernel_rfl, by kernel_rfl, [([], []), ([], []), ([], []), ([1, 2], []), ([3], [])], by kernel_rfl, ⟨fun S hS => aB rfl (aL rfl (bO (aA rfl) (aC hS rfl) (i := 0) rfl lD (es := (aR v_1)) rfl rfl)),
      fun S hS => aB rfl (aL rfl (aD (v := .d (.sl 3 (s_0.map aR))) (aA rfl) (aC hS rfl) rfl)),
      fun S hS => aB rfl (aL rfl (aD (v := .d (.lit (.int .i64 t8_0_2))) (aA rfl) (aC hS rfl) rfl)),
      fun S hS => aB rfl (aL rfl (bU (aA rfl) (aC hS rfl) (aC hS rfl) oH.of (cE aR h6))),
      fun S hS => aB rfl (aL rfl (dE (aA rfl) (aC hS rfl) lD (es := (aR x5)) rfl rfl)), trivial⟩⟩
   · exact dB (aZ rfl (aZ rfl (bC ⟨rfl, rfl, rfl, rfl, rfl, trivial⟩)))
  ·refine tr1 rfl (aLz (a := v_1) (b := x5) (aA rfl) rfl rfl rfl rfl Try.eqGuardType45 aNl) ?_
   refine aI ?_
   refine cK rfl (fun c7 => ?_) (fun c7 => ?_)
   ·have h := bB c7 h
    refine aH ?_
    refine aE ?_
    refine tr1 rfl (aD (v := .d (.lit (.int .i64 t8_0_2))) (aA rfl) rfl rfl) ?_
    refine tr1 rfl (aK (v := .d (.lit (.int .i64 t8_0_2))) (aA rfl) rfl rfl) ?_
    refine aI ?_
    have h := Option.some.inj h
    subst h
    refine cT (cR (cU (l := [4]) ⟨rfl, trivial⟩)) ?_
    exact cB ⟨rfl, _, .one _, rfl, rfl⟩
   ·have h := bD c7 h
    refine fB ?_
    refine aE ?_
    refine tr1 rfl (cG (aA rfl) rfl rfl rfl) ?_
    refine tr1 rfl (aD (v := .d (.lit (.int .i64 ((w64 (t8_0_2 + 1)))))) (aA rfl) rfl rfl) ?_
    refine aI ?_
    exact ⟨(w64 (t8_0_2 + 1)), h, bI [0] rfl rfl (aZ rfl (bC ⟨rfl, rfl, rfl, trivial⟩))⟩
 ·have h := bD c4 h
  refine dO ?_
  refine .inl ⟨rfl, ?_⟩
  simp only [oU] at h
  refine aH ?_
  refine aE ?_
  refine tr1 rfl (aK (v := .d (.lit (.int .i64 (-1)))) (aA rfl) rfl rfl) ?_
  refine aI ?_
  have h := Option.some.inj h
  subst h
  refine cT (cR (cU (l := [4]) ⟨rfl, trivial⟩)) ?_
  exact cB ⟨rfl, _, .one _, rfl, rfl⟩

theorem tC (s_0 : List bM) (v_1 : bM) {r : Bool} (h : lO s_0 v_1 = some r) : Fn Try.prog 132 [.d (.sl 3 (s_0.map aR)), .agg (aR v_1)] (.d (.lit (.bool r))) := by
 unfold lO at h
 refine Fn.of_tr Try.func132 rfl (rs := [.tmp 4]) Try.results132 Try.ntmps132 (Nat.le_of_ble_eq_true rfl) ?_
 refine aH ?_
 refine aE ?_
 refine cI rfl (eU (v := .agg (aR v_1)) (aA rfl) rfl rfl rfl) ?_
 rintro _ ⟨b1, rfl⟩
 refine tr1 rfl (aK (v := .d (.lit (.bool false))) (aA rfl) rfl rfl) ?_
 refine aI ?_
 refine aH ?_
 refine aE ?_
 refine tr1 rfl (aD (v := .d (.sl 3 (s_0.map aR))) (aA rfl) rfl rfl) ?_
 refine tr1 rfl (bO (aA rfl) rfl (i := 0) rfl lD (es := (aR v_1)) rfl rfl) ?_
 obtain ⟨r2, h3, h⟩ := bind_some h
 refine tr1 rfl (cQ (aA rfl) (.func _ _ Try.call133) rfl rfl (BVs.refl _ _) (uV _ _ h3) rfl) ?_
 refine tr1 rfl (bP (aA rfl) rfl rfl rfl) ?_
 refine tr1 rfl (aK (v := .d (.lit (.bool ((decide (0 ≤ r2)))))) (aA rfl) rfl rfl) ?_
 refine aI ?_
 have h := Option.some.inj h
 subst h
 refine cT (cR (cU (l := [4]) ⟨rfl, trivial⟩)) ?_
 exact cB ⟨rfl, _, .one _, rfl, rfl⟩

theorem sP (s_0 : eN) (x_1 : bM) {r : Int} {s_0_seen_r : Nat} (h : pR s_0 x_1 = some r) : Fn Try.prog 128 [.cp [.sl 1 (s_0.Program.Days.map bH), .lit (.int .i64 s_0.Program.Rest), .sl 6 (s_0.Program.Jobs.map aT), .lit (.int .i64 s_0.days), eF 3 aR s_0.old, .lit (.map (some s_0_seen_r))], .agg (aR x_1)] (.d (.lit (.int .i64 r))) := by
 unfold pR at h
 refine Fn.of_tr Try.func128 rfl (rs := [.tmp 4]) Try.results128 Try.ntmps128 (Nat.le_of_ble_eq_true rfl) ?_
 refine aH ?_
 refine aE ?_
 refine cI rfl (eU (v := .agg (aR x_1)) (aA rfl) rfl rfl rfl) ?_
 rintro _ ⟨b1, rfl⟩
 refine tr1 rfl (aK (v := .d (.lit (.int .i64 0))) (aA rfl) rfl rfl) ?_
 refine aI ?_
 refine aH ?_
 refine aH ?_
 obtain ⟨b2, h3, h⟩ := bind_some h
 refine eS mix 13 [] [(17, .d (.lit (.bool b2)))] ?_ ?_
 ·refine cA (s_0.old.isNone) (fun c4 => ?_) (fun c4 => ?_)
  ·have h3 := bB c4 h3
   have h3 := Option.some.inj h3
   subst h3
   refine ⟨[(5, 0, .cp [.sl 1 (s_0.Program.Days.map bH), .lit (.int .i64 s_0.Program.Rest), .sl 6 (s_0.Program.Jobs.map aT), .lit (.int .i64 s_0.days), eF 3 aR s_0.old, .lit (.map (some s_0_seen_r))]), (6, 1, .cp [.sl 1 (s_0.Program.Days.map bH), .lit (.int .i64 s_0.Program.Rest), .sl 6 (s_0.Program.Jobs.map aT), .lit (.int .i64 s_0.days), eF 3 aR s_0.old, .lit (.map (some s_0_seen_r))]), (7, 2, .cp [eF 3 aR s_0.old]), (8, 3, .d (eF 3 aR s_0.old)), (9, 4, .d (.lit (.bool s_0.old.isNone))), (10, 5, .d (.lit (.bool s_0.old.isNone))), (11, 6, .tup []), (12, 7, .tup []), (13, 8, .tup []), (14, 9, .tup []), (15, 10, .tup []), (16, 11, .tup []), (17, 12, .d (.lit (.bool true)))], ?_, ?_⟩
   · exact ⟨by kernel_rfl, by kernel_rfl, by kernel_rfl, by kernel_rfl, by kernel_rfl, [([], []), ([0], []), ([1], []), ([2], []), ([3], []), ([4], []), ([5], []), ([5, 6], []), ([5, 7], []), ([5, 8], []), ([5], []), ([5, 9, 10], []), ([5, 11], [])], by kernel_rfl, ⟨fun S hS => aB rfl (aL rfl (aD (v := .cp [.sl 1 (s_0.Program.Days.map bH), .lit (.int .i64 s_0.Program.Rest), .sl 6 (s_0.Program.Jobs.map aT), .lit (.int .i64 s_0.days), eF 3 aR s_0.old, .lit (.map (some s_0_seen_r))]) (aA rfl) (aC hS rfl) rfl)),
      fun S hS => aB rfl (aL rfl (fD (aA rfl) (aC hS rfl))),
      fun S hS => aB rfl (aL rfl (cC (aA rfl) (aC hS rfl) yY (es := [eF 3 aR s_0.old]) rfl)),
      fun S hS => aB rfl (aL rfl (cJ (aA rfl) (aC hS rfl) aFu)),
      fun S hS => aB rfl (aL rfl (aHn (aA rfl) (aC hS rfl) Try.underlying26)),
      fun S hS => aB rfl (aL rfl (aD (v := .d (.lit (.bool s_0.old.isNone))) (aA rfl) (aC hS rfl) rfl)),
      fun S hS => aB rfl (aM rfl rfl (aA rfl) rfl (aA rfl) (aF hS rfl) c4),
      fun S hS => aB rfl (aM rfl rfl (aA rfl) rfl (aA rfl) (aF hS rfl) c4),
      fun S hS => aB rfl (aM rfl rfl (aA rfl) rfl (aA rfl) (aF hS rfl) c4),
      fun S hS => aB rfl (aM rfl rfl (aA rfl) rfl (aA rfl) (aF hS rfl) c4),
      fun S hS => aB rfl (aM rfl rfl (aA rfl) rfl (aA rfl) (aF hS rfl) c4),
      fun S hS => aB rfl (aM rfl rfl (aA rfl) rfl (aA rfl) (aF hS rfl) c4),
      fun S hS => aB rfl (aL rfl (bR (v := .d (.lit (.bool true))) (aA rfl) (aC hS rfl) c4 rfl rfl)), trivial⟩⟩
   · exact dB (aZ rfl (bC trivial))
  ·have h3 := bD c4 h3
   obtain ⟨r5, h6, h3⟩ := bind_some h3
   have h3 := Option.some.inj h3
   subst h3
   refine ⟨[(5, 0, .cp [.sl 1 (s_0.Program.Days.map bH), .lit (.int .i64 s_0.Program.Rest), .sl 6 (s_0.Program.Jobs.map aT), .lit (.int .i64 s_0.days), eF 3 aR s_0.old, .lit (.map (some s_0_seen_r))]), (6, 1, .cp [.sl 1 (s_0.Program.Days.map bH), .lit (.int .i64 s_0.Program.Rest), .sl 6 (s_0.Program.Jobs.map aT), .lit (.int .i64 s_0.days), eF 3 aR s_0.old, .lit (.map (some s_0_seen_r))]), (7, 2, .cp [eF 3 aR s_0.old]), (8, 3, .d (eF 3 aR s_0.old)), (9, 4, .d (.lit (.bool s_0.old.isNone))), (10, 5, .d (.lit (.bool s_0.old.isNone))), (11, 6, .cp [.sl 1 (s_0.Program.Days.map bH), .lit (.int .i64 s_0.Program.Rest), .sl 6 (s_0.Program.Jobs.map aT), .lit (.int .i64 s_0.days), eF 3 aR s_0.old, .lit (.map (some s_0_seen_r))]), (12, 7, .cp [.sl 1 (s_0.Program.Days.map bH), .lit (.int .i64 s_0.Program.Rest), .sl 6 (s_0.Program.Jobs.map aT), .lit (.int .i64 s_0.days), eF 3 aR s_0.old, .lit (.map (some s_0_seen_r))]), (13, 8, .cp [eF 3 aR s_0.old]), (14, 9, .d (eF 3 aR s_0.old)), (15, 10, .agg (aR x_1)), (16, 11, .d (.lit (.bool r5))), (17, 12, .d (.lit (.bool r5)))], ?_, ?_⟩
   · exact ⟨by kernel_rfl, by kernel_rfl, by kernel_rfl, by kernel_rfl, by kernel_rfl, [([], []), ([0], []), ([1], []), ([2], []), ([3], []), ([4], []), ([5], []), ([5, 6], []), ([5, 7], []), ([5, 8], []), ([5], []), ([5, 9, 10], []), ([5, 11], [])], by kernel_rfl, ⟨fun S hS => aB rfl (aL rfl (aD (v := .cp [.sl 1 (s_0.Program.Days.map bH), .lit (.int .i64 s_0.Program.Rest), .sl 6 (s_0.Program.Jobs.map aT), .lit (.int .i64 s_0.days), eF 3 aR s_0.old, .lit (.map (some s_0_seen_r))]) (aA rfl) (aC hS rfl) rfl)),
      fun S hS => aB rfl (aL rfl (fD (aA rfl) (aC hS rfl))),
      fun S hS => aB rfl (aL rfl (cC (aA rfl) (aC hS rfl) yY (es := [eF 3 aR s_0.old]) rfl)),
      fun S hS => aB rfl (aL rfl (cJ (aA rfl) (aC hS rfl) aFu)),
      fun S hS => aB rfl (aL rfl (aHn (aA rfl) (aC hS rfl) Try.underlying26)),
      fun S hS => aB rfl (aL rfl (aD (v := .d (.lit (.bool s_0.old.isNone))) (aA rfl) (aC hS rfl) rfl)),
      fun S hS => aB rfl (aO rfl rfl (aA rfl) (aF hS rfl) c4 (aD (v := .cp [.sl 1 (s_0.Program.Days.map bH), .lit (.int .i64 s_0.Program.Rest), .sl 6 (s_0.Program.Jobs.map aT), .lit (.int .i64 s_0.days), eF 3 aR s_0.old, .lit (.map (some s_0_seen_r))]) (aA rfl) (aC hS rfl) rfl)),
      fun S hS => aB rfl (aO rfl rfl (aA rfl) (aF hS rfl) c4 (fD (aA rfl) (aC hS rfl))),
      fun S hS => aB rfl (aO rfl rfl (aA rfl) (aF hS rfl) c4 (cC (aA rfl) (aC hS rfl) yY (es := [eF 3 aR s_0.old]) rfl)),
      fun S hS => aB rfl (aO rfl rfl (aA rfl) (aF hS rfl) c4 (cJ (aA rfl) (aC hS rfl) aFu)),
      fun S hS => aB rfl (aO rfl rfl (aA rfl) (aF hS rfl) c4 (bO (aA rfl) (aC hS rfl) (i := 0) rfl lD (es := (aR x_1)) rfl rfl)),
      fun S hS => aB rfl (aO rfl rfl (aA rfl) (aF hS rfl) c4 (cQ (aA rfl) (.func _ _ Try.call132) (ev2 (aC hS rfl) (ev2 (aC hS rfl) evn)) rfl (.cons (.d (aNk _)) (.cons (.same _) .nil)) (tC _ _ h6) rfl)),
      fun S hS => aB rfl (aL rfl (bQ (v := .d (.lit (.bool r5))) (aA rfl) (aC hS rfl) c4 (aC hS rfl) rfl)), trivial⟩⟩
   · exact dB (aZ rfl (bC trivial))
 ·refine aI ?_
  refine cK rfl (fun c7 => ?_) (fun c7 => ?_)
  ·have h := bB c7 h
   refine aH ?_
   refine aE ?_
   refine tr1 rfl (aK (v := .d (.lit (.int .i64 0))) (aA rfl) rfl rfl) ?_
   refine aI ?_
   have h := Option.some.inj h
   subst h
   refine cT (cR (cU (l := [4]) ⟨rfl, trivial⟩)) ?_
   exact cB ⟨rfl, _, .one _, rfl, rfl⟩
  ·have h := bD c7 h
   refine cF ?_
   refine aH ?_
   refine aE ?_
   refine tr1 rfl (aK (v := .d (.lit (.int .i64 1))) (aA rfl) rfl rfl) ?_
   refine aI ?_
   have h := Option.some.inj h
   subst h
   refine cT (cR (cU (l := [4]) ⟨rfl, trivial⟩)) ?_
   exact cB ⟨rfl, _, .one _, rfl, rfl⟩

theorem yF (kr : Nat) : ∀ (s_0 : eN) (s_0_seen : List (aS × Int)) (x_1 : aS) {r : (List bM) × Bool × (List (aS × Int))} {s_0_seen_r : Nat} {s_0_seen_bs : List Nat} {s_0_seen_ck : Nat} (_h : dJ kr s_0 s_0_seen x_1 = some r), fI Try.prog 110 [.cp [.sl 1 (s_0.Program.Days.map bH), .lit (.int .i64 s_0.Program.Rest), .sl 6 (s_0.Program.Jobs.map aT), .lit (.int .i64 s_0.days), eF 3 aR s_0.old, .lit (.map (some s_0_seen_r))], .agg (bG x_1)] [.map s_0_seen_r (s_0_seen.map fun p : aS × Int => ((fun a : aS => Value.agg ((bG a).map bW).toArray) p.1, (fun v : Int => AV.d (.lit (.int .i64 v))) p.2)) s_0_seen_bs s_0_seen_ck] (fun r' o' => ∃ (bs0 : List Nat) (ck0 : Nat), r' = .tup [.d (.sl 3 (r.1.map aR)), .d (.lit (.bool r.2.1))] ∧ o' = [.map s_0_seen_r (r.2.2.map fun p : aS × Int => ((fun a : aS => Value.agg ((bG a).map bW).toArray) p.1, (fun v : Int => AV.d (.lit (.int .i64 v))) p.2)) bs0 ck0]) := by
  induction kr with
  | zero => intros; rename_i h; cases h
  | succ kr ih =>
    intro s_0 s_0_seen x_1 r s_0_seen_r s_0_seen_bs s_0_seen_ck h
    simp only [dJ] at h
    refine aIa Try.func110 rfl (rs := [.tmp 4, .tmp 5]) Try.results110 Try.ntmps110 (Nat.le_of_ble_eq_true rfl) ?_
    refine aH ?_
    refine aE ?_
    refine cI rfl (eU (v := .agg (bG x_1)) (aA rfl) rfl rfl rfl) ?_
    rintro _ ⟨b1, rfl⟩
    refine tr1 rfl (kT 3 (aA rfl)) ?_
    refine tr1 rfl (aK (v := .d (.lit (.bool false))) (aA rfl) rfl rfl) ?_
    refine aI ?_
    refine aLs (by repeat (first | exact aNp | apply aMt | apply aLe)) ?_
    refine aH ?_
    refine aH ?_
    obtain ⟨u2, h3, h⟩ := bind_some h
    refine eS mix 10 [0, 3] [(21, .d (.lit (.int .i64 x_1.done))), (29, .d (.lit (.int .i64 ((w64 ((w64 (1 * 2 ^ (min (s_0.Program.Jobs.length : Int).toNat 64))) - 1))))))] ?_ ?_
    ·refine ⟨[(20, 0, .bp b1 0 10), (21, 1, .d (.lit (.int .i64 x_1.done))), (22, 2, .cp [.sl 1 (s_0.Program.Days.map bH), .lit (.int .i64 s_0.Program.Rest), .sl 6 (s_0.Program.Jobs.map aT), .lit (.int .i64 s_0.days), eF 3 aR s_0.old, .lit (.map (some s_0_seen_r))]), (23, 3, .cp [.sl 1 (s_0.Program.Days.map bH), .lit (.int .i64 s_0.Program.Rest), .sl 6 (s_0.Program.Jobs.map aT), .lit (.int .i64 s_0.days), eF 3 aR s_0.old, .lit (.map (some s_0_seen_r))]), (24, 4, .cp [.sl 1 (s_0.Program.Days.map bH), .lit (.int .i64 s_0.Program.Rest), .sl 6 (s_0.Program.Jobs.map aT)]), (25, 5, .cp [.sl 6 (s_0.Program.Jobs.map aT)]), (26, 6, .d (.sl 6 (s_0.Program.Jobs.map aT))), (27, 7, .d (.lit (.int .i64 ((s_0.Program.Jobs.length : Int))))), (28, 8, .d (.lit (.int .i64 ((w64 (1 * 2 ^ (min (s_0.Program.Jobs.length : Int).toNat 64))))))), (29, 9, .d (.lit (.int .i64 ((w64 ((w64 (1 * 2 ^ (min (s_0.Program.Jobs.length : Int).toNat 64))) - 1))))))], ?_, ?_⟩
     · exact ⟨by kernel_rfl, by kernel_rfl, by kernel_rfl, by kernel_rfl, by kernel_rfl, [([], []), ([0], []), ([], []), ([2], []), ([3], []), ([4], []), ([5], []), ([6], []), ([7], []), ([8], [])], by kernel_rfl, ⟨fun S hS => aB rfl (aL rfl (aN (aA rfl) (aC hS rfl) vA)),
      fun S hS => aB rfl (aL rfl (aQ (aA rfl) (aC hS rfl) (i := 1) rfl rfl bL)),
      fun S hS => aB rfl (aL rfl (aD (v := .cp [.sl 1 (s_0.Program.Days.map bH), .lit (.int .i64 s_0.Program.Rest), .sl 6 (s_0.Program.Jobs.map aT), .lit (.int .i64 s_0.days), eF 3 aR s_0.old, .lit (.map (some s_0_seen_r))]) (aA rfl) (aC hS rfl) rfl)),
      fun S hS => aB rfl (aL rfl (fD (aA rfl) (aC hS rfl))),
      fun S hS => aB rfl (aL rfl (cC (aA rfl) (aC hS rfl) oP (es := [.sl 1 (s_0.Program.Days.map bH), .lit (.int .i64 s_0.Program.Rest), .sl 6 (s_0.Program.Jobs.map aT)]) rfl)),
      fun S hS => aB rfl (aL rfl (cC (aA rfl) (aC hS rfl) gB (es := [.sl 6 (s_0.Program.Jobs.map aT)]) rfl)),
      fun S hS => aB rfl (aL rfl (cJ (aA rfl) (aC hS rfl) jH)),
      fun S hS => aB rfl (aL rfl (dC (aA rfl) (aC hS rfl) eE.of)),
      fun S hS => aB rfl (aL rfl (aEw (aA rfl) rfl (aC hS rfl) (vC h3))),
      fun S hS => aB rfl (aL rfl (cG (aA rfl) (aC hS rfl) rfl rfl)), trivial⟩⟩
     · exact dB (aZ rfl (aZ rfl (bC ⟨rfl, rfl, trivial⟩)))
    ·refine tr1 rfl (bP (aA rfl) rfl rfl rfl) ?_
     refine aI ?_
     refine cK rfl (fun c4 => ?_) (fun c4 => ?_)
     ·have h := bB c4 h
      refine aH ?_
      refine aE ?_
      refine tr1 rfl (kT 3 (aA rfl)) ?_
      refine tr1 rfl (aK (v := .d (.lit (.bool true))) (aA rfl) rfl rfl) ?_
      refine aI ?_
      have h := Option.some.inj h
      subst h
      refine cT (bI [0] rfl rfl (bC (l := [4, 5]) ⟨rfl, rfl, trivial⟩)) ?_
      exact cB ⟨rfl, _, .two _ _, _, _, rfl, rfl⟩
     ·have h := bD c4 h
      refine cF ?_
      refine aH ?_
      refine aH ?_
      refine gI mix 9 [0, 3] (fun X5 => [(34, .d (.lit (.map (some s_0_seen_r)))), (37, .d (.lit (.int .i64 ((w64 ((cZ x_1 0 s_0_seen) + 1)))))), (39, .d (.lit (.int .i64 (lJ x_1 s_0_seen s_0_seen_bs s_0_seen_ck))))]) (fun X5 => [.map s_0_seen_r ((lI x_1 0 s_0_seen).map fun p : aS × Int => ((fun a : aS => Value.agg ((bG a).map bW).toArray) p.1, (fun v : Int => AV.d (.lit (.int .i64 v))) p.2)) (mbs x_1 s_0_seen s_0_seen_bs s_0_seen_ck) (mck x_1 s_0_seen s_0_seen_ck), .box b1 0 (bG x_1)]) ?_ ?_
      ·refine ⟨0, fun X5 => [(31, 0, .cp [.sl 1 (s_0.Program.Days.map bH), .lit (.int .i64 s_0.Program.Rest), .sl 6 (s_0.Program.Jobs.map aT), .lit (.int .i64 s_0.days), eF 3 aR s_0.old, .lit (.map (some s_0_seen_r))]), (32, 1, .cp [.sl 1 (s_0.Program.Days.map bH), .lit (.int .i64 s_0.Program.Rest), .sl 6 (s_0.Program.Jobs.map aT), .lit (.int .i64 s_0.days), eF 3 aR s_0.old, .lit (.map (some s_0_seen_r))]), (33, 2, .cp [.lit (.map (some s_0_seen_r))]), (34, 3, .d (.lit (.map (some s_0_seen_r)))), (35, 4, .agg (bG x_1)), (36, 5, .d (.lit (.int .i64 ((cZ x_1 0 s_0_seen))))), (37, 6, .d (.lit (.int .i64 ((w64 ((cZ x_1 0 s_0_seen) + 1)))))), (38, 7, .tup [.d (.lit (.int .i64 ((cZ x_1 0 s_0_seen)))), .d (.lit (.int .i64 (lJ x_1 s_0_seen s_0_seen_bs s_0_seen_ck)))]), (39, 8, .d (.lit (.int .i64 (lJ x_1 s_0_seen s_0_seen_bs s_0_seen_ck))))], fun X5 => [([(7, .map s_0_seen_r ((lI x_1 0 s_0_seen).map fun p : aS × Int => ((fun a : aS => Value.agg ((bG a).map bW).toArray) p.1, (fun v : Int => AV.d (.lit (.int .i64 v))) p.2)) (mbs x_1 s_0_seen s_0_seen_bs s_0_seen_ck) (mck x_1 s_0_seen s_0_seen_ck))], .map s_0_seen_r (s_0_seen.map fun p : aS × Int => ((fun a : aS => Value.agg ((bG a).map bW).toArray) p.1, (fun v : Int => AV.d (.lit (.int .i64 v))) p.2)) s_0_seen_bs s_0_seen_ck), ([], .box b1 0 (bG x_1))], ?_, ?_⟩
       · exact ⟨by kernel_rfl, by kernel_rfl, by kernel_rfl, fun _ => by kernel_rfl, fun _ => by kernel_rfl, fun _ => by kernel_rfl, fun _ => rfl, [([], [7]), ([0], [7]), ([1], [7]), ([2], [7]), ([], [7]), ([3, 4], []), ([5], []), ([3, 4], []), ([7], [])], by kernel_rfl, ⟨fun X5 S hw hi hS => bE (X := X5) rfl (hw X5) rfl (aL rfl (aD (v := .cp [.sl 1 (s_0.Program.Days.map bH), .lit (.int .i64 s_0.Program.Rest), .sl 6 (s_0.Program.Jobs.map aT), .lit (.int .i64 s_0.days), eF 3 aR s_0.old, .lit (.map (some s_0_seen_r))]) (aA rfl) (aC hS rfl) rfl)),
      fun X5 S hw hi hS => bE (X := X5) rfl (hw X5) rfl (aL rfl (fD (aA rfl) (aC hS rfl))),
      fun X5 S hw hi hS => bE (X := X5) rfl (hw X5) rfl (aL rfl (cC (aA rfl) (aC hS rfl) aEe (es := [.lit (.map (some s_0_seen_r))]) rfl)),
      fun X5 S hw hi hS => bE (X := X5) rfl (hw X5) rfl (aL rfl (cJ (aA rfl) (aC hS rfl) aHl)),
      fun X5 S hw hi hS => bE (X := X5) rfl (hw X5) rfl (aL rfl (bO (aA rfl) (aC hS rfl) (i := 1) (og hS rfl rfl) tN (es := (bG x_1)) rfl rfl)),
      fun X5 S hw hi hS => bE (X := X5) rfl (hw X5) rfl (aL rfl (aEn (av := (fun v : Int => AV.d (.lit (.int .i64 v)))) (l := s_0_seen) (z := 0) (a := x_1) (m := 0) (aA rfl) aDn Try.underlying156 Try.zeroValue3 (fun _ _ => .d (.lit _ rfl)) (aC hS rfl) (og2 rfl) rfl (aC hS rfl) (jN (enc := bG) x_1 rfl))),
      fun X5 S hw hi hS => bE (X := X5) rfl (hw X5) rfl (aL rfl (cG (aA rfl) (aC hS rfl) rfl rfl)),
      fun X5 S hw hi hS => wQ (X := X5) (p := 0) hS rfl rfl rfl (hw X5) rfl rfl rfl (gW (aDa (av := (fun v : Int => AV.d (.lit (.int .i64 v)))) (l := s_0_seen) (z := 0) (a := x_1) (m := 0) (aA rfl) aDn Try.underlying156 Try.zeroValue3 (fun _ _ => .d (.lit _ rfl)) (aC hS rfl) (og hS rfl rfl) rfl (aC hS rfl) (jN (enc := bG) x_1 rfl)) (by rintro _ rfl; exact Ent.refl _)),
      fun X5 S hw hi hS => bE (X := X5) rfl (hw X5) rfl (aL rfl (bZ (aA rfl) (aC hS rfl) rfl)), trivial⟩⟩
       · exact fun X5 => dB (aZ rfl (aZ rfl (aZ rfl (bC ⟨rfl, rfl, trivial⟩))))
      ·intro X5
       refine tr1 rfl (yD (kv := (fun a : aS => Value.agg ((bG a).map bW).toArray)) (av := (fun v : Int => AV.d (.lit (.int .i64 v)))) (l := s_0_seen) (z := 0) (v := w64 ((cZ x_1 0 s_0_seen) + 1)) (a := x_1) (m := 0) rfl rfl rfl rfl rfl) ?_
       refine aI ?_
       refine aH ?_
       refine eS mix 5 [0, 3] [(43, .d (.lit (.map (some s_0_seen_r)))), (44, .agg (bG x_1))] ?_ ?_
       ·refine ⟨[(40, 0, .cp [.sl 1 (s_0.Program.Days.map bH), .lit (.int .i64 s_0.Program.Rest), .sl 6 (s_0.Program.Jobs.map aT), .lit (.int .i64 s_0.days), eF 3 aR s_0.old, .lit (.map (some s_0_seen_r))]), (41, 1, .cp [.sl 1 (s_0.Program.Days.map bH), .lit (.int .i64 s_0.Program.Rest), .sl 6 (s_0.Program.Jobs.map aT), .lit (.int .i64 s_0.days), eF 3 aR s_0.old, .lit (.map (some s_0_seen_r))]), (42, 2, .cp [.lit (.map (some s_0_seen_r))]), (43, 3, .d (.lit (.map (some s_0_seen_r)))), (44, 4, .agg (bG x_1))], ?_, ?_⟩
        · exact ⟨by kernel_rfl, by kernel_rfl, by kernel_rfl, by kernel_rfl, by kernel_rfl, [([], []), ([0], []), ([1], []), ([2], []), ([], [])], by kernel_rfl, ⟨fun S hS => aB rfl (aL rfl (aD (v := .cp [.sl 1 (s_0.Program.Days.map bH), .lit (.int .i64 s_0.Program.Rest), .sl 6 (s_0.Program.Jobs.map aT), .lit (.int .i64 s_0.days), eF 3 aR s_0.old, .lit (.map (some s_0_seen_r))]) (aA rfl) (aC hS rfl) rfl)),
      fun S hS => aB rfl (aL rfl (fD (aA rfl) (aC hS rfl))),
      fun S hS => aB rfl (aL rfl (cC (aA rfl) (aC hS rfl) aEe (es := [.lit (.map (some s_0_seen_r))]) rfl)),
      fun S hS => aB rfl (aL rfl (cJ (aA rfl) (aC hS rfl) aHl)),
      fun S hS => aB rfl (aL rfl (bO (aA rfl) (aC hS rfl) (i := 1) rfl tN (es := (bG x_1)) rfl rfl)), trivial⟩⟩
        · exact dB (aZ rfl (aZ rfl (bC ⟨rfl, rfl, trivial⟩)))
       ·refine tr1 rfl (uT (av := (fun v : Int => AV.d (.lit (.int .i64 v)))) (l := (eP x_1 (w64 ((cZ x_1 0 s_0_seen) + 1)) s_0_seen)) (z := 0) (a := x_1) (m := 0) (aA rfl) aDn Try.underlying156 Try.zeroValue3 (fun _ _ => .d (.lit _ rfl)) rfl rfl rfl rfl (jN (enc := bG) x_1 rfl)) ?_
        refine tr1 rfl (bP (aA rfl) rfl rfl rfl) ?_
        refine aI ?_
        refine cK rfl (fun c6 => ?_) (fun c6 => ?_)
        ·have h := bB c6 h
         refine aH ?_
         refine aE ?_
         refine tr1 rfl (kT 3 (aA rfl)) ?_
         refine tr1 rfl (aK (v := .d (.lit (.bool false))) (aA rfl) rfl rfl) ?_
         refine aI ?_
         have h := Option.some.inj h
         subst h
         refine cT (bI [0] rfl rfl (bC (l := [4, 5]) ⟨rfl, rfl, trivial⟩)) ?_
         exact cB ⟨rfl, _, .two _ _, _, _, rfl, rfl⟩
        ·have h := bD c6 h
         refine cF ?_
         refine aH ?_
         refine aKk ?_
         refine aH ?_
         refine aH ?_
         refine aE ?_
         refine tr1 rfl (aD (v := .cp [.sl 1 (s_0.Program.Days.map bH), .lit (.int .i64 s_0.Program.Rest), .sl 6 (s_0.Program.Jobs.map aT), .lit (.int .i64 s_0.days), eF 3 aR s_0.old, .lit (.map (some s_0_seen_r))]) (aA rfl) rfl rfl) ?_
         refine tr1 rfl (fD (aA rfl) rfl) ?_
         refine tr1 rfl (cC (aA rfl) rfl oP (es := [.sl 1 (s_0.Program.Days.map bH), .lit (.int .i64 s_0.Program.Rest), .sl 6 (s_0.Program.Jobs.map aT)]) rfl) ?_
         refine tr1 rfl (cC (aA rfl) rfl gB (es := [.sl 6 (s_0.Program.Jobs.map aT)]) rfl) ?_
         refine tr1 rfl (cJ (aA rfl) rfl jH) ?_
         refine tr1 rfl (dC (aA rfl) rfl eE.of) ?_
         refine tr1 rfl (aD (v := .d (.lit (.int .i64 0))) (aA rfl) rfl rfl) ?_
         refine aI ?_
         refine cW ?_
         refine dY [0, 3, 51, 52] (fun (s7 : Int × (List (aS × Int)) × (List Nat) × Nat) => [(53, .d (.lit (.int .i64 s7.1)))]) (fun (s7 : Int × (List (aS × Int)) × (List Nat) × Nat) => [.map s_0_seen_r (s7.2.1.map fun p : aS × Int => ((fun a : aS => Value.agg ((bG a).map bW).toArray) p.1, (fun v : Int => AV.d (.lit (.int .i64 v))) p.2)) s7.2.2.1 s7.2.2.2, .box b1 0 (bG x_1)]) (fun (k : Nat) (s7 : Int × (List (aS × Int)) × (List Nat) × Nat) => eJ (dJ kr) s_0.Program s_0.days s_0.old s_0.Program.Jobs (s_0.Program.Jobs.length : Int) x_1 k s7.1 s7.2.1) (fun _ => rfl) (0, (eP x_1 (w64 ((cZ x_1 0 s_0_seen) + 1)) s_0_seen), (mbs x_1 s_0_seen s_0_seen_bs s_0_seen_ck), (mck x_1 s_0_seen s_0_seen_ck)) h (bI [0, 1] rfl rfl (aZ rfl (bC ⟨rfl, rfl, rfl, rfl, trivial⟩))) ?_
         rintro k10 ⟨t53_0_7, s_0_7_4, bs8, ck9⟩ h
         simp only [eJ] at h
         refine aH ?_
         refine aE ?_
         refine tr1 rfl (bP (aA rfl) rfl rfl rfl) ?_
         refine aI ?_
         refine aH ?_
         refine cK rfl (fun c11 => ?_) (fun c11 => ?_)
         ·have h := bB c11 h
          refine cF ?_
          refine aH ?_
          refine cW ?_
          refine aH ?_
          refine aE ?_
          refine tr1 rfl (aD (v := .d (.lit (.int .i64 t53_0_7))) (aA rfl) rfl rfl) ?_
          obtain ⟨x12, h13, h⟩ := bind_some h
          refine tr1 rfl (bU (aA rfl) rfl rfl eE.of (cE aT h13)) ?_
          refine tr1 rfl (dE (aA rfl) rfl yM (es := (aT x12)) rfl rfl) ?_
          refine cI rfl (dM (zs := [.lit (.int .i64 0), .lit (.int .i64 0), .sl 1 ((([] : List Int)).map aW), .sl 1 ((([] : List Int)).map aW), .lit (.int .i64 0), .lit (.int .i64 0)]) (aA rfl) Try.zeroValue36 rfl rfl) ?_
          rintro _ ⟨b14, rfl⟩
          refine tr1 rfl (aK (v := .d (.lit (.int .i64 t53_0_7))) (aA rfl) rfl rfl) ?_
          refine tr1 rfl (cL (i := 2) rfl rfl rfl rfl rfl Try.sizeOf36 rfl (aA rfl) (Nat.le_of_ble_eq_true rfl) (ds' := (aT x12)) rfl) ?_
          refine aI ?_
          refine aH ?_
          refine aH ?_
          refine aE ?_
          refine tr1 rfl (bO (aA rfl) rfl (i := 1) rfl tN (es := (bG x_1)) rfl rfl) ?_
          refine tr1 rfl (aD (v := .d (.lit (.int .i64 t53_0_7))) (aA rfl) rfl rfl) ?_
          obtain ⟨r15, h16, h⟩ := bind_some h
          refine tr1 rfl (cQ (aA rfl) (.func _ _ Try.call127) rfl rfl (BVs.refl _ _) (uO _ _ h16) rfl) ?_
          refine aI ?_
          refine cK rfl (fun c17 => ?_) (fun c17 => ?_)
          ·have h := bB c17 h
           refine dO ?_
           refine .inl ⟨rfl, ?_⟩
           simp only [iL] at h
           refine aE ?_
           refine tr1 rfl (cG (aA rfl) rfl rfl rfl) ?_
           refine tr1 rfl (aD (v := .d (.lit (.int .i64 ((w64 (t53_0_7 + 1)))))) (aA rfl) rfl rfl) ?_
           refine aI ?_
           exact ⟨(w64 (t53_0_7 + 1), s_0_7_4, bs8, ck9), h, bI [0, 1] rfl rfl (aZ rfl (bC ⟨rfl, rfl, rfl, rfl, trivial⟩))⟩
          ·have h := bD c17 h
           refine cF ?_
           refine aH ?_
           refine aH ?_
           refine aE ?_
           refine tr1 rfl (aN (aA rfl) rfl nN) ?_
           refine tr1 rfl (aQ (aA rfl) rfl (i := 2) rfl rfl eI) ?_
           refine tr1 rfl (dC (aA rfl) rfl dV.of) ?_
           refine tr1 rfl (aD (v := .d (.lit (.int .i64 0))) (aA rfl) rfl rfl) ?_
           refine aI ?_
           refine cW ?_
           refine dY [0, 3, 6, 7, 51, 52, 53, 62, 63] (fun (s18 : Int) => [(64, .d (.lit (.int .i64 s18)))]) (fun (s18 : Int) => [.map s_0_seen_r (s_0_7_4.map fun p : aS × Int => ((fun a : aS => Value.agg ((bG a).map bW).toArray) p.1, (fun v : Int => AV.d (.lit (.int .i64 v))) p.2)) bs8 ck9, .box b1 0 (bG x_1), .box b14 0 (aT x12)]) (fun (k : Nat) (s18 : Int) => lT (dJ kr) (eJ (dJ kr) s_0.Program s_0.days s_0.old s_0.Program.Jobs (s_0.Program.Jobs.length : Int) x_1 k10) s_0.Program s_0.days s_0.old t53_0_7 s_0.Program.Jobs (s_0.Program.Jobs.length : Int) t53_0_7 x12.After (x12.After.length : Int) s_0_7_4 x_1 x12 k s18) (fun _ => rfl) (0) h (bI [0, 1, 2] rfl rfl (aZ rfl (bC ⟨rfl, rfl, rfl, rfl, rfl, rfl, rfl, rfl, rfl, trivial⟩))) ?_
           rintro k19 t64_2_18 h
           simp only [lT] at h
           refine aH ?_
           refine aE ?_
           refine tr1 rfl (bP (aA rfl) rfl rfl rfl) ?_
           refine aI ?_
           refine aH ?_
           refine cK rfl (fun c20 => ?_) (fun c20 => ?_)
           ·have h := bB c20 h
            refine cF ?_
            refine aH ?_
            refine cW ?_
            refine aH ?_
            refine aE ?_
            obtain ⟨x21, h22, h⟩ := bind_some h
            refine tr1 rfl (bU (aA rfl) rfl rfl dV.of (cE aW h22)) ?_
            refine tr1 rfl (cJ (aA rfl) rfl bL) ?_
            refine tr1 rfl (aK (v := .d (.lit (.int .i64 x21))) (aA rfl) rfl rfl) ?_
            refine aI ?_
            refine aH ?_
            refine aE ?_
            refine tr1 rfl (bO (aA rfl) rfl (i := 1) rfl tN (es := (bG x_1)) rfl rfl) ?_
            refine tr1 rfl (aD (v := .d (.lit (.int .i64 x21))) (aA rfl) rfl rfl) ?_
            obtain ⟨r23, h24, h⟩ := bind_some h
            refine tr1 rfl (cQ (aA rfl) (.func _ _ Try.call127) rfl rfl (BVs.refl _ _) (uO _ _ h24) rfl) ?_
            refine tr1 rfl (fE (aA rfl) rfl) ?_
            refine aI ?_
            refine cK rfl (fun c25 => ?_) (fun c25 => ?_)
            ·have h := bB c25 h
             refine dO ?_
             refine .inr ⟨by decide, ?_⟩
             refine .inr ⟨by decide, ?_⟩
             refine .inl ⟨rfl, ?_⟩
             simp only [iL] at h
             refine aE ?_
             refine tr1 rfl (cG (aA rfl) rfl rfl rfl) ?_
             refine tr1 rfl (aD (v := .d (.lit (.int .i64 ((w64 (t53_0_7 + 1)))))) (aA rfl) rfl rfl) ?_
             refine aI ?_
             exact ⟨(w64 (t53_0_7 + 1), s_0_7_4, bs8, ck9), h, bI [0, 1] rfl rfl (aZ rfl (bC ⟨rfl, rfl, rfl, rfl, trivial⟩))⟩
            ·have h := bD c25 h
             refine fB ?_
             refine aE ?_
             refine tr1 rfl (cG (aA rfl) rfl rfl rfl) ?_
             refine tr1 rfl (aD (v := .d (.lit (.int .i64 ((w64 (t64_2_18 + 1)))))) (aA rfl) rfl rfl) ?_
             refine aI ?_
             exact ⟨(w64 (t64_2_18 + 1)), h, bI [0, 1, 2] rfl rfl (aZ rfl (bC ⟨rfl, rfl, rfl, rfl, rfl, rfl, rfl, rfl, rfl, trivial⟩))⟩
           ·have h := bD c20 h
            refine dO ?_
            refine .inl ⟨rfl, ?_⟩
            simp only [rK] at h
            refine aH ?_
            refine aE ?_
            refine tr1 rfl (aN (aA rfl) rfl sM) ?_
            refine tr1 rfl (aN (aA rfl) rfl yU) ?_
            refine tr1 rfl (aQ (aA rfl) rfl (i := 1) rfl rfl bL) ?_
            refine tr1 rfl (aK (v := .d (.lit (.int .i64 x_1.day.number))) (aA rfl) rfl rfl) ?_
            refine aI ?_
            refine tQ ?_
            refine dY [0, 3, 6, 7, 51, 52, 53] (fun (s26 : Int × (List (aS × Int)) × (List Nat) × Nat) => [(10, .d (.lit (.int .i64 s26.1)))]) (fun (s26 : Int × (List (aS × Int)) × (List Nat) × Nat) => [.map s_0_seen_r (s26.2.1.map fun p : aS × Int => ((fun a : aS => Value.agg ((bG a).map bW).toArray) p.1, (fun v : Int => AV.d (.lit (.int .i64 v))) p.2)) s26.2.2.1 s26.2.2.2, .box b1 0 (bG x_1), .box b14 0 (aT x12)]) (fun (k : Nat) (s26 : Int × (List (aS × Int)) × (List Nat) × Nat) => gJ (dJ kr) (eJ (dJ kr) s_0.Program s_0.days s_0.old s_0.Program.Jobs (s_0.Program.Jobs.length : Int) x_1 k10) s_0.Program s_0.days s_0.old t53_0_7 s_0.Program.Jobs (s_0.Program.Jobs.length : Int) t53_0_7 x_1 x12 k s26.1 s26.2.1) (fun _ => rfl) (x_1.day.number, s_0_7_4, bs8, ck9) h (bI [0, 1, 2] rfl rfl (aZ rfl (bC ⟨rfl, rfl, rfl, rfl, rfl, rfl, rfl, trivial⟩))) ?_
            rintro k29 ⟨n_4_26, s_4_26_4, bs27, ck28⟩ h
            simp only [gJ] at h
            refine aH ?_
            refine aH ?_
            refine aE ?_
            refine tr1 rfl (aD (v := .d (.lit (.int .i64 n_4_26))) (aA rfl) rfl rfl) ?_
            refine tr1 rfl (aD (v := .cp [.sl 1 (s_0.Program.Days.map bH), .lit (.int .i64 s_0.Program.Rest), .sl 6 (s_0.Program.Jobs.map aT), .lit (.int .i64 s_0.days), eF 3 aR s_0.old, .lit (.map (some s_0_seen_r))]) (aA rfl) rfl rfl) ?_
            refine tr1 rfl (fD (aA rfl) rfl) ?_
            refine tr1 rfl (cC (aA rfl) rfl aJm (es := [.lit (.int .i64 s_0.days)]) rfl) ?_
            refine tr1 rfl (cJ (aA rfl) rfl bL) ?_
            refine tr1 rfl (bP (aA rfl) rfl rfl rfl) ?_
            refine tr1 rfl (aD (v := .d (.lit (.bool ((decide (n_4_26 < s_0.days)))))) (aA rfl) rfl rfl) ?_
            obtain ⟨b30, h31, h⟩ := bind_some h
            refine dD 5 [0, 3, 6, 7, 10, 51, 52, 53] 87 b30 ?_ ?_
            ·refine cA (decide (n_4_26 < s_0.days)) (fun c97 => ?_) (fun c97 => ?_)
             ·have h31 := bB c97 h31
              refine aU rfl rfl (aA rfl) rfl c97 (aD (v := .d (.lit (.int .i64 n_4_26))) (aA rfl) rfl rfl) ?_
              refine aU rfl rfl (aA rfl) rfl c97 (aN (aA rfl) rfl mP) ?_
              refine aU rfl rfl (aA rfl) rfl c97 (aQ (aA rfl) rfl (i := 2) rfl rfl bL) ?_
              refine aU rfl rfl (aA rfl) rfl c97 (bP (aA rfl) rfl rfl rfl) ?_
              refine tr1 rfl (bR (v := .d (.lit (.bool ((decide (n_4_26 ≤ x12.Due)))))) (aA rfl) rfl c97 rfl rfl) ?_
              have h31 := Option.some.inj h31
              subst h31
              refine aI (bT rfl ⟨rfl, rfl, rfl, rfl, rfl, rfl, rfl, rfl, trivial⟩ rfl)
             ·have h31 := bD c97 h31
              refine aX rfl rfl (aA rfl) rfl (aA rfl) rfl c97 ?_
              refine aX rfl rfl (aA rfl) rfl (aA rfl) rfl c97 ?_
              refine aX rfl rfl (aA rfl) rfl (aA rfl) rfl c97 ?_
              refine aX rfl rfl (aA rfl) rfl (aA rfl) rfl c97 ?_
              refine tr1 rfl (bQ (v := .d (.lit (.bool false))) (aA rfl) rfl c97 rfl rfl) ?_
              have h31 := Option.some.inj h31
              subst h31
              refine aI (bT rfl ⟨rfl, rfl, rfl, rfl, rfl, rfl, rfl, rfl, trivial⟩ rfl)
            ·refine aI ?_
             refine cK rfl (fun c32 => ?_) (fun c32 => ?_)
             ·have h := bB c32 h
              refine cF ?_
              refine aH ?_
              refine cW ?_
              refine aH ?_
              refine aE ?_
              refine tr1 rfl (aN (aA rfl) rfl sM) ?_
              refine tr1 rfl (bO (aA rfl) rfl (i := 1) rfl vZ (es := (cH x_1.day)) rfl rfl) ?_
              refine cI rfl (dM (zs := [.lit (.int .i64 0), .lit (.int .i64 0), .lit (.int .i64 0), .lit (.int .i64 0), .lit (.int .i64 0), .lit (.int .i64 0), .lit (.int .i64 0), .lit (.int .i64 0), .lit (.int .i64 0), .lit (.int .i64 0)]) (aA rfl) Try.zeroValue124 rfl rfl) ?_
              rintro _ ⟨b33, rfl⟩
              refine tr1 rfl (cL (i := 3) rfl rfl rfl rfl rfl Try.sizeOf124 rfl (aA rfl) (Nat.le_of_ble_eq_true rfl) (ds' := (cH x_1.day)) rfl) ?_
              refine aI ?_
              refine aH ?_
              refine aH ?_
              refine aE ?_
              refine tr1 rfl (aD (v := .d (.lit (.int .i64 n_4_26))) (aA rfl) rfl rfl) ?_
              refine tr1 rfl (aN (aA rfl) rfl sM) ?_
              refine tr1 rfl (aN (aA rfl) rfl yU) ?_
              refine tr1 rfl (aQ (aA rfl) rfl (i := 1) rfl rfl bL) ?_
              refine tr1 rfl (bP (aA rfl) rfl rfl rfl) ?_
              refine aI ?_
              refine cK rfl (fun c34 => ?_) (fun c34 => ?_)
              ·have h := bB c34 h
               refine aE ?_
               refine tr1 rfl (aD (v := .cp [.sl 1 (s_0.Program.Days.map bH), .lit (.int .i64 s_0.Program.Rest), .sl 6 (s_0.Program.Jobs.map aT), .lit (.int .i64 s_0.days), eF 3 aR s_0.old, .lit (.map (some s_0_seen_r))]) (aA rfl) rfl rfl) ?_
               refine tr1 rfl (fD (aA rfl) rfl) ?_
               refine tr1 rfl (cC (aA rfl) rfl oP (es := [.sl 1 (s_0.Program.Days.map bH), .lit (.int .i64 s_0.Program.Rest), .sl 6 (s_0.Program.Jobs.map aT)]) rfl) ?_
               refine tr1 rfl (dE (aA rfl) rfl gL (es := (bK s_0.Program)) rfl rfl) ?_
               refine tr1 rfl (aD (v := .d (.lit (.int .i64 n_4_26))) (aA rfl) rfl rfl) ?_
               obtain ⟨r35, h36, h⟩ := bind_some h
               refine tr1 rfl (iX (aA rfl) (.func _ _ Try.call86) rfl rfl (sB _ _ h36)) ?_
               refine tr1 rfl (cL (i := 3) rfl rfl rfl rfl rfl Try.sizeOf124 rfl (aA rfl) (Nat.le_of_ble_eq_true rfl) (ds' := (cH r35)) rfl) ?_
               refine aI ?_
               refine aH ?_
               refine aE ?_
               refine tr1 rfl (aD (v := .cp [.sl 1 (s_0.Program.Days.map bH), .lit (.int .i64 s_0.Program.Rest), .sl 6 (s_0.Program.Jobs.map aT), .lit (.int .i64 s_0.days), eF 3 aR s_0.old, .lit (.map (some s_0_seen_r))]) (aA rfl) rfl rfl) ?_
               refine tr1 rfl (fD (aA rfl) rfl) ?_
               refine tr1 rfl (cC (aA rfl) rfl oP (es := [.sl 1 (s_0.Program.Days.map bH), .lit (.int .i64 s_0.Program.Rest), .sl 6 (s_0.Program.Jobs.map aT)]) rfl) ?_
               refine tr1 rfl (cC (aA rfl) rfl lF (es := [.sl 1 (s_0.Program.Days.map bH)]) rfl) ?_
               refine tr1 rfl (cJ (aA rfl) rfl oS) ?_
               refine tr1 rfl (aD (v := .d (.lit (.int .i64 n_4_26))) (aA rfl) rfl rfl) ?_
               obtain ⟨x37, h38, h⟩ := bind_some h
               refine tr1 rfl (bU (aA rfl) rfl rfl oX.of (cE bH h38)) ?_
               refine tr1 rfl (cJ (aA rfl) rfl uJ) ?_
               refine tr1 rfl (dC (aA rfl) rfl kC.of) ?_
               refine tr1 rfl (aD (v := .d (.lit (.int .i64 0))) (aA rfl) rfl rfl) ?_
               refine aI ?_
               refine tQ ?_
               refine dY [0, 3, 6, 7, 10, 11, 51, 52, 53, 110, 111] (fun (s39 : Int × (List (aS × Int)) × (List Nat) × Nat) => [(112, .d (.lit (.int .i64 s39.1)))]) (fun (s39 : Int × (List (aS × Int)) × (List Nat) × Nat) => [.map s_0_seen_r (s39.2.1.map fun p : aS × Int => ((fun a : aS => Value.agg ((bG a).map bW).toArray) p.1, (fun v : Int => AV.d (.lit (.int .i64 v))) p.2)) s39.2.2.1 s39.2.2.2, .box b1 0 (bG x_1), .box b14 0 (aT x12), .box b33 0 (cH r35)]) (fun (k : Nat) (s39 : Int × (List (aS × Int)) × (List Nat) × Nat) => fP (dJ kr) (eJ (dJ kr) s_0.Program s_0.days s_0.old s_0.Program.Jobs (s_0.Program.Jobs.length : Int) x_1 k10) (gJ (dJ kr) (eJ (dJ kr) s_0.Program s_0.days s_0.old s_0.Program.Jobs (s_0.Program.Jobs.length : Int) x_1 k10) s_0.Program s_0.days s_0.old t53_0_7 s_0.Program.Jobs (s_0.Program.Jobs.length : Int) t53_0_7 x_1 x12 k29) s_0.Program s_0.days s_0.old t53_0_7 n_4_26 s_0.Program.Jobs (s_0.Program.Jobs.length : Int) t53_0_7 x37 (x37.length : Int) x_1 x12 r35 k s39.1 s39.2.1) (fun _ => rfl) (0, s_4_26_4, bs27, ck28) h (bI [0, 1, 2, 3] rfl rfl (aZ rfl (bC ⟨rfl, rfl, rfl, rfl, rfl, rfl, rfl, rfl, rfl, rfl, rfl, trivial⟩))) ?_
               rintro k42 ⟨t112_6_39, s_6_39_4, bs40, ck41⟩ h
               simp only [fP] at h
               refine aH ?_
               refine aE ?_
               refine tr1 rfl (bP (aA rfl) rfl rfl rfl) ?_
               refine aI ?_
               refine aH ?_
               refine cK rfl (fun c43 => ?_) (fun c43 => ?_)
               ·have h := bB c43 h
                refine cF ?_
                refine aH ?_
                refine cW ?_
                refine aH ?_
                refine aE ?_
                refine tr1 rfl (aD (v := .d (.lit (.int .i64 t112_6_39))) (aA rfl) rfl rfl) ?_
                obtain ⟨x44, h45, h⟩ := bind_some h
                refine tr1 rfl (bU (aA rfl) rfl rfl kC.of (cE bA h45)) ?_
                refine tr1 rfl (dE (aA rfl) rfl gM (es := (bA x44)) rfl rfl) ?_
                refine cI rfl (dM (zs := [.lit (.int .i64 0), .lit (.int .i64 0)]) (aA rfl) Try.zeroValue34 rfl rfl) ?_
                rintro _ ⟨b46, rfl⟩
                refine tr1 rfl (aK (v := .d (.lit (.int .i64 t112_6_39))) (aA rfl) rfl rfl) ?_
                refine tr1 rfl (cL (i := 4) rfl rfl rfl rfl rfl Try.sizeOf34 rfl (aA rfl) (Nat.le_of_ble_eq_true rfl) (ds' := (bA x44)) rfl) ?_
                refine aI ?_
                refine aH ?_
                refine aE ?_
                refine tr1 rfl (aD (v := .d (.lit (.int .i64 t53_0_7))) (aA rfl) rfl rfl) ?_
                refine tr1 rfl (aD (v := .d (.lit (.int .i64 n_4_26))) (aA rfl) rfl rfl) ?_
                refine tr1 rfl (aD (v := .d (.lit (.int .i64 t112_6_39))) (aA rfl) rfl rfl) ?_
                refine tr1 rfl (eD (aA rfl) aAb (zs := [.lit (.int .i64 0), .lit (.int .i64 0), .lit (.int .i64 0)]) rfl rfl rfl rfl (es := [.lit (.int .i64 t53_0_7), .lit (.int .i64 n_4_26), .lit (.int .i64 t112_6_39)]) rfl) ?_
                refine cI rfl (dM (zs := [.lit (.int .i64 0), .lit (.int .i64 0), .lit (.int .i64 0)]) (aA rfl) Try.zeroValue45 rfl rfl) ?_
                rintro _ ⟨b47, rfl⟩
                refine tr1 rfl (cL (i := 5) rfl rfl rfl rfl rfl Try.sizeOf45 rfl (aA rfl) (Nat.le_of_ble_eq_true rfl) (ds' := (aR (bM.mk t53_0_7 n_4_26 t112_6_39))) rfl) ?_
                refine aI ?_
                refine aH ?_
                obtain ⟨u49, h50, h⟩ := bind_some h
                obtain ⟨r51, h52, h⟩ := bind_some h
                refine gI mix 14 [0, 3, 6, 7, 10, 11, 13, 14, 51, 52, 53, 110, 111, 112] (fun X48 => [(15, .bp (X48 13).b 0 0), (133, .agg (bG (aS.mk r35 (bOr x_1.done (w64 (1 * 2 ^ (min t53_0_7.toNat 64)))) (w64 (x_1.moves - r51)))))]) (fun X48 => [.map s_0_seen_r (s_6_39_4.map fun p : aS × Int => ((fun a : aS => Value.agg ((bG a).map bW).toArray) p.1, (fun v : Int => AV.d (.lit (.int .i64 v))) p.2)) bs40 ck41, .box b1 0 (bG x_1), .box b14 0 (aT x12), .box b33 0 (cH r35), .box b46 0 (bA x44), .box b47 0 (aR (bM.mk t53_0_7 n_4_26 t112_6_39)), .box (X48 13).b 0 (bG (aS.mk (dF.mk 0 (A3.mk 0 0 0) (A6.mk 0 0 0 0 0 0)) 0 0))]) ?_ ?_
                ·refine ⟨1, fun X48 => [(121, 0, .agg (cH r35)), (122, 1, .bp b1 0 10), (123, 2, .d (.lit (.int .i64 x_1.done))), (124, 3, .d (.lit (.int .i64 t53_0_7))), (125, 4, .d (.lit (.int .i64 ((w64 (1 * 2 ^ (min t53_0_7.toNat 64))))))), (126, 5, .d (.lit (.int .i64 ((bOr x_1.done (w64 (1 * 2 ^ (min t53_0_7.toNat 64)))))))), (127, 6, .bp b1 0 11), (128, 7, .d (.lit (.int .i64 x_1.moves))), (129, 8, .cp [.sl 1 (s_0.Program.Days.map bH), .lit (.int .i64 s_0.Program.Rest), .sl 6 (s_0.Program.Jobs.map aT), .lit (.int .i64 s_0.days), eF 3 aR s_0.old, .lit (.map (some s_0_seen_r))]), (130, 9, .agg (aR (bM.mk t53_0_7 n_4_26 t112_6_39))), (131, 10, .d (.lit (.int .i64 r51))), (132, 11, .d (.lit (.int .i64 ((w64 (x_1.moves - r51)))))), (133, 12, .agg (bG (aS.mk r35 (bOr x_1.done (w64 (1 * 2 ^ (min t53_0_7.toNat 64)))) (w64 (x_1.moves - r51))))), (15, 13, .bp (X48 13).b 0 0)], fun X48 => [([], .map s_0_seen_r (s_6_39_4.map fun p : aS × Int => ((fun a : aS => Value.agg ((bG a).map bW).toArray) p.1, (fun v : Int => AV.d (.lit (.int .i64 v))) p.2)) bs40 ck41), ([], .box b1 0 (bG x_1)), ([], .box b14 0 (aT x12)), ([], .box b33 0 (cH r35)), ([], .box b46 0 (bA x44)), ([], .box b47 0 (aR (bM.mk t53_0_7 n_4_26 t112_6_39))), ([(13, .box (X48 13).b 0 (bG (aS.mk (dF.mk 0 (A3.mk 0 0 0) (A6.mk 0 0 0 0 0 0)) 0 0)))], nob)], ?_, ?_⟩
                 · exact ⟨by kernel_rfl, by kernel_rfl, by kernel_rfl, fun _ => by kernel_rfl, fun _ => by kernel_rfl, fun _ => by kernel_rfl, fun _ => rfl, [([], []), ([], []), ([1], []), ([], []), ([3], []), ([2, 4], []), ([], []), ([6], []), ([], []), ([], []), ([8, 9], []), ([7, 10], []), ([0, 5, 11], []), ([], [])], by kernel_rfl, ⟨fun X48 S hw hi hS => bE (X := X48) rfl (hw X48) rfl (aL rfl (bO (aA rfl) (aC hS rfl) (i := 3) (og hS rfl rfl) vZ (es := (cH r35)) rfl rfl)),
      fun X48 S hw hi hS => bE (X := X48) rfl (hw X48) rfl (aL rfl (aN (aA rfl) (aC hS rfl) vA)),
      fun X48 S hw hi hS => bE (X := X48) rfl (hw X48) rfl (aL rfl (aQ (aA rfl) (aC hS rfl) (i := 1) (og hS rfl rfl) rfl bL)),
      fun X48 S hw hi hS => bE (X := X48) rfl (hw X48) rfl (aL rfl (aD (v := .d (.lit (.int .i64 t53_0_7))) (aA rfl) (aC hS rfl) rfl)),
      fun X48 S hw hi hS => bE (X := X48) rfl (hw X48) rfl (aL rfl (aEw (aA rfl) rfl (aC hS rfl) (vC h50))),
      fun X48 S hw hi hS => bE (X := X48) rfl (hw X48) rfl (aL rfl (zY (aA rfl) (aC hS rfl) (aC hS rfl) (.inr (.inl ⟨rfl, rfl⟩)))),
      fun X48 S hw hi hS => bE (X := X48) rfl (hw X48) rfl (aL rfl (aN (aA rfl) (aC hS rfl) vB)),
      fun X48 S hw hi hS => bE (X := X48) rfl (hw X48) rfl (aL rfl (aQ (aA rfl) (aC hS rfl) (i := 1) (og hS rfl rfl) rfl bL)),
      fun X48 S hw hi hS => bE (X := X48) rfl (hw X48) rfl (aL rfl (aD (v := .cp [.sl 1 (s_0.Program.Days.map bH), .lit (.int .i64 s_0.Program.Rest), .sl 6 (s_0.Program.Jobs.map aT), .lit (.int .i64 s_0.days), eF 3 aR s_0.old, .lit (.map (some s_0_seen_r))]) (aA rfl) (aC hS rfl) rfl)),
      fun X48 S hw hi hS => bE (X := X48) rfl (hw X48) rfl (aL rfl (bO (aA rfl) (aC hS rfl) (i := 5) (og hS rfl rfl) lD (es := (aR (bM.mk t53_0_7 n_4_26 t112_6_39))) rfl rfl)),
      fun X48 S hw hi hS => bE (X := X48) rfl (hw X48) rfl (aL rfl (cQ (aA rfl) (.func _ _ Try.call128) (ev2 (aC hS rfl) (ev2 (aC hS rfl) evn)) rfl (BVs.refl _ _) (sP _ _ h52) rfl)),
      fun X48 S hw hi hS => bE (X := X48) rfl (hw X48) rfl (aL rfl (cG (aA rfl) (aC hS rfl) (aC hS rfl) rfl)),
      fun X48 S hw hi hS => bE (X := X48) rfl (hw X48) rfl (aL rfl (eD (aA rfl) aDs (zs := [.lit (.int .i64 0), .lit (.int .i64 0), .lit (.int .i64 0), .lit (.int .i64 0), .lit (.int .i64 0), .lit (.int .i64 0), .lit (.int .i64 0), .lit (.int .i64 0), .lit (.int .i64 0), .lit (.int .i64 0), .lit (.int .i64 0), .lit (.int .i64 0)]) rfl rfl rfl (pa2 (aC hS rfl) (pa2 (aC hS rfl) (pa2 (aC hS rfl) pan))) (es := [.lit (.int .i64 r35.number), .lit (.int .i64 r35.free.x0), .lit (.int .i64 r35.free.x1), .lit (.int .i64 r35.free.x2), .lit (.int .i64 r35.ends.x0), .lit (.int .i64 r35.ends.x1), .lit (.int .i64 r35.ends.x2), .lit (.int .i64 r35.ends.x3), .lit (.int .i64 r35.ends.x4), .lit (.int .i64 r35.ends.x5), .lit (.int .i64 ((bOr x_1.done (w64 (1 * 2 ^ (min t53_0_7.toNat 64)))))), .lit (.int .i64 ((w64 (x_1.moves - r51))))]) rfl)),
      fun X48 S hw hi hS => rC (X := X48) (p := 6) (v := fun x => .bp x.b 0 0) (mo := fun x => .box x.b 0 (bG (aS.mk (dF.mk 0 (A3.mk 0 0 0) (A6.mk 0 0 0 0 0 0)) 0 0))) hS hi rfl rfl (fun _ => rfl) hw (fun _ => rfl) (fun _ => rfl) (fun _ => rfl) (fun _ => ⟨rfl, rfl, .inr rfl, ⟨rfl, rfl, .inr rfl, ⟨rfl, rfl, .inr rfl, ⟨rfl, rfl, .inr rfl, ⟨rfl, rfl, .inr rfl, ⟨rfl, rfl, .inr rfl, ⟨rfl, rfl, .inr rfl, ⟨rfl, rfl, .inr rfl, ⟨rfl, rfl, .inr rfl, ⟨rfl, rfl, .inr rfl, ⟨rfl, rfl, .inr rfl, ⟨rfl, rfl, .inr rfl, ⟨rfl, rfl, .inr rfl, ⟨rfl, rfl, .inl rfl, trivial⟩⟩⟩⟩⟩⟩⟩⟩⟩⟩⟩⟩⟩⟩) (fun _ => ⟨trivial, rfl, ⟨trivial, rfl, ⟨trivial, rfl, ⟨trivial, rfl, ⟨trivial, rfl, ⟨trivial, rfl, ⟨⟨rfl, .inl rfl, trivial⟩, rfl, trivial⟩⟩⟩⟩⟩⟩⟩) (gW (dM (zs := [.lit (.int .i64 0), .lit (.int .i64 0), .lit (.int .i64 0), .lit (.int .i64 0), .lit (.int .i64 0), .lit (.int .i64 0), .lit (.int .i64 0), .lit (.int .i64 0), .lit (.int .i64 0), .lit (.int .i64 0), .lit (.int .i64 0), .lit (.int .i64 0)]) (aA rfl) Try.zeroValue161 rfl rfl) (by rintro _ ⟨w, rfl⟩; exact ⟨⟨w, undef⟩, bI [0, 1, 2, 3, 4, 5, 7] rfl rfl (le_refl _)⟩)), trivial⟩⟩
                 · exact fun X48 => dB (aZ rfl (aZ rfl (bC ⟨rfl, rfl, rfl, rfl, rfl, rfl, rfl, rfl, rfl, rfl, rfl, rfl, rfl, rfl, trivial⟩)))
                ·intro X48
                 refine tr1 rfl (cL (i := 6) rfl rfl rfl rfl rfl Try.sizeOf161 rfl (aA rfl) (Nat.le_of_ble_eq_true rfl) (ds' := (bG (aS.mk r35 (bOr x_1.done (w64 (1 * 2 ^ (min t53_0_7.toNat 64)))) (w64 (x_1.moves - r51))))) rfl) ?_
                 refine aI ?_
                 refine aH ?_
                 refine aH ?_
                 obtain ⟨r54, h55, h⟩ := bind_some h
                 refine gI mix 14 [0, 3, 6, 7, 10, 11, 13, 14, 15, 51, 52, 53, 110, 111, 112] (fun X53 => [(146, .d (.lit (.int .i64 r54.2.1)))]) (fun X53 => [.map s_0_seen_r (s_6_39_4.map fun p : aS × Int => ((fun a : aS => Value.agg ((bG a).map bW).toArray) p.1, (fun v : Int => AV.d (.lit (.int .i64 v))) p.2)) bs40 ck41, .box b1 0 (bG x_1), .box b14 0 (aT x12), .box b33 0 (cH r35), .box b46 0 (bA x44), .box b47 0 (aR (bM.mk t53_0_7 n_4_26 t112_6_39)), .box (X48 13).b 0 (bG (aS.mk r54.2.2 (bOr x_1.done (w64 (1 * 2 ^ (min t53_0_7.toNat 64)))) (w64 (x_1.moves - r51))))]) ?_ ?_
                 ·refine ⟨0, fun X53 => [(135, 0, .bp (X48 13).b 0 0), (136, 1, .cp [.sl 1 (s_0.Program.Days.map bH), .lit (.int .i64 s_0.Program.Rest), .sl 6 (s_0.Program.Jobs.map aT), .lit (.int .i64 s_0.days), eF 3 aR s_0.old, .lit (.map (some s_0_seen_r))]), (137, 2, .cp [.sl 1 (s_0.Program.Days.map bH), .lit (.int .i64 s_0.Program.Rest), .sl 6 (s_0.Program.Jobs.map aT), .lit (.int .i64 s_0.days), eF 3 aR s_0.old, .lit (.map (some s_0_seen_r))]), (138, 3, .cp [.sl 1 (s_0.Program.Days.map bH), .lit (.int .i64 s_0.Program.Rest), .sl 6 (s_0.Program.Jobs.map aT)]), (139, 4, .agg (bK s_0.Program)), (140, 5, .agg (aR (bM.mk t53_0_7 n_4_26 t112_6_39))), (141, 6, .bp b14 0 0), (142, 7, .bp b14 0 1), (143, 8, .d (.lit (.int .i64 x12.Length.High))), (144, 9, .tup [.d (.lit (.int .i64 r54.1)), .d (.lit (.int .i64 r54.2.1))]), (134, 10, .tup [.d (.lit (.int .i64 r54.1)), .d (.lit (.int .i64 r54.2.1))]), (145, 11, .d (.lit (.int .i64 r54.1))), (146, 12, .d (.lit (.int .i64 r54.2.1))), (16, 13, .d (.lit (.int .i64 r54.1)))], fun X53 => [([], .map s_0_seen_r (s_6_39_4.map fun p : aS × Int => ((fun a : aS => Value.agg ((bG a).map bW).toArray) p.1, (fun v : Int => AV.d (.lit (.int .i64 v))) p.2)) bs40 ck41), ([], .box b1 0 (bG x_1)), ([], .box b14 0 (aT x12)), ([], .box b33 0 (cH r35)), ([], .box b46 0 (bA x44)), ([], .box b47 0 (aR (bM.mk t53_0_7 n_4_26 t112_6_39))), ([(9, .box (X48 13).b 0 (bG (aS.mk r54.2.2 (bOr x_1.done (w64 (1 * 2 ^ (min t53_0_7.toNat 64)))) (w64 (x_1.moves - r51)))))], .box (X48 13).b 0 (bG (aS.mk r35 (bOr x_1.done (w64 (1 * 2 ^ (min t53_0_7.toNat 64)))) (w64 (x_1.moves - r51)))))], ?_, ?_⟩
                  · exact ⟨by kernel_rfl, by kernel_rfl, by kernel_rfl, fun _ => by kernel_rfl, fun _ => by kernel_rfl, fun _ => by kernel_rfl, fun _ => rfl, [([], [9]), ([], [9]), ([1], [9]), ([2], [9]), ([3], [9]), ([], [9]), ([], [9]), ([6], [9]), ([7], [9]), ([0, 4, 5, 8], []), ([9], []), ([9, 10], []), ([9, 10], []), ([9, 11], [])], by kernel_rfl, ⟨fun X53 S hw hi hS => bE (X := X53) rfl (hw X53) rfl (aL rfl (aN (aA rfl) (aC hS rfl) sM)),
      fun X53 S hw hi hS => bE (X := X53) rfl (hw X53) rfl (aL rfl (aD (v := .cp [.sl 1 (s_0.Program.Days.map bH), .lit (.int .i64 s_0.Program.Rest), .sl 6 (s_0.Program.Jobs.map aT), .lit (.int .i64 s_0.days), eF 3 aR s_0.old, .lit (.map (some s_0_seen_r))]) (aA rfl) (aC hS rfl) rfl)),
      fun X53 S hw hi hS => bE (X := X53) rfl (hw X53) rfl (aL rfl (fD (aA rfl) (aC hS rfl))),
      fun X53 S hw hi hS => bE (X := X53) rfl (hw X53) rfl (aL rfl (cC (aA rfl) (aC hS rfl) oP (es := [.sl 1 (s_0.Program.Days.map bH), .lit (.int .i64 s_0.Program.Rest), .sl 6 (s_0.Program.Jobs.map aT)]) rfl)),
      fun X53 S hw hi hS => bE (X := X53) rfl (hw X53) rfl (aL rfl (dE (aA rfl) (aC hS rfl) gL (es := (bK s_0.Program)) rfl rfl)),
      fun X53 S hw hi hS => bE (X := X53) rfl (hw X53) rfl (aL rfl (bO (aA rfl) (aC hS rfl) (i := 5) (og hS rfl rfl) lD (es := (aR (bM.mk t53_0_7 n_4_26 t112_6_39))) rfl rfl)),
      fun X53 S hw hi hS => bE (X := X53) rfl (hw X53) rfl (aL rfl (aN (aA rfl) (aC hS rfl) mO)),
      fun X53 S hw hi hS => bE (X := X53) rfl (hw X53) rfl (aL rfl (aN (aA rfl) (aC hS rfl) oQ)),
      fun X53 S hw hi hS => bE (X := X53) rfl (hw X53) rfl (aL rfl (aQ (aA rfl) (aC hS rfl) (i := 2) (og hS rfl rfl) rfl bL)),
      fun X53 S hw hi hS => wQ (X := X53) (p := 6) hS rfl rfl rfl (hw X53) rfl rfl rfl (gW (xR ((aCf 6 (x := .box (X48 13).b 0 (bG (aS.mk r35 (bOr x_1.done (w64 (1 * 2 ^ (min t53_0_7.toNat 64)))) (w64 (x_1.moves - r51))))) (og hS rfl rfl)).trans (bI [6, 0, 1, 2, 3, 4, 5] rfl rfl (le_refl _))) (mA (passed := [.box (X48 13).b 0 ((cH r35) ++ [.lit (.int .i64 ((bOr x_1.done (w64 (1 * 2 ^ (min t53_0_7.toNat 64)))))), .lit (.int .i64 ((w64 (x_1.moves - r51))))])]) (aA rfl) rfl (.func _ _ Try.call87) (ev2 (aC hS rfl) (ev2 (aC hS rfl) (ev2 (aC hS rfl) (ev2 (aC hS rfl) evn)))) rfl (oF r35 s_0.Program (bM.mk t53_0_7 n_4_26 t112_6_39) x12.Length.High (d_0_post := [.lit (.int .i64 ((bOr x_1.done (w64 (1 * 2 ^ (min t53_0_7.toNat 64)))))), .lit (.int .i64 ((w64 (x_1.moves - r51))))]) h55))) (by rintro _ ⟨_, _, ⟨rfl, rfl⟩, rfl⟩; exact bI [1, 2, 3, 4, 5, 6, 0] rfl rfl (le_refl _))),
      fun X53 S hw hi hS => bE (X := X53) rfl (hw X53) rfl (aL rfl (aD (v := .tup [.d (.lit (.int .i64 r54.1)), .d (.lit (.int .i64 r54.2.1))]) (aA rfl) (aC hS rfl) rfl)),
      fun X53 S hw hi hS => bE (X := X53) rfl (hw X53) rfl (aL rfl (bZ (aA rfl) (aC hS rfl) rfl)),
      fun X53 S hw hi hS => bE (X := X53) rfl (hw X53) rfl (aL rfl (bZ (aA rfl) (aC hS rfl) rfl)),
      fun X53 S hw hi hS => bE (X := X53) rfl (hw X53) rfl (aL rfl (aK (v := .d (.lit (.int .i64 r54.1))) (aA rfl) (aC hS rfl) rfl)), trivial⟩⟩
                  · exact fun X53 => dB (aZ rfl (bC ⟨rfl, rfl, rfl, rfl, rfl, rfl, rfl, rfl, rfl, rfl, rfl, rfl, rfl, rfl, rfl, trivial⟩))
                 ·intro X53
                  refine tr1 rfl (aK (v := .d (.lit (.int .i64 r54.2.1))) (aA rfl) rfl rfl) ?_
                  refine aI ?_
                  refine aH ?_
                  refine aE ?_
                  refine tr1 rfl (aD (v := .d (.lit (.int .i64 r54.2.1))) (aA rfl) rfl rfl) ?_
                  refine tr1 rfl (aN (aA rfl) rfl oQ) ?_
                  refine tr1 rfl (aQ (aA rfl) rfl (i := 4) rfl rfl bL) ?_
                  refine tr1 rfl (bP (aA rfl) rfl rfl rfl) ?_
                  refine tr1 rfl (aD (v := .d (.lit (.bool ((decide (x44.High < r54.2.1)))))) (aA rfl) rfl rfl) ?_
                  obtain ⟨b56, h57, h⟩ := bind_some h
                  refine dD 4 [0, 3, 6, 7, 10, 11, 14, 15, 51, 52, 53, 110, 111, 112] 155 b56 ?_ ?_
                  ·refine cA (decide (x44.High < r54.2.1)) (fun c66 => ?_) (fun c66 => ?_)
                   ·have h57 := bB c66 h57
                    refine aX rfl rfl (aA rfl) rfl (aA rfl) rfl c66 ?_
                    refine aX rfl rfl (aA rfl) rfl (aA rfl) rfl c66 ?_
                    refine aX rfl rfl (aA rfl) rfl (aA rfl) rfl c66 ?_
                    refine tr1 rfl (bR (v := .d (.lit (.bool true))) (aA rfl) rfl c66 rfl rfl) ?_
                    have h57 := Option.some.inj h57
                    subst h57
                    refine aI (bT rfl ⟨rfl, rfl, rfl, rfl, rfl, rfl, rfl, rfl, rfl, rfl, rfl, rfl, rfl, rfl, trivial⟩ rfl)
                   ·have h57 := bD c66 h57
                    refine aU rfl rfl (aA rfl) rfl c66 (aN (aA rfl) rfl vB) ?_
                    refine aU rfl rfl (aA rfl) rfl c66 (aQ (aA rfl) rfl (i := 6) rfl rfl bL) ?_
                    refine aU rfl rfl (aA rfl) rfl c66 (bP (aA rfl) rfl rfl rfl) ?_
                    refine tr1 rfl (bQ (v := .d (.lit (.bool ((decide ((w64 (x_1.moves - r51)) < 0)))))) (aA rfl) rfl c66 rfl rfl) ?_
                    have h57 := Option.some.inj h57
                    subst h57
                    refine aI (bT rfl ⟨rfl, rfl, rfl, rfl, rfl, rfl, rfl, rfl, rfl, rfl, rfl, rfl, rfl, rfl, trivial⟩ rfl)
                  ·refine aI ?_
                   refine cK rfl (fun c58 => ?_) (fun c58 => ?_)
                   ·have h := bB c58 h
                    refine dO ?_
                    refine .inl ⟨rfl, ?_⟩
                    refine aE ?_
                    refine tr1 rfl (cG (aA rfl) rfl rfl rfl) ?_
                    refine tr1 rfl (aD (v := .d (.lit (.int .i64 ((w64 (t112_6_39 + 1)))))) (aA rfl) rfl rfl) ?_
                    refine aI ?_
                    exact ⟨(w64 (t112_6_39 + 1), s_6_39_4, bs40, ck41), h, bI [0, 1, 2, 3] rfl rfl (aZ rfl (bC ⟨rfl, rfl, rfl, rfl, rfl, rfl, rfl, rfl, rfl, rfl, rfl, trivial⟩))⟩
                   ·have h := bD c58 h
                    refine cF ?_
                    refine aH ?_
                    refine aE ?_
                    refine tr1 rfl (aD (v := .cp [.sl 1 (s_0.Program.Days.map bH), .lit (.int .i64 s_0.Program.Rest), .sl 6 (s_0.Program.Jobs.map aT), .lit (.int .i64 s_0.days), eF 3 aR s_0.old, .lit (.map (some s_0_seen_r))]) (aA rfl) rfl rfl) ?_
                    refine tr1 rfl (bO (aA rfl) rfl (i := 6) rfl tN (es := (bG (aS.mk r54.2.2 (bOr x_1.done (w64 (1 * 2 ^ (min t53_0_7.toNat 64)))) (w64 (x_1.moves - r51))))) rfl rfl) ?_
                    obtain ⟨r59, h60, h⟩ := bind_some h
                    refine cI rfl (mA (passed := [.map s_0_seen_r (s_6_39_4.map fun p : aS × Int => ((fun a : aS => Value.agg ((bG a).map bW).toArray) p.1, (fun v : Int => AV.d (.lit (.int .i64 v))) p.2)) bs40 ck41]) (aA rfl) rfl (.func _ _ Try.call110) rfl rfl (ih s_0 s_6_39_4 (aS.mk r54.2.2 (bOr x_1.done (w64 (1 * 2 ^ (min t53_0_7.toNat 64)))) (w64 (x_1.moves - r51))) h60)) ?_
                    rintro _ ⟨_, _, ⟨bs61, ck62, rfl, rfl⟩, rfl⟩
                    refine tr1 rfl (aD (v := .tup [.d (.sl 3 (r59.1.map aR)), .d (.lit (.bool r59.2.1))]) (aA rfl) rfl rfl) ?_
                    refine tr1 rfl (bZ (aA rfl) rfl rfl) ?_
                    refine tr1 rfl (bZ (aA rfl) rfl rfl) ?_
                    refine tr1 rfl (aK (v := .d (.sl 3 (r59.1.map aR))) (aA rfl) rfl rfl) ?_
                    refine tr1 rfl (aK (v := .d (.lit (.bool r59.2.1))) (aA rfl) rfl rfl) ?_
                    refine aI ?_
                    refine aH ?_
                    refine aE ?_
                    refine tr1 rfl (aD (v := .d (.lit (.bool r59.2.1))) (aA rfl) rfl rfl) ?_
                    refine aI ?_
                    refine cK rfl (fun c63 => ?_) (fun c63 => ?_)
                    ·have h := bB c63 h
                     refine aH ?_
                     refine aE ?_
                     refine tr1 rfl (bO (aA rfl) rfl (i := 5) rfl lD (es := (aR (bM.mk t53_0_7 n_4_26 t112_6_39))) rfl rfl) ?_
                     refine tr1 rfl (aGe (aA rfl) oH rfl rfl (rows := ([(bM.mk t53_0_7 n_4_26 t112_6_39)]).map aR) rfl (dT (f := aR) fun _ => rfl) rfl (by decide)) ?_
                     refine tr1 rfl (aD (v := .d (.sl 3 (r59.1.map aR))) (aA rfl) rfl rfl) ?_
                     obtain ⟨x64, h65, h⟩ := bind_some h
                     refine tr1 rfl (aKh (.d (.weak _ _)) (aEm (nn := true) (f := aR) (xs := [(bM.mk t53_0_7 n_4_26 t112_6_39)]) (ys := r59.1) (aA rfl) oH rfl rfl (fun _ => rfl) h65 rfl)) ?_
                     refine tr1 rfl (aK (v := .d (.sl 3 (x64.map aR))) (aA rfl) rfl rfl) ?_
                     refine tr1 rfl (aK (v := .d (.lit (.bool true))) (aA rfl) rfl rfl) ?_
                     refine aI ?_
                     have h := Option.some.inj h
                     subst h
                     refine cT (bI [0] rfl rfl (bC (l := [4, 5]) ⟨rfl, rfl, trivial⟩)) ?_
                     exact cB ⟨rfl, _, .two _ _, _, _, rfl, rfl⟩
                    ·have h := bD c63 h
                     refine fB ?_
                     refine aE ?_
                     refine tr1 rfl (cG (aA rfl) rfl rfl rfl) ?_
                     refine tr1 rfl (aD (v := .d (.lit (.int .i64 ((w64 (t112_6_39 + 1)))))) (aA rfl) rfl rfl) ?_
                     refine aI ?_
                     exact ⟨(w64 (t112_6_39 + 1), r59.2.2, bs61, ck62), h, bI [0, 1, 2, 3] rfl rfl (aZ rfl (bC ⟨rfl, rfl, rfl, rfl, rfl, rfl, rfl, rfl, rfl, rfl, rfl, trivial⟩))⟩
               ·have h := bD c43 h
                refine dO ?_
                refine .inl ⟨rfl, ?_⟩
                simp only [nY] at h
                simp only [nX] at h
                refine aE ?_
                refine tr1 rfl (aD (v := .d (.lit (.int .i64 n_4_26))) (aA rfl) rfl rfl) ?_
                refine tr1 rfl (cG (aA rfl) rfl rfl rfl) ?_
                refine tr1 rfl (aK (v := .d (.lit (.int .i64 ((w64 (n_4_26 + 1)))))) (aA rfl) rfl rfl) ?_
                refine aI ?_
                exact ⟨(w64 (n_4_26 + 1), s_6_39_4, bs40, ck41), h, bI [0, 1, 2] rfl rfl (aZ rfl (bC ⟨rfl, rfl, rfl, rfl, rfl, rfl, rfl, trivial⟩))⟩
              ·have h := bD c34 h
               refine cF ?_
               refine aH ?_
               refine aE ?_
               refine tr1 rfl (aD (v := .cp [.sl 1 (s_0.Program.Days.map bH), .lit (.int .i64 s_0.Program.Rest), .sl 6 (s_0.Program.Jobs.map aT), .lit (.int .i64 s_0.days), eF 3 aR s_0.old, .lit (.map (some s_0_seen_r))]) (aA rfl) rfl rfl) ?_
               refine tr1 rfl (fD (aA rfl) rfl) ?_
               refine tr1 rfl (cC (aA rfl) rfl oP (es := [.sl 1 (s_0.Program.Days.map bH), .lit (.int .i64 s_0.Program.Rest), .sl 6 (s_0.Program.Jobs.map aT)]) rfl) ?_
               refine tr1 rfl (cC (aA rfl) rfl lF (es := [.sl 1 (s_0.Program.Days.map bH)]) rfl) ?_
               refine tr1 rfl (cJ (aA rfl) rfl oS) ?_
               refine tr1 rfl (aD (v := .d (.lit (.int .i64 n_4_26))) (aA rfl) rfl rfl) ?_
               obtain ⟨x67, h68, h⟩ := bind_some h
               refine tr1 rfl (bU (aA rfl) rfl rfl oX.of (cE bH h68)) ?_
               refine tr1 rfl (cJ (aA rfl) rfl uJ) ?_
               refine tr1 rfl (dC (aA rfl) rfl kC.of) ?_
               refine tr1 rfl (aD (v := .d (.lit (.int .i64 0))) (aA rfl) rfl rfl) ?_
               refine aI ?_
               refine tQ ?_
               refine dY [0, 3, 6, 7, 10, 11, 51, 52, 53, 110, 111] (fun (s69 : Int × (List (aS × Int)) × (List Nat) × Nat) => [(112, .d (.lit (.int .i64 s69.1)))]) (fun (s69 : Int × (List (aS × Int)) × (List Nat) × Nat) => [.map s_0_seen_r (s69.2.1.map fun p : aS × Int => ((fun a : aS => Value.agg ((bG a).map bW).toArray) p.1, (fun v : Int => AV.d (.lit (.int .i64 v))) p.2)) s69.2.2.1 s69.2.2.2, .box b1 0 (bG x_1), .box b14 0 (aT x12), .box b33 0 (cH x_1.day)]) (fun (k : Nat) (s69 : Int × (List (aS × Int)) × (List Nat) × Nat) => fP (dJ kr) (eJ (dJ kr) s_0.Program s_0.days s_0.old s_0.Program.Jobs (s_0.Program.Jobs.length : Int) x_1 k10) (gJ (dJ kr) (eJ (dJ kr) s_0.Program s_0.days s_0.old s_0.Program.Jobs (s_0.Program.Jobs.length : Int) x_1 k10) s_0.Program s_0.days s_0.old t53_0_7 s_0.Program.Jobs (s_0.Program.Jobs.length : Int) t53_0_7 x_1 x12 k29) s_0.Program s_0.days s_0.old t53_0_7 n_4_26 s_0.Program.Jobs (s_0.Program.Jobs.length : Int) t53_0_7 x67 (x67.length : Int) x_1 x12 x_1.day k s69.1 s69.2.1) (fun _ => rfl) (0, s_4_26_4, bs27, ck28) h (bI [0, 1, 2, 3] rfl rfl (aZ rfl (bC ⟨rfl, rfl, rfl, rfl, rfl, rfl, rfl, rfl, rfl, rfl, rfl, trivial⟩))) ?_
               rintro k72 ⟨t112_6_69, s_6_69_4, bs70, ck71⟩ h
               simp only [fP] at h
               refine aH ?_
               refine aE ?_
               refine tr1 rfl (bP (aA rfl) rfl rfl rfl) ?_
               refine aI ?_
               refine aH ?_
               refine cK rfl (fun c73 => ?_) (fun c73 => ?_)
               ·have h := bB c73 h
                refine cF ?_
                refine aH ?_
                refine cW ?_
                refine aH ?_
                refine aE ?_
                refine tr1 rfl (aD (v := .d (.lit (.int .i64 t112_6_69))) (aA rfl) rfl rfl) ?_
                obtain ⟨x74, h75, h⟩ := bind_some h
                refine tr1 rfl (bU (aA rfl) rfl rfl kC.of (cE bA h75)) ?_
                refine tr1 rfl (dE (aA rfl) rfl gM (es := (bA x74)) rfl rfl) ?_
                refine cI rfl (dM (zs := [.lit (.int .i64 0), .lit (.int .i64 0)]) (aA rfl) Try.zeroValue34 rfl rfl) ?_
                rintro _ ⟨b76, rfl⟩
                refine tr1 rfl (aK (v := .d (.lit (.int .i64 t112_6_69))) (aA rfl) rfl rfl) ?_
                refine tr1 rfl (cL (i := 4) rfl rfl rfl rfl rfl Try.sizeOf34 rfl (aA rfl) (Nat.le_of_ble_eq_true rfl) (ds' := (bA x74)) rfl) ?_
                refine aI ?_
                refine aH ?_
                refine aE ?_
                refine tr1 rfl (aD (v := .d (.lit (.int .i64 t53_0_7))) (aA rfl) rfl rfl) ?_
                refine tr1 rfl (aD (v := .d (.lit (.int .i64 n_4_26))) (aA rfl) rfl rfl) ?_
                refine tr1 rfl (aD (v := .d (.lit (.int .i64 t112_6_69))) (aA rfl) rfl rfl) ?_
                refine tr1 rfl (eD (aA rfl) aAb (zs := [.lit (.int .i64 0), .lit (.int .i64 0), .lit (.int .i64 0)]) rfl rfl rfl rfl (es := [.lit (.int .i64 t53_0_7), .lit (.int .i64 n_4_26), .lit (.int .i64 t112_6_69)]) rfl) ?_
                refine cI rfl (dM (zs := [.lit (.int .i64 0), .lit (.int .i64 0), .lit (.int .i64 0)]) (aA rfl) Try.zeroValue45 rfl rfl) ?_
                rintro _ ⟨b77, rfl⟩
                refine tr1 rfl (cL (i := 5) rfl rfl rfl rfl rfl Try.sizeOf45 rfl (aA rfl) (Nat.le_of_ble_eq_true rfl) (ds' := (aR (bM.mk t53_0_7 n_4_26 t112_6_69))) rfl) ?_
                refine aI ?_
                refine aH ?_
                obtain ⟨u79, h80, h⟩ := bind_some h
                obtain ⟨r81, h82, h⟩ := bind_some h
                refine gI mix 14 [0, 3, 6, 7, 10, 11, 13, 14, 51, 52, 53, 110, 111, 112] (fun X78 => [(15, .bp (X78 13).b 0 0), (133, .agg (bG (aS.mk x_1.day (bOr x_1.done (w64 (1 * 2 ^ (min t53_0_7.toNat 64)))) (w64 (x_1.moves - r81)))))]) (fun X78 => [.map s_0_seen_r (s_6_69_4.map fun p : aS × Int => ((fun a : aS => Value.agg ((bG a).map bW).toArray) p.1, (fun v : Int => AV.d (.lit (.int .i64 v))) p.2)) bs70 ck71, .box b1 0 (bG x_1), .box b14 0 (aT x12), .box b33 0 (cH x_1.day), .box b76 0 (bA x74), .box b77 0 (aR (bM.mk t53_0_7 n_4_26 t112_6_69)), .box (X78 13).b 0 (bG (aS.mk (dF.mk 0 (A3.mk 0 0 0) (A6.mk 0 0 0 0 0 0)) 0 0))]) ?_ ?_
                ·refine ⟨1, fun X78 => [(121, 0, .agg (cH x_1.day)), (122, 1, .bp b1 0 10), (123, 2, .d (.lit (.int .i64 x_1.done))), (124, 3, .d (.lit (.int .i64 t53_0_7))), (125, 4, .d (.lit (.int .i64 ((w64 (1 * 2 ^ (min t53_0_7.toNat 64))))))), (126, 5, .d (.lit (.int .i64 ((bOr x_1.done (w64 (1 * 2 ^ (min t53_0_7.toNat 64)))))))), (127, 6, .bp b1 0 11), (128, 7, .d (.lit (.int .i64 x_1.moves))), (129, 8, .cp [.sl 1 (s_0.Program.Days.map bH), .lit (.int .i64 s_0.Program.Rest), .sl 6 (s_0.Program.Jobs.map aT), .lit (.int .i64 s_0.days), eF 3 aR s_0.old, .lit (.map (some s_0_seen_r))]), (130, 9, .agg (aR (bM.mk t53_0_7 n_4_26 t112_6_69))), (131, 10, .d (.lit (.int .i64 r81))), (132, 11, .d (.lit (.int .i64 ((w64 (x_1.moves - r81)))))), (133, 12, .agg (bG (aS.mk x_1.day (bOr x_1.done (w64 (1 * 2 ^ (min t53_0_7.toNat 64)))) (w64 (x_1.moves - r81))))), (15, 13, .bp (X78 13).b 0 0)], fun X78 => [([], .map s_0_seen_r (s_6_69_4.map fun p : aS × Int => ((fun a : aS => Value.agg ((bG a).map bW).toArray) p.1, (fun v : Int => AV.d (.lit (.int .i64 v))) p.2)) bs70 ck71), ([], .box b1 0 (bG x_1)), ([], .box b14 0 (aT x12)), ([], .box b33 0 (cH x_1.day)), ([], .box b76 0 (bA x74)), ([], .box b77 0 (aR (bM.mk t53_0_7 n_4_26 t112_6_69))), ([(13, .box (X78 13).b 0 (bG (aS.mk (dF.mk 0 (A3.mk 0 0 0) (A6.mk 0 0 0 0 0 0)) 0 0)))], nob)], ?_, ?_⟩
                 · exact ⟨by kernel_rfl, by kernel_rfl, by kernel_rfl, fun _ => by kernel_rfl, fun _ => by kernel_rfl, fun _ => by kernel_rfl, fun _ => rfl, [([], []), ([], []), ([1], []), ([], []), ([3], []), ([2, 4], []), ([], []), ([6], []), ([], []), ([], []), ([8, 9], []), ([7, 10], []), ([0, 5, 11], []), ([], [])], by kernel_rfl, ⟨fun X78 S hw hi hS => bE (X := X78) rfl (hw X78) rfl (aL rfl (bO (aA rfl) (aC hS rfl) (i := 3) (og hS rfl rfl) vZ (es := (cH x_1.day)) rfl rfl)),
      fun X78 S hw hi hS => bE (X := X78) rfl (hw X78) rfl (aL rfl (aN (aA rfl) (aC hS rfl) vA)),
      fun X78 S hw hi hS => bE (X := X78) rfl (hw X78) rfl (aL rfl (aQ (aA rfl) (aC hS rfl) (i := 1) (og hS rfl rfl) rfl bL)),
      fun X78 S hw hi hS => bE (X := X78) rfl (hw X78) rfl (aL rfl (aD (v := .d (.lit (.int .i64 t53_0_7))) (aA rfl) (aC hS rfl) rfl)),
      fun X78 S hw hi hS => bE (X := X78) rfl (hw X78) rfl (aL rfl (aEw (aA rfl) rfl (aC hS rfl) (vC h80))),
      fun X78 S hw hi hS => bE (X := X78) rfl (hw X78) rfl (aL rfl (zY (aA rfl) (aC hS rfl) (aC hS rfl) (.inr (.inl ⟨rfl, rfl⟩)))),
      fun X78 S hw hi hS => bE (X := X78) rfl (hw X78) rfl (aL rfl (aN (aA rfl) (aC hS rfl) vB)),
      fun X78 S hw hi hS => bE (X := X78) rfl (hw X78) rfl (aL rfl (aQ (aA rfl) (aC hS rfl) (i := 1) (og hS rfl rfl) rfl bL)),
      fun X78 S hw hi hS => bE (X := X78) rfl (hw X78) rfl (aL rfl (aD (v := .cp [.sl 1 (s_0.Program.Days.map bH), .lit (.int .i64 s_0.Program.Rest), .sl 6 (s_0.Program.Jobs.map aT), .lit (.int .i64 s_0.days), eF 3 aR s_0.old, .lit (.map (some s_0_seen_r))]) (aA rfl) (aC hS rfl) rfl)),
      fun X78 S hw hi hS => bE (X := X78) rfl (hw X78) rfl (aL rfl (bO (aA rfl) (aC hS rfl) (i := 5) (og hS rfl rfl) lD (es := (aR (bM.mk t53_0_7 n_4_26 t112_6_69))) rfl rfl)),
      fun X78 S hw hi hS => bE (X := X78) rfl (hw X78) rfl (aL rfl (cQ (aA rfl) (.func _ _ Try.call128) (ev2 (aC hS rfl) (ev2 (aC hS rfl) evn)) rfl (BVs.refl _ _) (sP _ _ h82) rfl)),
      fun X78 S hw hi hS => bE (X := X78) rfl (hw X78) rfl (aL rfl (cG (aA rfl) (aC hS rfl) (aC hS rfl) rfl)),
      fun X78 S hw hi hS => bE (X := X78) rfl (hw X78) rfl (aL rfl (eD (aA rfl) aDs (zs := [.lit (.int .i64 0), .lit (.int .i64 0), .lit (.int .i64 0), .lit (.int .i64 0), .lit (.int .i64 0), .lit (.int .i64 0), .lit (.int .i64 0), .lit (.int .i64 0), .lit (.int .i64 0), .lit (.int .i64 0), .lit (.int .i64 0), .lit (.int .i64 0)]) rfl rfl rfl (pa2 (aC hS rfl) (pa2 (aC hS rfl) (pa2 (aC hS rfl) pan))) (es := [.lit (.int .i64 x_1.day.number), .lit (.int .i64 x_1.day.free.x0), .lit (.int .i64 x_1.day.free.x1), .lit (.int .i64 x_1.day.free.x2), .lit (.int .i64 x_1.day.ends.x0), .lit (.int .i64 x_1.day.ends.x1), .lit (.int .i64 x_1.day.ends.x2), .lit (.int .i64 x_1.day.ends.x3), .lit (.int .i64 x_1.day.ends.x4), .lit (.int .i64 x_1.day.ends.x5), .lit (.int .i64 ((bOr x_1.done (w64 (1 * 2 ^ (min t53_0_7.toNat 64)))))), .lit (.int .i64 ((w64 (x_1.moves - r81))))]) rfl)),
      fun X78 S hw hi hS => rC (X := X78) (p := 6) (v := fun x => .bp x.b 0 0) (mo := fun x => .box x.b 0 (bG (aS.mk (dF.mk 0 (A3.mk 0 0 0) (A6.mk 0 0 0 0 0 0)) 0 0))) hS hi rfl rfl (fun _ => rfl) hw (fun _ => rfl) (fun _ => rfl) (fun _ => rfl) (fun _ => ⟨rfl, rfl, .inr rfl, ⟨rfl, rfl, .inr rfl, ⟨rfl, rfl, .inr rfl, ⟨rfl, rfl, .inr rfl, ⟨rfl, rfl, .inr rfl, ⟨rfl, rfl, .inr rfl, ⟨rfl, rfl, .inr rfl, ⟨rfl, rfl, .inr rfl, ⟨rfl, rfl, .inr rfl, ⟨rfl, rfl, .inr rfl, ⟨rfl, rfl, .inr rfl, ⟨rfl, rfl, .inr rfl, ⟨rfl, rfl, .inr rfl, ⟨rfl, rfl, .inl rfl, trivial⟩⟩⟩⟩⟩⟩⟩⟩⟩⟩⟩⟩⟩⟩) (fun _ => ⟨trivial, rfl, ⟨trivial, rfl, ⟨trivial, rfl, ⟨trivial, rfl, ⟨trivial, rfl, ⟨trivial, rfl, ⟨⟨rfl, .inl rfl, trivial⟩, rfl, trivial⟩⟩⟩⟩⟩⟩⟩) (gW (dM (zs := [.lit (.int .i64 0), .lit (.int .i64 0), .lit (.int .i64 0), .lit (.int .i64 0), .lit (.int .i64 0), .lit (.int .i64 0), .lit (.int .i64 0), .lit (.int .i64 0), .lit (.int .i64 0), .lit (.int .i64 0), .lit (.int .i64 0), .lit (.int .i64 0)]) (aA rfl) Try.zeroValue161 rfl rfl) (by rintro _ ⟨w, rfl⟩; exact ⟨⟨w, undef⟩, bI [0, 1, 2, 3, 4, 5, 7] rfl rfl (le_refl _)⟩)), trivial⟩⟩
                 · exact fun X78 => dB (aZ rfl (aZ rfl (bC ⟨rfl, rfl, rfl, rfl, rfl, rfl, rfl, rfl, rfl, rfl, rfl, rfl, rfl, rfl, trivial⟩)))
                ·intro X78
                 refine tr1 rfl (cL (i := 6) rfl rfl rfl rfl rfl Try.sizeOf161 rfl (aA rfl) (Nat.le_of_ble_eq_true rfl) (ds' := (bG (aS.mk x_1.day (bOr x_1.done (w64 (1 * 2 ^ (min t53_0_7.toNat 64)))) (w64 (x_1.moves - r81))))) rfl) ?_
                 refine aI ?_
                 refine aH ?_
                 refine aH ?_
                 obtain ⟨r84, h85, h⟩ := bind_some h
                 refine gI mix 14 [0, 3, 6, 7, 10, 11, 13, 14, 15, 51, 52, 53, 110, 111, 112] (fun X83 => [(146, .d (.lit (.int .i64 r84.2.1)))]) (fun X83 => [.map s_0_seen_r (s_6_69_4.map fun p : aS × Int => ((fun a : aS => Value.agg ((bG a).map bW).toArray) p.1, (fun v : Int => AV.d (.lit (.int .i64 v))) p.2)) bs70 ck71, .box b1 0 (bG x_1), .box b14 0 (aT x12), .box b33 0 (cH x_1.day), .box b76 0 (bA x74), .box b77 0 (aR (bM.mk t53_0_7 n_4_26 t112_6_69)), .box (X78 13).b 0 (bG (aS.mk r84.2.2 (bOr x_1.done (w64 (1 * 2 ^ (min t53_0_7.toNat 64)))) (w64 (x_1.moves - r81))))]) ?_ ?_
                 ·refine ⟨0, fun X83 => [(135, 0, .bp (X78 13).b 0 0), (136, 1, .cp [.sl 1 (s_0.Program.Days.map bH), .lit (.int .i64 s_0.Program.Rest), .sl 6 (s_0.Program.Jobs.map aT), .lit (.int .i64 s_0.days), eF 3 aR s_0.old, .lit (.map (some s_0_seen_r))]), (137, 2, .cp [.sl 1 (s_0.Program.Days.map bH), .lit (.int .i64 s_0.Program.Rest), .sl 6 (s_0.Program.Jobs.map aT), .lit (.int .i64 s_0.days), eF 3 aR s_0.old, .lit (.map (some s_0_seen_r))]), (138, 3, .cp [.sl 1 (s_0.Program.Days.map bH), .lit (.int .i64 s_0.Program.Rest), .sl 6 (s_0.Program.Jobs.map aT)]), (139, 4, .agg (bK s_0.Program)), (140, 5, .agg (aR (bM.mk t53_0_7 n_4_26 t112_6_69))), (141, 6, .bp b14 0 0), (142, 7, .bp b14 0 1), (143, 8, .d (.lit (.int .i64 x12.Length.High))), (144, 9, .tup [.d (.lit (.int .i64 r84.1)), .d (.lit (.int .i64 r84.2.1))]), (134, 10, .tup [.d (.lit (.int .i64 r84.1)), .d (.lit (.int .i64 r84.2.1))]), (145, 11, .d (.lit (.int .i64 r84.1))), (146, 12, .d (.lit (.int .i64 r84.2.1))), (16, 13, .d (.lit (.int .i64 r84.1)))], fun X83 => [([], .map s_0_seen_r (s_6_69_4.map fun p : aS × Int => ((fun a : aS => Value.agg ((bG a).map bW).toArray) p.1, (fun v : Int => AV.d (.lit (.int .i64 v))) p.2)) bs70 ck71), ([], .box b1 0 (bG x_1)), ([], .box b14 0 (aT x12)), ([], .box b33 0 (cH x_1.day)), ([], .box b76 0 (bA x74)), ([], .box b77 0 (aR (bM.mk t53_0_7 n_4_26 t112_6_69))), ([(9, .box (X78 13).b 0 (bG (aS.mk r84.2.2 (bOr x_1.done (w64 (1 * 2 ^ (min t53_0_7.toNat 64)))) (w64 (x_1.moves - r81)))))], .box (X78 13).b 0 (bG (aS.mk x_1.day (bOr x_1.done (w64 (1 * 2 ^ (min t53_0_7.toNat 64)))) (w64 (x_1.moves - r81)))))], ?_, ?_⟩
                  · exact ⟨by kernel_rfl, by kernel_rfl, by kernel_rfl, fun _ => by kernel_rfl, fun _ => by kernel_rfl, fun _ => by kernel_rfl, fun _ => rfl, [([], [9]), ([], [9]), ([1], [9]), ([2], [9]), ([3], [9]), ([], [9]), ([], [9]), ([6], [9]), ([7], [9]), ([0, 4, 5, 8], []), ([9], []), ([9, 10], []), ([9, 10], []), ([9, 11], [])], by kernel_rfl, ⟨fun X83 S hw hi hS => bE (X := X83) rfl (hw X83) rfl (aL rfl (aN (aA rfl) (aC hS rfl) sM)),
      fun X83 S hw hi hS => bE (X := X83) rfl (hw X83) rfl (aL rfl (aD (v := .cp [.sl 1 (s_0.Program.Days.map bH), .lit (.int .i64 s_0.Program.Rest), .sl 6 (s_0.Program.Jobs.map aT), .lit (.int .i64 s_0.days), eF 3 aR s_0.old, .lit (.map (some s_0_seen_r))]) (aA rfl) (aC hS rfl) rfl)),
      fun X83 S hw hi hS => bE (X := X83) rfl (hw X83) rfl (aL rfl (fD (aA rfl) (aC hS rfl))),
      fun X83 S hw hi hS => bE (X := X83) rfl (hw X83) rfl (aL rfl (cC (aA rfl) (aC hS rfl) oP (es := [.sl 1 (s_0.Program.Days.map bH), .lit (.int .i64 s_0.Program.Rest), .sl 6 (s_0.Program.Jobs.map aT)]) rfl)),
      fun X83 S hw hi hS => bE (X := X83) rfl (hw X83) rfl (aL rfl (dE (aA rfl) (aC hS rfl) gL (es := (bK s_0.Program)) rfl rfl)),
      fun X83 S hw hi hS => bE (X := X83) rfl (hw X83) rfl (aL rfl (bO (aA rfl) (aC hS rfl) (i := 5) (og hS rfl rfl) lD (es := (aR (bM.mk t53_0_7 n_4_26 t112_6_69))) rfl rfl)),
      fun X83 S hw hi hS => bE (X := X83) rfl (hw X83) rfl (aL rfl (aN (aA rfl) (aC hS rfl) mO)),
      fun X83 S hw hi hS => bE (X := X83) rfl (hw X83) rfl (aL rfl (aN (aA rfl) (aC hS rfl) oQ)),
      fun X83 S hw hi hS => bE (X := X83) rfl (hw X83) rfl (aL rfl (aQ (aA rfl) (aC hS rfl) (i := 2) (og hS rfl rfl) rfl bL)),
      fun X83 S hw hi hS => wQ (X := X83) (p := 6) hS rfl rfl rfl (hw X83) rfl rfl rfl (gW (xR ((aCf 6 (x := .box (X78 13).b 0 (bG (aS.mk x_1.day (bOr x_1.done (w64 (1 * 2 ^ (min t53_0_7.toNat 64)))) (w64 (x_1.moves - r81))))) (og hS rfl rfl)).trans (bI [6, 0, 1, 2, 3, 4, 5] rfl rfl (le_refl _))) (mA (passed := [.box (X78 13).b 0 ((cH x_1.day) ++ [.lit (.int .i64 ((bOr x_1.done (w64 (1 * 2 ^ (min t53_0_7.toNat 64)))))), .lit (.int .i64 ((w64 (x_1.moves - r81))))])]) (aA rfl) rfl (.func _ _ Try.call87) (ev2 (aC hS rfl) (ev2 (aC hS rfl) (ev2 (aC hS rfl) (ev2 (aC hS rfl) evn)))) rfl (oF x_1.day s_0.Program (bM.mk t53_0_7 n_4_26 t112_6_69) x12.Length.High (d_0_post := [.lit (.int .i64 ((bOr x_1.done (w64 (1 * 2 ^ (min t53_0_7.toNat 64)))))), .lit (.int .i64 ((w64 (x_1.moves - r81))))]) h85))) (by rintro _ ⟨_, _, ⟨rfl, rfl⟩, rfl⟩; exact bI [1, 2, 3, 4, 5, 6, 0] rfl rfl (le_refl _))),
      fun X83 S hw hi hS => bE (X := X83) rfl (hw X83) rfl (aL rfl (aD (v := .tup [.d (.lit (.int .i64 r84.1)), .d (.lit (.int .i64 r84.2.1))]) (aA rfl) (aC hS rfl) rfl)),
      fun X83 S hw hi hS => bE (X := X83) rfl (hw X83) rfl (aL rfl (bZ (aA rfl) (aC hS rfl) rfl)),
      fun X83 S hw hi hS => bE (X := X83) rfl (hw X83) rfl (aL rfl (bZ (aA rfl) (aC hS rfl) rfl)),
      fun X83 S hw hi hS => bE (X := X83) rfl (hw X83) rfl (aL rfl (aK (v := .d (.lit (.int .i64 r84.1))) (aA rfl) (aC hS rfl) rfl)), trivial⟩⟩
                  · exact fun X83 => dB (aZ rfl (bC ⟨rfl, rfl, rfl, rfl, rfl, rfl, rfl, rfl, rfl, rfl, rfl, rfl, rfl, rfl, rfl, trivial⟩))
                 ·intro X83
                  refine tr1 rfl (aK (v := .d (.lit (.int .i64 r84.2.1))) (aA rfl) rfl rfl) ?_
                  refine aI ?_
                  refine aH ?_
                  refine aE ?_
                  refine tr1 rfl (aD (v := .d (.lit (.int .i64 r84.2.1))) (aA rfl) rfl rfl) ?_
                  refine tr1 rfl (aN (aA rfl) rfl oQ) ?_
                  refine tr1 rfl (aQ (aA rfl) rfl (i := 4) rfl rfl bL) ?_
                  refine tr1 rfl (bP (aA rfl) rfl rfl rfl) ?_
                  refine tr1 rfl (aD (v := .d (.lit (.bool ((decide (x74.High < r84.2.1)))))) (aA rfl) rfl rfl) ?_
                  obtain ⟨b86, h87, h⟩ := bind_some h
                  refine dD 4 [0, 3, 6, 7, 10, 11, 14, 15, 51, 52, 53, 110, 111, 112] 155 b86 ?_ ?_
                  ·refine cA (decide (x74.High < r84.2.1)) (fun c96 => ?_) (fun c96 => ?_)
                   ·have h87 := bB c96 h87
                    refine aX rfl rfl (aA rfl) rfl (aA rfl) rfl c96 ?_
                    refine aX rfl rfl (aA rfl) rfl (aA rfl) rfl c96 ?_
                    refine aX rfl rfl (aA rfl) rfl (aA rfl) rfl c96 ?_
                    refine tr1 rfl (bR (v := .d (.lit (.bool true))) (aA rfl) rfl c96 rfl rfl) ?_
                    have h87 := Option.some.inj h87
                    subst h87
                    refine aI (bT rfl ⟨rfl, rfl, rfl, rfl, rfl, rfl, rfl, rfl, rfl, rfl, rfl, rfl, rfl, rfl, trivial⟩ rfl)
                   ·have h87 := bD c96 h87
                    refine aU rfl rfl (aA rfl) rfl c96 (aN (aA rfl) rfl vB) ?_
                    refine aU rfl rfl (aA rfl) rfl c96 (aQ (aA rfl) rfl (i := 6) rfl rfl bL) ?_
                    refine aU rfl rfl (aA rfl) rfl c96 (bP (aA rfl) rfl rfl rfl) ?_
                    refine tr1 rfl (bQ (v := .d (.lit (.bool ((decide ((w64 (x_1.moves - r81)) < 0)))))) (aA rfl) rfl c96 rfl rfl) ?_
                    have h87 := Option.some.inj h87
                    subst h87
                    refine aI (bT rfl ⟨rfl, rfl, rfl, rfl, rfl, rfl, rfl, rfl, rfl, rfl, rfl, rfl, rfl, rfl, trivial⟩ rfl)
                  ·refine aI ?_
                   refine cK rfl (fun c88 => ?_) (fun c88 => ?_)
                   ·have h := bB c88 h
                    refine dO ?_
                    refine .inl ⟨rfl, ?_⟩
                    refine aE ?_
                    refine tr1 rfl (cG (aA rfl) rfl rfl rfl) ?_
                    refine tr1 rfl (aD (v := .d (.lit (.int .i64 ((w64 (t112_6_69 + 1)))))) (aA rfl) rfl rfl) ?_
                    refine aI ?_
                    exact ⟨(w64 (t112_6_69 + 1), s_6_69_4, bs70, ck71), h, bI [0, 1, 2, 3] rfl rfl (aZ rfl (bC ⟨rfl, rfl, rfl, rfl, rfl, rfl, rfl, rfl, rfl, rfl, rfl, trivial⟩))⟩
                   ·have h := bD c88 h
                    refine cF ?_
                    refine aH ?_
                    refine aE ?_
                    refine tr1 rfl (aD (v := .cp [.sl 1 (s_0.Program.Days.map bH), .lit (.int .i64 s_0.Program.Rest), .sl 6 (s_0.Program.Jobs.map aT), .lit (.int .i64 s_0.days), eF 3 aR s_0.old, .lit (.map (some s_0_seen_r))]) (aA rfl) rfl rfl) ?_
                    refine tr1 rfl (bO (aA rfl) rfl (i := 6) rfl tN (es := (bG (aS.mk r84.2.2 (bOr x_1.done (w64 (1 * 2 ^ (min t53_0_7.toNat 64)))) (w64 (x_1.moves - r81))))) rfl rfl) ?_
                    obtain ⟨r89, h90, h⟩ := bind_some h
                    refine cI rfl (mA (passed := [.map s_0_seen_r (s_6_69_4.map fun p : aS × Int => ((fun a : aS => Value.agg ((bG a).map bW).toArray) p.1, (fun v : Int => AV.d (.lit (.int .i64 v))) p.2)) bs70 ck71]) (aA rfl) rfl (.func _ _ Try.call110) rfl rfl (ih s_0 s_6_69_4 (aS.mk r84.2.2 (bOr x_1.done (w64 (1 * 2 ^ (min t53_0_7.toNat 64)))) (w64 (x_1.moves - r81))) h90)) ?_
                    rintro _ ⟨_, _, ⟨bs91, ck92, rfl, rfl⟩, rfl⟩
                    refine tr1 rfl (aD (v := .tup [.d (.sl 3 (r89.1.map aR)), .d (.lit (.bool r89.2.1))]) (aA rfl) rfl rfl) ?_
                    refine tr1 rfl (bZ (aA rfl) rfl rfl) ?_
                    refine tr1 rfl (bZ (aA rfl) rfl rfl) ?_
                    refine tr1 rfl (aK (v := .d (.sl 3 (r89.1.map aR))) (aA rfl) rfl rfl) ?_
                    refine tr1 rfl (aK (v := .d (.lit (.bool r89.2.1))) (aA rfl) rfl rfl) ?_
                    refine aI ?_
                    refine aH ?_
                    refine aE ?_
                    refine tr1 rfl (aD (v := .d (.lit (.bool r89.2.1))) (aA rfl) rfl rfl) ?_
                    refine aI ?_
                    refine cK rfl (fun c93 => ?_) (fun c93 => ?_)
                    ·have h := bB c93 h
                     refine aH ?_
                     refine aE ?_
                     refine tr1 rfl (bO (aA rfl) rfl (i := 5) rfl lD (es := (aR (bM.mk t53_0_7 n_4_26 t112_6_69))) rfl rfl) ?_
                     refine tr1 rfl (aGe (aA rfl) oH rfl rfl (rows := ([(bM.mk t53_0_7 n_4_26 t112_6_69)]).map aR) rfl (dT (f := aR) fun _ => rfl) rfl (by decide)) ?_
                     refine tr1 rfl (aD (v := .d (.sl 3 (r89.1.map aR))) (aA rfl) rfl rfl) ?_
                     obtain ⟨x94, h95, h⟩ := bind_some h
                     refine tr1 rfl (aKh (.d (.weak _ _)) (aEm (nn := true) (f := aR) (xs := [(bM.mk t53_0_7 n_4_26 t112_6_69)]) (ys := r89.1) (aA rfl) oH rfl rfl (fun _ => rfl) h95 rfl)) ?_
                     refine tr1 rfl (aK (v := .d (.sl 3 (x94.map aR))) (aA rfl) rfl rfl) ?_
                     refine tr1 rfl (aK (v := .d (.lit (.bool true))) (aA rfl) rfl rfl) ?_
                     refine aI ?_
                     have h := Option.some.inj h
                     subst h
                     refine cT (bI [0] rfl rfl (bC (l := [4, 5]) ⟨rfl, rfl, trivial⟩)) ?_
                     exact cB ⟨rfl, _, .two _ _, _, _, rfl, rfl⟩
                    ·have h := bD c93 h
                     refine fB ?_
                     refine aE ?_
                     refine tr1 rfl (cG (aA rfl) rfl rfl rfl) ?_
                     refine tr1 rfl (aD (v := .d (.lit (.int .i64 ((w64 (t112_6_69 + 1)))))) (aA rfl) rfl rfl) ?_
                     refine aI ?_
                     exact ⟨(w64 (t112_6_69 + 1), r89.2.2, bs91, ck92), h, bI [0, 1, 2, 3] rfl rfl (aZ rfl (bC ⟨rfl, rfl, rfl, rfl, rfl, rfl, rfl, rfl, rfl, rfl, rfl, trivial⟩))⟩
               ·have h := bD c73 h
                refine dO ?_
                refine .inl ⟨rfl, ?_⟩
                simp only [nY] at h
                simp only [nX] at h
                refine aE ?_
                refine tr1 rfl (aD (v := .d (.lit (.int .i64 n_4_26))) (aA rfl) rfl rfl) ?_
                refine tr1 rfl (cG (aA rfl) rfl rfl rfl) ?_
                refine tr1 rfl (aK (v := .d (.lit (.int .i64 ((w64 (n_4_26 + 1)))))) (aA rfl) rfl rfl) ?_
                refine aI ?_
                exact ⟨(w64 (n_4_26 + 1), s_6_69_4, bs70, ck71), h, bI [0, 1, 2] rfl rfl (aZ rfl (bC ⟨rfl, rfl, rfl, rfl, rfl, rfl, rfl, trivial⟩))⟩
             ·have h := bD c32 h
              refine dO ?_
              refine .inl ⟨rfl, ?_⟩
              simp only [rL] at h
              simp only [iL] at h
              refine aE ?_
              refine tr1 rfl (cG (aA rfl) rfl rfl rfl) ?_
              refine tr1 rfl (aD (v := .d (.lit (.int .i64 ((w64 (t53_0_7 + 1)))))) (aA rfl) rfl rfl) ?_
              refine aI ?_
              exact ⟨(w64 (t53_0_7 + 1), s_4_26_4, bs27, ck28), h, bI [0, 1] rfl rfl (aZ rfl (bC ⟨rfl, rfl, rfl, rfl, trivial⟩))⟩
         ·have h := bD c11 h
          refine dO ?_
          refine .inl ⟨rfl, ?_⟩
          simp only [rJ] at h
          refine aH ?_
          refine aE ?_
          refine tr1 rfl (kT 3 (aA rfl)) ?_
          refine tr1 rfl (aK (v := .d (.lit (.bool false))) (aA rfl) rfl rfl) ?_
          refine aI ?_
          have h := Option.some.inj h
          subst h
          refine cT (bI [0] rfl rfl (bC (l := [4, 5]) ⟨rfl, rfl, trivial⟩)) ?_
          exact cB ⟨rfl, _, .two _ _, _, _, rfl, rfl⟩
theorem zX (s_0 : eN) (s_0_seen : List (aS × Int)) (x_1 : aS) {r : (List bM) × Bool × (List (aS × Int))} {s_0_seen_r : Nat} {s_0_seen_bs : List Nat} {s_0_seen_ck : Nat} (h : uN s_0 s_0_seen x_1 = some r) : fI Try.prog 110 [.cp [.sl 1 (s_0.Program.Days.map bH), .lit (.int .i64 s_0.Program.Rest), .sl 6 (s_0.Program.Jobs.map aT), .lit (.int .i64 s_0.days), eF 3 aR s_0.old, .lit (.map (some s_0_seen_r))], .agg (bG x_1)] [.map s_0_seen_r (s_0_seen.map fun p : aS × Int => ((fun a : aS => Value.agg ((bG a).map bW).toArray) p.1, (fun v : Int => AV.d (.lit (.int .i64 v))) p.2)) s_0_seen_bs s_0_seen_ck] (fun r' o' => ∃ (bs0 : List Nat) (ck0 : Nat), r' = .tup [.d (.sl 3 (r.1.map aR)), .d (.lit (.bool r.2.1))] ∧ o' = [.map s_0_seen_r (r.2.2.map fun p : aS × Int => ((fun a : aS => Value.agg ((bG a).map bW).toArray) p.1, (fun v : Int => AV.d (.lit (.int .i64 v))) p.2)) bs0 ck0]) := yF BIG _ _ _ h

theorem aFy (p_0 : cP) (days_1 : Int) (old_2 : Option (List bM)) (moves_3 : Int) {r : (List bM) × Bool} (h : xM p_0 days_1 old_2 moves_3 = some r) : Fn Try.prog 88 [.agg (bK p_0), .d (.lit (.int .i64 days_1)), .d (eF 3 aR old_2), .d (.lit (.int .i64 moves_3))] (.tup [.d (.sl 3 (r.1.map aR)), .d (.lit (.bool r.2))]) := by
 unfold xM at h
 refine Fn.of_tr Try.func88 rfl (rs := [.tmp 8, .tmp 9]) Try.results88 Try.ntmps88 (Nat.le_of_ble_eq_true rfl) ?_
 refine aH ?_
 refine aE ?_
 refine cI rfl (eU (v := .agg (bK p_0)) (aA rfl) rfl rfl rfl) ?_
 rintro _ ⟨b1, rfl⟩
 refine tr1 rfl (kT 3 (aA rfl)) ?_
 refine tr1 rfl (aK (v := .d (.lit (.bool false))) (aA rfl) rfl rfl) ?_
 refine aI ?_
 refine aH ?_
 refine aE ?_
 refine tr1 rfl (bO (aA rfl) rfl (i := 0) rfl gL (es := (bK p_0)) rfl rfl) ?_
 refine tr1 rfl (aD (v := .d (.lit (.int .i64 days_1))) (aA rfl) rfl rfl) ?_
 refine tr1 rfl (aD (v := .d (eF 3 aR old_2)) (aA rfl) rfl rfl) ?_
 refine cI rfl (sS (aA rfl)) ?_
 rintro _ ⟨r2, rfl⟩
 refine tr1 rfl (eD (aA rfl) aNb (zs := [.sl 1 ((([] : List (List bJ))).map bH), .lit (.int .i64 0), .sl 6 ((([] : List cS)).map aT), .lit (.int .i64 0), .sl 3 ((([] : List bM)).map aR), .lit (.map none)]) rfl rfl rfl rfl (es := [.sl 1 (p_0.Days.map bH), .lit (.int .i64 p_0.Rest), .sl 6 (p_0.Jobs.map aT), .lit (.int .i64 days_1), eF 3 aR old_2, .lit (.map (some r2))]) rfl) ?_
 refine cI rfl (eU (v := .agg [.sl 1 (p_0.Days.map bH), .lit (.int .i64 p_0.Rest), .sl 6 (p_0.Jobs.map aT), .lit (.int .i64 days_1), eF 3 aR old_2, .lit (.map (some r2))]) (aA rfl) rfl rfl rfl) ?_
 rintro _ ⟨b3, rfl⟩
 refine tr1 rfl (aK (v := .bp b3 0 0) (aA rfl) rfl rfl) ?_
 refine aI ?_
 refine aH ?_
 refine aH ?_
 refine aE ?_
 refine tr1 rfl (aD (v := .d (.lit (.int .i64 days_1))) (aA rfl) rfl rfl) ?_
 refine tr1 rfl (bP (aA rfl) rfl rfl rfl) ?_
 refine aI ?_
 refine cK rfl (fun c4 => ?_) (fun c4 => ?_)
 ·have h := bB c4 h
  refine aH ?_
  refine eS mix 5 [] [(8, .d (.sl 3 ((([] : List bM)).map aR))), (22, .d (.lit (.bool ((decide ((p_0.Jobs.length : Int) = 0))))))] ?_ ?_
  ·refine ⟨[(19, 0, .bp b1 0 2), (20, 1, .d (.sl 6 (p_0.Jobs.map aT))), (21, 2, .d (.lit (.int .i64 ((p_0.Jobs.length : Int))))), (22, 3, .d (.lit (.bool ((decide ((p_0.Jobs.length : Int) = 0)))))), (8, 4, .d (.sl 3 ((([] : List bM)).map aR)))], ?_, ?_⟩
   · exact ⟨by kernel_rfl, by kernel_rfl, by kernel_rfl, by kernel_rfl, by kernel_rfl, [([], []), ([0], []), ([1], []), ([2], []), ([], [])], by kernel_rfl, ⟨fun S hS => aB rfl (aL rfl (aN (aA rfl) (aC hS rfl) gB)),
      fun S hS => aB rfl (aL rfl (aQ (aA rfl) (aC hS rfl) (i := 0) rfl rfl jH)),
      fun S hS => aB rfl (aL rfl (dC (aA rfl) (aC hS rfl) eE.of)),
      fun S hS => aB rfl (aL rfl (bP (aA rfl) (aC hS rfl) rfl rfl)),
      fun S hS => aB rfl (aL rfl (kT 3 (aA rfl))), trivial⟩⟩
   · exact dB (aZ rfl (aZ rfl (bC trivial)))
  ·refine tr1 rfl (aK (v := .d (.lit (.bool ((decide ((p_0.Jobs.length : Int) = 0)))))) (aA rfl) rfl rfl) ?_
   refine aI ?_
   have h := Option.some.inj h
   subst h
   refine cT (cR (cU (l := [8, 9]) ⟨rfl, rfl, trivial⟩)) ?_
   exact cB ⟨rfl, _, .two _ _, rfl, rfl⟩
 ·have h := bD c4 h
  refine cF ?_
  refine aH ?_
  refine aE ?_
  refine tr1 rfl (aD (v := .bp b3 0 0) (aA rfl) rfl rfl) ?_
  refine tr1 rfl (bO (aA rfl) rfl (i := 0) rfl gL (es := (bK p_0)) rfl rfl) ?_
  obtain ⟨r5, h6, h⟩ := bind_some h
  refine tr1 rfl (iX (aA rfl) (.func _ _ Try.call86) rfl rfl (sB _ _ h6)) ?_
  refine tr1 rfl (aD (v := .d (.lit (.int .i64 moves_3))) (aA rfl) rfl rfl) ?_
  refine tr1 rfl (eD (aA rfl) aDs (zs := [.lit (.int .i64 0), .lit (.int .i64 0), .lit (.int .i64 0), .lit (.int .i64 0), .lit (.int .i64 0), .lit (.int .i64 0), .lit (.int .i64 0), .lit (.int .i64 0), .lit (.int .i64 0), .lit (.int .i64 0), .lit (.int .i64 0), .lit (.int .i64 0)]) rfl rfl rfl rfl (es := [.lit (.int .i64 r5.number), .lit (.int .i64 r5.free.x0), .lit (.int .i64 r5.free.x1), .lit (.int .i64 r5.free.x2), .lit (.int .i64 r5.ends.x0), .lit (.int .i64 r5.ends.x1), .lit (.int .i64 r5.ends.x2), .lit (.int .i64 r5.ends.x3), .lit (.int .i64 r5.ends.x4), .lit (.int .i64 r5.ends.x5), .lit (.int .i64 0), .lit (.int .i64 moves_3)]) rfl) ?_
  apply aNf [.box b1 0 (bK p_0), .map r2 (([] : List (aS × Int)).map fun p : aS × Int => ((fun a : aS => Value.agg ((bG a).map bW).toArray) p.1, (fun v : Int => AV.d (.lit (.int .i64 v))) p.2)) ([]) 0] [.box b3 0 [.sl 1 (p_0.Days.map bH), .lit (.int .i64 p_0.Rest), .sl 6 (p_0.Jobs.map aT), .lit (.int .i64 days_1), eF 3 aR old_2, .lit (.map (some r2))]] rfl
  exact iG (k := 23) (v := .cp [.sl 1 (p_0.Days.map bH), .lit (.int .i64 p_0.Rest), .sl 6 (p_0.Jobs.map aT), .lit (.int .i64 days_1), eF 3 aR old_2, .lit (.map (some r2))]) ((tH 0 rfl rfl (dvc (.same _) (dvc (.same _) (dvc (.same _) (dvc (.same _) (dvc (.same _) (dvc (.same _) dvn)))))))) (iG (k := 16) (v := .cp [.sl 1 (p_0.Days.map bH), .lit (.int .i64 p_0.Rest), .sl 6 (p_0.Jobs.map aT), .lit (.int .i64 days_1), eF 3 aR old_2, .lit (.map (some r2))]) ((tH 0 rfl rfl (dvc (.same _) (dvc (.same _) (dvc (.same _) (dvc (.same _) (dvc (.same _) (dvc (.same _) dvn)))))))) (iG (k := 10) (v := .cp [.sl 1 (p_0.Days.map bH), .lit (.int .i64 p_0.Rest), .sl 6 (p_0.Jobs.map aT), .lit (.int .i64 days_1), eF 3 aR old_2, .lit (.map (some r2))]) ((tH 0 rfl rfl (dvc (.same _) (dvc (.same _) (dvc (.same _) (dvc (.same _) (dvc (.same _) (dvc (.same _) dvn)))))))) (aFg _ _)))
  obtain ⟨r7, h8, h⟩ := bind_some h
  refine lB (bI [1, 0] rfl rfl (le_refl _)) ?_
  refine cI rfl (mA (passed := [.map r2 (([] : List (aS × Int)).map fun p : aS × Int => ((fun a : aS => Value.agg ((bG a).map bW).toArray) p.1, (fun v : Int => AV.d (.lit (.int .i64 v))) p.2)) ([]) 0]) (aA rfl) rfl (.func _ _ Try.call110) rfl rfl (zX (eN.mk p_0 days_1 old_2) ([] : List (aS × Int)) (aS.mk r5 0 moves_3) h8)) ?_
  rintro _ ⟨_, _, ⟨bs9, ck10, rfl, rfl⟩, rfl⟩
  refine tr1 rfl (bZ (aA rfl) rfl rfl) ?_
  refine tr1 rfl (bZ (aA rfl) rfl rfl) ?_
  refine tr1 rfl (aK (v := .d (.sl 3 (r7.1.map aR))) (aA rfl) rfl rfl) ?_
  refine tr1 rfl (aK (v := .d (.lit (.bool r7.2.1))) (aA rfl) rfl rfl) ?_
  refine aI ?_
  have h := Option.some.inj h
  subst h
  refine cT (cR (cU (l := [8, 9]) ⟨rfl, rfl, trivial⟩)) ?_
  exact cB ⟨rfl, _, .two _ _, rfl, rfl⟩

theorem aGs (p_0 : cP) {r : Int × (List bM) × Bool} (h : zU p_0 = some r) : Fn Try.prog 56 [.agg (bK p_0)] (.tup [.d (.lit (.int .i64 r.1)), .d (.sl 3 (r.2.1.map aR)), .d (.lit (.bool r.2.2))]) := by
 unfold zU at h
 refine Fn.of_tr Try.func56 rfl (rs := [.tmp 2, .tmp 3, .tmp 4]) Try.results56 Try.ntmps56 (Nat.le_of_ble_eq_true rfl) ?_
 refine aH ?_
 refine aE ?_
 refine cI rfl (eU (v := .agg (bK p_0)) (aA rfl) rfl rfl rfl) ?_
 rintro _ ⟨b1, rfl⟩
 refine tr1 rfl (aK (v := .d (.lit (.int .i64 0))) (aA rfl) rfl rfl) ?_
 refine tr1 rfl (kT 3 (aA rfl)) ?_
 refine tr1 rfl (aK (v := .d (.lit (.bool false))) (aA rfl) rfl rfl) ?_
 refine aI ?_
 refine aH ?_
 refine aH ?_
 refine aE ?_
 refine tr1 rfl (aN (aA rfl) rfl lF) ?_
 refine tr1 rfl (aQ (aA rfl) rfl (i := 0) rfl rfl oS) ?_
 refine tr1 rfl (dC (aA rfl) rfl oX.of) ?_
 refine tr1 rfl (cG (aA rfl) rfl rfl rfl) ?_
 refine tr1 rfl (aD (v := .d (.lit (.int .i64 0))) (aA rfl) rfl rfl) ?_
 refine aI ?_
 refine cW ?_
 refine dY [1, 11] (fun (s2 : Int) => [(12, .d (.lit (.int .i64 s2)))]) (fun (s2 : Int) => [.box b1 0 (bK p_0)]) (fun (k : Nat) (s2 : Int) => qO (w64 ((p_0.Days.length : Int) + 1)) p_0 k s2) (fun _ => rfl) (0) h (bI [0] rfl rfl (aZ rfl (bC ⟨rfl, rfl, trivial⟩))) ?_
 rintro k3 t12_0_2 h
 simp only [qO] at h
 refine aH ?_
 refine aE ?_
 refine tr1 rfl (bP (aA rfl) rfl rfl rfl) ?_
 refine aI ?_
 refine aH ?_
 refine cK rfl (fun c4 => ?_) (fun c4 => ?_)
 ·have h := bB c4 h
  refine cF ?_
  refine aH ?_
  refine cW ?_
  refine aH ?_
  refine aE ?_
  refine tr1 rfl (aD (v := .d (.lit (.int .i64 t12_0_2))) (aA rfl) rfl rfl) ?_
  refine tr1 rfl (aK (v := .d (.lit (.int .i64 t12_0_2))) (aA rfl) rfl rfl) ?_
  refine aI ?_
  refine aH ?_
  refine aE ?_
  refine tr1 rfl (bO (aA rfl) rfl (i := 0) rfl gL (es := (bK p_0)) rfl rfl) ?_
  refine tr1 rfl (aD (v := .d (.lit (.int .i64 t12_0_2))) (aA rfl) rfl rfl) ?_
  obtain ⟨r5, h6, h⟩ := bind_some h
  refine tr1 rfl (iX (aA rfl) (.func _ _ Try.call88) rfl rfl (aFy _ _ _ _ h6)) ?_
  refine tr1 rfl (aD (v := .tup [.d (.sl 3 (r5.1.map aR)), .d (.lit (.bool r5.2))]) (aA rfl) rfl rfl) ?_
  refine tr1 rfl (bZ (aA rfl) rfl rfl) ?_
  refine tr1 rfl (bZ (aA rfl) rfl rfl) ?_
  refine tr1 rfl (aK (v := .d (.sl 3 (r5.1.map aR))) (aA rfl) rfl rfl) ?_
  refine tr1 rfl (aK (v := .d (.lit (.bool r5.2))) (aA rfl) rfl rfl) ?_
  refine aI ?_
  refine aH ?_
  refine aE ?_
  refine tr1 rfl (aD (v := .d (.lit (.bool r5.2))) (aA rfl) rfl rfl) ?_
  refine aI ?_
  refine cK rfl (fun c7 => ?_) (fun c7 => ?_)
  ·have h := bB c7 h
   refine aH ?_
   refine aE ?_
   refine tr1 rfl (aD (v := .d (.lit (.int .i64 t12_0_2))) (aA rfl) rfl rfl) ?_
   refine tr1 rfl (aD (v := .d (.sl 3 (r5.1.map aR))) (aA rfl) rfl rfl) ?_
   refine tr1 rfl (aK (v := .d (.lit (.int .i64 t12_0_2))) (aA rfl) rfl rfl) ?_
   refine tr1 rfl (aK (v := .d (.sl 3 (r5.1.map aR))) (aA rfl) rfl rfl) ?_
   refine tr1 rfl (aK (v := .d (.lit (.bool true))) (aA rfl) rfl rfl) ?_
   refine aI ?_
   have h := Option.some.inj h
   subst h
   refine cT (cR (cU (l := [2, 3, 4]) ⟨rfl, rfl, rfl, trivial⟩)) ?_
   exact cB ⟨rfl, _, .three _ _ _, rfl, rfl⟩
  ·have h := bD c7 h
   refine fB ?_
   refine aE ?_
   refine tr1 rfl (cG (aA rfl) rfl rfl rfl) ?_
   refine tr1 rfl (aD (v := .d (.lit (.int .i64 ((w64 (t12_0_2 + 1)))))) (aA rfl) rfl rfl) ?_
   refine aI ?_
   exact ⟨(w64 (t12_0_2 + 1)), h, bI [0] rfl rfl (aZ rfl (bC ⟨rfl, rfl, trivial⟩))⟩
 ·have h := bD c4 h
  refine dO ?_
  refine .inl ⟨rfl, ?_⟩
  simp only [zV] at h
  refine aH ?_
  refine aE ?_
  refine tr1 rfl (aK (v := .d (.lit (.int .i64 0))) (aA rfl) rfl rfl) ?_
  refine tr1 rfl (kT 3 (aA rfl)) ?_
  refine tr1 rfl (aK (v := .d (.lit (.bool false))) (aA rfl) rfl rfl) ?_
  refine aI ?_
  have h := Option.some.inj h
  subst h
  refine cT (cR (cU (l := [2, 3, 4]) ⟨rfl, rfl, rfl, trivial⟩)) ?_
  exact cB ⟨rfl, _, .three _ _ _, rfl, rfl⟩

theorem aGq (p_0 : cP) {r : Int × Int} (h : zR p_0 = some r) : Fn Try.prog 23 [.agg (bK p_0)] (.tup [.d (.lit (.int .i64 r.1)), .d (.lit (.int .i64 r.2))]) := by
 unfold zR at h
 refine Fn.of_tr Try.func23 rfl (rs := [.tmp 2, .tmp 3]) Try.results23 Try.ntmps23 (Nat.le_of_ble_eq_true rfl) ?_
 refine aH ?_
 refine aE ?_
 refine cI rfl (eU (v := .agg (bK p_0)) (aA rfl) rfl rfl rfl) ?_
 rintro _ ⟨b1, rfl⟩
 refine tr1 rfl (aK (v := .d (.lit (.int .i64 0))) (aA rfl) rfl rfl) ?_
 refine tr1 rfl (aK (v := .d (.lit (.int .i64 0))) (aA rfl) rfl rfl) ?_
 refine aI ?_
 refine aH ?_
 refine aH ?_
 refine aE ?_
 refine tr1 rfl (bO (aA rfl) rfl (i := 0) rfl gL (es := (bK p_0)) rfl rfl) ?_
 obtain ⟨r2, h3, h⟩ := bind_some h
 refine tr1 rfl (cQ (aA rfl) (.func _ _ Try.call25) rfl rfl (BVs.refl _ _) (uL _ h3) rfl) ?_
 refine tr1 rfl (aK (v := .d (.lit (.int .i64 r2))) (aA rfl) rfl rfl) ?_
 refine aI ?_
 refine aH ?_
 refine aE ?_
 refine tr1 rfl (aD (v := .d (.lit (.int .i64 r2))) (aA rfl) rfl rfl) ?_
 refine tr1 rfl (bP (aA rfl) rfl rfl rfl) ?_
 refine aI ?_
 refine cK rfl (fun c4 => ?_) (fun c4 => ?_)
 ·have h := bB c4 h
  refine aH ?_
  refine aE ?_
  refine tr1 rfl (aD (v := .d (.lit (.int .i64 r2))) (aA rfl) rfl rfl) ?_
  refine tr1 rfl (aK (v := .d (.lit (.int .i64 0))) (aA rfl) rfl rfl) ?_
  refine tr1 rfl (aK (v := .d (.lit (.int .i64 r2))) (aA rfl) rfl rfl) ?_
  refine aI ?_
  have h := Option.some.inj h
  subst h
  refine cT (cR (cU (l := [2, 3]) ⟨rfl, rfl, trivial⟩)) ?_
  exact cB ⟨rfl, _, .two _ _, rfl, rfl⟩
 ·have h := bD c4 h
  refine cF ?_
  refine aH ?_
  refine aE ?_
  refine tr1 rfl (bO (aA rfl) rfl (i := 0) rfl gL (es := (bK p_0)) rfl rfl) ?_
  obtain ⟨r5, h6, h⟩ := bind_some h
  refine tr1 rfl (iX (aA rfl) (.func _ _ Try.call56) rfl rfl (aGs _ h6)) ?_
  refine tr1 rfl (aD (v := .tup [.d (.lit (.int .i64 r5.1)), .d (.sl 3 (r5.2.1.map aR)), .d (.lit (.bool r5.2.2))]) (aA rfl) rfl rfl) ?_
  refine tr1 rfl (bZ (aA rfl) rfl rfl) ?_
  refine tr1 rfl (bZ (aA rfl) rfl rfl) ?_
  refine tr1 rfl (bZ (aA rfl) rfl rfl) ?_
  refine tr1 rfl (aK (v := .d (.lit (.int .i64 r5.1))) (aA rfl) rfl rfl) ?_
  refine tr1 rfl (aK (v := .d (.sl 3 (r5.2.1.map aR))) (aA rfl) rfl rfl) ?_
  refine tr1 rfl (aK (v := .d (.lit (.bool r5.2.2))) (aA rfl) rfl rfl) ?_
  refine aI ?_
  refine aH ?_
  refine aH ?_
  refine aE ?_
  refine tr1 rfl (aD (v := .d (.lit (.bool r5.2.2))) (aA rfl) rfl rfl) ?_
  refine tr1 rfl (fE (aA rfl) rfl) ?_
  refine aI ?_
  refine cK rfl (fun c7 => ?_) (fun c7 => ?_)
  ·have h := bB c7 h
   refine aH ?_
   refine aE ?_
   refine tr1 rfl (aK (v := .d (.lit (.int .i64 0))) (aA rfl) rfl rfl) ?_
   refine tr1 rfl (aK (v := .d (.lit (.int .i64 3))) (aA rfl) rfl rfl) ?_
   refine aI ?_
   have h := Option.some.inj h
   subst h
   refine cT (cR (cU (l := [2, 3]) ⟨rfl, rfl, trivial⟩)) ?_
   exact cB ⟨rfl, _, .two _ _, rfl, rfl⟩
  ·have h := bD c7 h
   refine cF ?_
   refine aH ?_
   refine aE ?_
   refine tr1 rfl (aD (v := .d (.lit (.int .i64 r5.1))) (aA rfl) rfl rfl) ?_
   refine tr1 rfl (aK (v := .d (.lit (.int .i64 r5.1))) (aA rfl) rfl rfl) ?_
   refine tr1 rfl (aK (v := .d (.lit (.int .i64 0))) (aA rfl) rfl rfl) ?_
   refine aI ?_
   have h := Option.some.inj h
   subst h
   refine cT (cR (cU (l := [2, 3]) ⟨rfl, rfl, trivial⟩)) ?_
   exact cB ⟨rfl, _, .two _ _, rfl, rfl⟩

theorem aCv (s_0 : bJ) {r : Int} (h : tB s_0 = some r) : Fn Try.prog 52 [.agg (bA s_0)] (.d (.lit (.int .i64 r))) := by
 unfold tB at h
 refine Fn.of_tr Try.func52 rfl (rs := [.tmp 2]) Try.results52 Try.ntmps52 (Nat.le_of_ble_eq_true rfl) ?_
 refine aH ?_
 refine aE ?_
 refine cI rfl (eU (v := .agg (bA s_0)) (aA rfl) rfl rfl rfl) ?_
 rintro _ ⟨b1, rfl⟩
 refine tr1 rfl (aK (v := .d (.lit (.int .i64 0))) (aA rfl) rfl rfl) ?_
 refine aI ?_
 refine aH ?_
 refine aE ?_
 refine tr1 rfl (aN (aA rfl) rfl wY) ?_
 refine tr1 rfl (aQ (aA rfl) rfl (i := 0) rfl rfl bL) ?_
 refine tr1 rfl (aK (v := .d (.lit (.int .i64 s_0.Low))) (aA rfl) rfl rfl) ?_
 refine aI ?_
 have h := Option.some.inj h
 subst h
 refine cT (cR (cU (l := [2]) ⟨rfl, trivial⟩)) ?_
 exact cB ⟨rfl, _, .one _, rfl, rfl⟩

theorem aFx (p_0 : cP) (order_1 : List bM) {r : (List bJ) × (List bJ) × Int} (h : xL p_0 order_1 = some r) : Fn Try.prog 17 [.agg (bK p_0), .d (.sl 3 (order_1.map aR))] (.tup [.d (.sl 2 (r.1.map bA)), .d (.sl 2 (r.2.1.map bA)), .d (.lit (.int .i64 r.2.2))]) := by
 unfold xL at h
 refine Fn.of_tr Try.func17 rfl (rs := [.tmp 4, .tmp 5, .tmp 6]) Try.results17 Try.ntmps17 (Nat.le_of_ble_eq_true rfl) ?_
 refine aH ?_
 refine aE ?_
 refine cI rfl (eU (v := .agg (bK p_0)) (aA rfl) rfl rfl rfl) ?_
 rintro _ ⟨b1, rfl⟩
 refine tr1 rfl (jO 34 2 (.inl rfl) (aA rfl)) ?_
 refine tr1 rfl (jO 34 2 (.inl rfl) (aA rfl)) ?_
 refine tr1 rfl (aK (v := .d (.lit (.int .i64 0))) (aA rfl) rfl rfl) ?_
 refine aI ?_
 refine aH ?_
 refine aH ?_
 refine aE ?_
 refine tr1 rfl (bO (aA rfl) rfl (i := 0) rfl gL (es := (bK p_0)) rfl rfl) ?_
 obtain ⟨r4, h5, h⟩ := bind_some h
 refine tr1 rfl (cQ (aA rfl) (.func _ _ Try.call25) rfl rfl (BVs.refl _ _) (uL _ h5) rfl) ?_
 refine tr1 rfl (aK (v := .d (.lit (.int .i64 r4))) (aA rfl) rfl rfl) ?_
 refine aI ?_
 refine aH ?_
 refine aE ?_
 refine tr1 rfl (aD (v := .d (.lit (.int .i64 r4))) (aA rfl) rfl rfl) ?_
 refine tr1 rfl (bP (aA rfl) rfl rfl rfl) ?_
 refine aI ?_
 refine cK rfl (fun c6 => ?_) (fun c6 => ?_)
 ·have h := bB c6 h
  refine aH ?_
  refine aE ?_
  refine tr1 rfl (aD (v := .d (.lit (.int .i64 r4))) (aA rfl) rfl rfl) ?_
  refine tr1 rfl (jO 34 2 (.inl rfl) (aA rfl)) ?_
  refine tr1 rfl (jO 34 2 (.inl rfl) (aA rfl)) ?_
  refine tr1 rfl (aK (v := .d (.lit (.int .i64 r4))) (aA rfl) rfl rfl) ?_
  refine aI ?_
  have h := Option.some.inj h
  subst h
  refine cT (cR (iG (k := 6) (v := .d (.lit (.int .i64 r4))) (.same _) (iG (k := 5) (v := .d (.sl 2 ((([] : List bJ)).map bA))) (.d (jF 4 rfl (dT (f := bA) fun _ => rfl))) (iG (k := 4) (v := .d (.sl 2 ((([] : List bJ)).map bA))) (.d (jF 3 rfl (dT (f := bA) fun _ => rfl))) (wA))))) ?_
  exact cB ⟨rfl, _, .three _ _ _, rfl, rfl⟩
 ·have h := bD c6 h
  refine cF ?_
  refine aH ?_
  refine aH ?_
  refine aE ?_
  refine tr1 rfl (bO (aA rfl) rfl (i := 0) rfl gL (es := (bK p_0)) rfl rfl) ?_
  refine tr1 rfl (aD (v := .d (.sl 3 (order_1.map aR))) (aA rfl) rfl rfl) ?_
  obtain ⟨r9, h10, h⟩ := bind_some h
  refine tr1 rfl (cQ (aA rfl) (.func _ _ Try.call50) rfl rfl (BVs.refl _ _) (wK _ _ h10) rfl) ?_
  refine tr1 rfl (fE (aA rfl) rfl) ?_
  refine aI ?_
  refine cK rfl (fun c11 => ?_) (fun c11 => ?_)
  ·have h := bB c11 h
   refine aH ?_
   refine aE ?_
   refine tr1 rfl (jO 34 2 (.inl rfl) (aA rfl)) ?_
   refine tr1 rfl (jO 34 2 (.inl rfl) (aA rfl)) ?_
   refine tr1 rfl (aK (v := .d (.lit (.int .i64 81))) (aA rfl) rfl rfl) ?_
   refine aI ?_
   have h := Option.some.inj h
   subst h
   refine cT (cR (iG (k := 6) (v := .d (.lit (.int .i64 81))) (.same _) (iG (k := 5) (v := .d (.sl 2 ((([] : List bJ)).map bA))) (.d (jF 4 rfl (dT (f := bA) fun _ => rfl))) (iG (k := 4) (v := .d (.sl 2 ((([] : List bJ)).map bA))) (.d (jF 3 rfl (dT (f := bA) fun _ => rfl))) (wA))))) ?_
   exact cB ⟨rfl, _, .three _ _ _, rfl, rfl⟩
  ·have h := bD c11 h
   refine cF ?_
   refine aH ?_
   refine aE ?_
   refine tr1 rfl (bO (aA rfl) rfl (i := 0) rfl gL (es := (bK p_0)) rfl rfl) ?_
   refine tr1 rfl (aD (v := .d (.sl 3 (order_1.map aR))) (aA rfl) rfl rfl) ?_
   obtain ⟨r15, h16, h⟩ := bind_some h
   refine tr1 rfl (iX (aA rfl) (.func _ _ Try.call51) rfl rfl (uP _ _ _ 52 [] Try.call52 (fun _ _ h => aCv _ h) h16)) ?_
   refine tr1 rfl (aD (v := .tup [.d (.sl 1 (r15.1.map aW)), .d (.sl 1 (r15.2.map aW))]) (aA rfl) rfl rfl) ?_
   refine tr1 rfl (bZ (aA rfl) rfl rfl) ?_
   refine tr1 rfl (bZ (aA rfl) rfl rfl) ?_
   refine tr1 rfl (aK (v := .d (.sl 1 (r15.1.map aW))) (aA rfl) rfl rfl) ?_
   refine tr1 rfl (aK (v := .d (.sl 1 (r15.2.map aW))) (aA rfl) rfl rfl) ?_
   refine aI ?_
   refine aH ?_
   refine aE ?_
   refine tr1 rfl (bO (aA rfl) rfl (i := 0) rfl gL (es := (bK p_0)) rfl rfl) ?_
   refine tr1 rfl (aD (v := .d (.sl 3 (order_1.map aR))) (aA rfl) rfl rfl) ?_
   obtain ⟨r18, h19, h⟩ := bind_some h
   refine tr1 rfl (iX (aA rfl) (.func _ _ Try.call51) rfl rfl (uP _ _ _ 53 [] Try.call53 (fun _ _ h => wM _ h) h19)) ?_
   refine tr1 rfl (aD (v := .tup [.d (.sl 1 (r18.1.map aW)), .d (.sl 1 (r18.2.map aW))]) (aA rfl) rfl rfl) ?_
   refine tr1 rfl (bZ (aA rfl) rfl rfl) ?_
   refine tr1 rfl (bZ (aA rfl) rfl rfl) ?_
   refine tr1 rfl (aK (v := .d (.sl 1 (r18.1.map aW))) (aA rfl) rfl rfl) ?_
   refine tr1 rfl (aK (v := .d (.sl 1 (r18.2.map aW))) (aA rfl) rfl rfl) ?_
   refine aI ?_
   refine aH ?_
   refine aH ?_
   refine aE ?_
   refine tr1 rfl (aN (aA rfl) rfl gB) ?_
   refine tr1 rfl (aQ (aA rfl) rfl (i := 0) rfl rfl jH) ?_
   refine tr1 rfl (dC (aA rfl) rfl eE.of) ?_
   refine tr1 rfl (aD (v := .d (.lit (.int .i64 0))) (aA rfl) rfl rfl) ?_
   refine aI ?_
   refine cW ?_
   refine dY [8, 9, 10, 11, 36] (fun (s20 : Int × (List bJ) × (List bJ) × Value × Value) => [(4, .d (.lit s20.2.2.2.1)), (5, .d (.lit s20.2.2.2.2)), (37, .d (.lit (.int .i64 s20.1)))]) (fun (s20 : Int × (List bJ) × (List bJ) × Value × Value) => [.arr s20.2.2.2.1 34 2 (s20.2.1.map bA), .arr s20.2.2.2.2 34 2 (s20.2.2.1.map bA)]) (fun (k : Nat) (s20 : Int × (List bJ) × (List bJ) × Value × Value) => pL r15.1 r15.2 r18.1 r18.2 (p_0.Jobs.length : Int) k s20.1 s20.2.1 s20.2.2.1) (fun _ => rfl) (0, ([] : List bJ), ([] : List bJ), (.slice none 0 0), (.slice none 0 0)) h (bI [1, 2] rfl rfl (aZ rfl (aZ rfl (aZ rfl (bC ⟨rfl, rfl, rfl, rfl, rfl, trivial⟩))))) ?_
   rintro k23 ⟨t37_0_20, begins_0_20, ends_0_20, w21, w22⟩ h
   simp only [pL] at h
   refine aH ?_
   refine aE ?_
   refine tr1 rfl (bP (aA rfl) rfl rfl rfl) ?_
   refine aI ?_
   refine aH ?_
   refine cK rfl (fun c24 => ?_) (fun c24 => ?_)
   ·have h := bB c24 h
    refine cF ?_
    refine aH ?_
    refine cW ?_
    refine aH ?_
    refine aE ?_
    refine tr1 rfl (aD (v := .d (.lit (.int .i64 t37_0_20))) (aA rfl) rfl rfl) ?_
    refine tr1 rfl (aK (v := .d (.lit (.int .i64 t37_0_20))) (aA rfl) rfl rfl) ?_
    refine aI ?_
    obtain ⟨x26, h27, h⟩ := bind_some h
    obtain ⟨x28, h29, h⟩ := bind_some h
    obtain ⟨x30, h31, h⟩ := bind_some h
    obtain ⟨x32, h33, h⟩ := bind_some h
    obtain ⟨x34, h35, h⟩ := bind_some h
    refine gI mix 23 [8, 9, 10, 11, 36, 37] (fun X25 => [(51, .d (.lit (X25 11).v)), (52, .d (.lit w22)), (62, .d (.sl 2 ((([(bJ.mk x32 x34)])).map bA)))]) (fun X25 => [.arr (X25 11).v 34 2 (x30.map bA), .arr w22 34 2 (ends_0_20.map bA)]) ?_ ?_
    ·refine ⟨0, fun X25 => [(40, 0, .d (.lit w21)), (41, 1, .d (.sl 1 (r15.1.map aW))), (42, 2, .d (.lit (.int .i64 t37_0_20))), (43, 3, .cp [.lit (.int .i64 x26)]), (44, 4, .d (.lit (.int .i64 x26))), (45, 5, .d (.sl 1 (r18.1.map aW))), (46, 6, .d (.lit (.int .i64 t37_0_20))), (47, 7, .cp [.lit (.int .i64 x28)]), (48, 8, .d (.lit (.int .i64 x28))), (49, 9, .agg (bA (bJ.mk x26 x28))), (50, 10, .d (.sl 2 ((([(bJ.mk x26 x28)])).map bA))), (51, 11, .d (.lit (X25 11).v)), (52, 12, .d (.lit w22)), (53, 13, .d (.sl 1 (r15.2.map aW))), (54, 14, .d (.lit (.int .i64 t37_0_20))), (55, 15, .cp [.lit (.int .i64 x32)]), (56, 16, .d (.lit (.int .i64 x32))), (57, 17, .d (.sl 1 (r18.2.map aW))), (58, 18, .d (.lit (.int .i64 t37_0_20))), (59, 19, .cp [.lit (.int .i64 x34)]), (60, 20, .d (.lit (.int .i64 x34))), (61, 21, .agg (bA (bJ.mk x32 x34))), (62, 22, .d (.sl 2 ((([(bJ.mk x32 x34)])).map bA)))], fun X25 => [([(11, .arr (X25 11).v 34 2 (x30.map bA))], .arr w21 34 2 (begins_0_20.map bA)), ([], .arr w22 34 2 (ends_0_20.map bA))], ?_, ?_⟩
     · exact ⟨by kernel_rfl, by kernel_rfl, by kernel_rfl, fun _ => by kernel_rfl, fun _ => by kernel_rfl, fun _ => by kernel_rfl, fun _ => rfl, [([], [11]), ([], [11]), ([], [11]), ([1, 2], [11]), ([3], [11]), ([], [11]), ([], [11]), ([5, 6], [11]), ([7], [11]), ([4, 8], [11]), ([9], [11]), ([0, 10], []), ([], []), ([], []), ([], []), ([13, 14], []), ([15], []), ([], []), ([], []), ([17, 18], []), ([19], []), ([16, 20], []), ([21], [])], by kernel_rfl, ⟨fun X25 S hw hi hS => bE (X := X25) rfl (hw X25) rfl (aL rfl (aD (v := .d (.lit w21)) (aA rfl) (aC hS rfl) rfl)),
      fun X25 S hw hi hS => bE (X := X25) rfl (hw X25) rfl (aL rfl (aD (v := .d (.sl 1 (r15.1.map aW))) (aA rfl) (aC hS rfl) rfl)),
      fun X25 S hw hi hS => bE (X := X25) rfl (hw X25) rfl (aL rfl (aD (v := .d (.lit (.int .i64 t37_0_20))) (aA rfl) (aC hS rfl) rfl)),
      fun X25 S hw hi hS => bE (X := X25) rfl (hw X25) rfl (aL rfl (bU (aA rfl) (aC hS rfl) (aC hS rfl) dV.of (cE aW h27))),
      fun X25 S hw hi hS => bE (X := X25) rfl (hw X25) rfl (aL rfl (cJ (aA rfl) (aC hS rfl) bL)),
      fun X25 S hw hi hS => bE (X := X25) rfl (hw X25) rfl (aL rfl (aD (v := .d (.sl 1 (r18.1.map aW))) (aA rfl) (aC hS rfl) rfl)),
      fun X25 S hw hi hS => bE (X := X25) rfl (hw X25) rfl (aL rfl (aD (v := .d (.lit (.int .i64 t37_0_20))) (aA rfl) (aC hS rfl) rfl)),
      fun X25 S hw hi hS => bE (X := X25) rfl (hw X25) rfl (aL rfl (bU (aA rfl) (aC hS rfl) (aC hS rfl) dV.of (cE aW h29))),
      fun X25 S hw hi hS => bE (X := X25) rfl (hw X25) rfl (aL rfl (cJ (aA rfl) (aC hS rfl) bL)),
      fun X25 S hw hi hS => bE (X := X25) rfl (hw X25) rfl (aL rfl (eD (aA rfl) pG (zs := [.lit (.int .i64 0), .lit (.int .i64 0)]) rfl rfl rfl (pa2 (aC hS rfl) (pa2 (aC hS rfl) pan)) (es := [.lit (.int .i64 x26), .lit (.int .i64 x28)]) rfl)),
      fun X25 S hw hi hS => bE (X := X25) rfl (hw X25) rfl (aL rfl (jJ (aA rfl) kC rfl (pa2 (aC hS rfl) pan) (rows := ([(bJ.mk x26 x28)]).map bA) rfl (dT (f := bA) fun _ => rfl) rfl (by decide))),
      fun X25 S hw hi hS => rC (X := X25) (p := 0) (v := fun x => .d (.lit x.v)) (mo := fun x => .arr x.v 34 2 (x30.map bA)) hS hi rfl rfl (fun _ => rfl) hw (fun _ => rfl) (fun _ => rfl) (fun _ => rfl) (fun _ => ⟨rfl, rfl, .inr rfl, ⟨rfl, rfl, .inr rfl, ⟨rfl, rfl, .inr rfl, ⟨rfl, rfl, .inr rfl, ⟨rfl, rfl, .inr rfl, ⟨rfl, rfl, .inr rfl, ⟨rfl, rfl, .inr rfl, ⟨rfl, rfl, .inr rfl, ⟨rfl, rfl, .inr rfl, ⟨rfl, rfl, .inr rfl, ⟨rfl, rfl, .inr rfl, ⟨rfl, rfl, .inl rfl, ⟨rfl, rfl, .inr rfl, ⟨rfl, rfl, .inr rfl, ⟨rfl, rfl, .inr rfl, ⟨rfl, rfl, .inr rfl, ⟨rfl, rfl, .inr rfl, ⟨rfl, rfl, .inr rfl, ⟨rfl, rfl, .inr rfl, ⟨rfl, rfl, .inr rfl, ⟨rfl, rfl, .inr rfl, ⟨rfl, rfl, .inr rfl, ⟨rfl, rfl, .inr rfl, trivial⟩⟩⟩⟩⟩⟩⟩⟩⟩⟩⟩⟩⟩⟩⟩⟩⟩⟩⟩⟩⟩⟩⟩) (fun _ => ⟨⟨rfl, .inl rfl, trivial⟩, rfl, ⟨trivial, rfl, trivial⟩⟩) (gW (mJ (i := 0) (aA rfl) kC (aC hS rfl) (og hS rfl rfl) (aC hS rfl) (fun _ => rfl) h31 rfl) (by rintro _ ⟨w, rfl⟩; exact ⟨⟨0, w⟩, Ent.refl _⟩)),
      fun X25 S hw hi hS => bE (X := X25) rfl (hw X25) rfl (aL rfl (aD (v := .d (.lit w22)) (aA rfl) (aC hS rfl) rfl)),
      fun X25 S hw hi hS => bE (X := X25) rfl (hw X25) rfl (aL rfl (aD (v := .d (.sl 1 (r15.2.map aW))) (aA rfl) (aC hS rfl) rfl)),
      fun X25 S hw hi hS => bE (X := X25) rfl (hw X25) rfl (aL rfl (aD (v := .d (.lit (.int .i64 t37_0_20))) (aA rfl) (aC hS rfl) rfl)),
      fun X25 S hw hi hS => bE (X := X25) rfl (hw X25) rfl (aL rfl (bU (aA rfl) (aC hS rfl) (aC hS rfl) dV.of (cE aW h33))),
      fun X25 S hw hi hS => bE (X := X25) rfl (hw X25) rfl (aL rfl (cJ (aA rfl) (aC hS rfl) bL)),
      fun X25 S hw hi hS => bE (X := X25) rfl (hw X25) rfl (aL rfl (aD (v := .d (.sl 1 (r18.2.map aW))) (aA rfl) (aC hS rfl) rfl)),
      fun X25 S hw hi hS => bE (X := X25) rfl (hw X25) rfl (aL rfl (aD (v := .d (.lit (.int .i64 t37_0_20))) (aA rfl) (aC hS rfl) rfl)),
      fun X25 S hw hi hS => bE (X := X25) rfl (hw X25) rfl (aL rfl (bU (aA rfl) (aC hS rfl) (aC hS rfl) dV.of (cE aW h35))),
      fun X25 S hw hi hS => bE (X := X25) rfl (hw X25) rfl (aL rfl (cJ (aA rfl) (aC hS rfl) bL)),
      fun X25 S hw hi hS => bE (X := X25) rfl (hw X25) rfl (aL rfl (eD (aA rfl) pG (zs := [.lit (.int .i64 0), .lit (.int .i64 0)]) rfl rfl rfl (pa2 (aC hS rfl) (pa2 (aC hS rfl) pan)) (es := [.lit (.int .i64 x32), .lit (.int .i64 x34)]) rfl)),
      fun X25 S hw hi hS => bE (X := X25) rfl (hw X25) rfl (aL rfl (jJ (aA rfl) kC rfl (pa2 (aC hS rfl) pan) (rows := ([(bJ.mk x32 x34)]).map bA) rfl (dT (f := bA) fun _ => rfl) rfl (by decide))), trivial⟩⟩
     · exact fun X25 => dB (aZ rfl (aZ rfl (aZ rfl (bC ⟨rfl, rfl, rfl, rfl, rfl, rfl, trivial⟩))))
    ·intro X25
     obtain ⟨x36, h37, h⟩ := bind_some h
     refine cI rfl (mJ (i := 1) (aA rfl) kC rfl rfl rfl (fun _ => rfl) h37 rfl) ?_
     rintro _ ⟨v38, rfl⟩
     refine tr1 rfl (aK (v := .d (.lit (X25 11).v)) (aA rfl) rfl rfl) ?_
     refine tr1 rfl (aK (v := .d (.lit v38)) (aA rfl) rfl rfl) ?_
     refine lA ?_
     refine aE ?_
     refine tr1 rfl (cG (aA rfl) rfl rfl rfl) ?_
     refine tr1 rfl (aD (v := .d (.lit (.int .i64 ((w64 (t37_0_20 + 1)))))) (aA rfl) rfl rfl) ?_
     refine aI ?_
     exact ⟨(w64 (t37_0_20 + 1), x30, x36, (X25 11).v, v38), h, bI [0, 1] rfl rfl (aZ rfl (aZ rfl (aZ rfl (bC ⟨rfl, rfl, rfl, rfl, rfl, trivial⟩))))⟩
   ·have h := bD c24 h
    refine dO ?_
    refine .inl ⟨rfl, ?_⟩
    simp only [xZ] at h
    refine aH ?_
    refine aE ?_
    refine tr1 rfl (aD (v := .d (.lit w21)) (aA rfl) rfl rfl) ?_
    refine tr1 rfl (aD (v := .d (.lit w22)) (aA rfl) rfl rfl) ?_
    refine tr1 rfl (aK (v := .d (.lit w21)) (aA rfl) rfl rfl) ?_
    refine tr1 rfl (aK (v := .d (.lit w22)) (aA rfl) rfl rfl) ?_
    refine tr1 rfl (aK (v := .d (.lit (.int .i64 0))) (aA rfl) rfl rfl) ?_
    refine aI ?_
    have h := Option.some.inj h
    subst h
    refine cT (cR (iG (k := 6) (v := .d (.lit (.int .i64 0))) (.same _) (iG (k := 5) (v := .d (.sl 2 (ends_0_20.map bA))) (.d (jF 1 rfl (dT (f := bA) fun _ => rfl))) (iG (k := 4) (v := .d (.sl 2 (begins_0_20.map bA))) (.d (jF 0 rfl (dT (f := bA) fun _ => rfl))) (wA))))) ?_
    exact cB ⟨rfl, _, .three _ _ _, rfl, rfl⟩

end Go.Am
