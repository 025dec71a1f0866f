/- The functions compute what the shallow ones say: printed by program. -/
import Derived.Test.YtfdappeickbpeaaGreatEnSh
import Derived.Test.YtfdappeickbpeaaGreatAmVal
import Derived.Test.YtfdappeickbpeaaGreatAmRange
import Derived.Test.YtfdappeickbpeaaGreatAmSort
import Derived.Test.YtfdappeickbpeaaGreatEnShelf
import Derived.Test.YtfdappeickbpeaaGreatAmEnt
import Derived.Test.YtfdappeickbpeaaGreatAmSortF
import Derived.Test.YtfdappeickbpeaaGreatAmRangeC
import Derived.Test.YtfdappeickbpeaaGreatAmSub
import Derived.Test.YtfdappeickbpeaaGreatEnDet
import Derived.Test.YtfdappeickbpeaaGreatChecked
import Derived.Test.YtfdappeickbpeaaGreatAmShort
import Derived.KernelRfl
namespace Go.Am
open Go.Proofs
set_option maxRecDepth 100000
set_option maxHeartbeats 40000000

abbrev D.j (n : Int) : D := .lit (.int .i64 n)
abbrev D.k (b : Bool) : D := .lit (.bool b)
abbrev VI (n : Int) : Value := .int .i64 n
abbrev Z0 (p0 : aG) (p1 : aH) := aE p0.Player (aA.mk false false 0 0 false false false false) p1.players
abbrev Z1 (p0 : aH) : AV := .cp [.j p0.Field.Places, .j p0.Field.Wilds, .j p0.Field.Guards, .j p0.Field.Close, .j p0.Field.Freeze, .mp true (p0.players.map fun p : Int × aA => (VI p.1, aB p.2)), .sl 1 (p0.wilds.map aI), .k p0.frozen, .sl 1 (p0.first.map aI), .sl 1 (p0.late.map aI), .j p0.more, .j p0.entered]
abbrev Z2 := aA.mk false false 0 0 false false false false
abbrev Z3 (p0 : aG) (p1 : aH) := aA.mk ((Z0 p0 p1).entered) ((Z0 p0 p1).guard) ((Z0 p0 p1).rank) ((Z0 p0 p1).turn) true ((Z0 p0 p1).signed) false ((Z0 p0 p1).had)
abbrev Z4 (p0 : Nat) (p1 : Nat) (p2 : aH) (p3 : Nat) (p4 : Value) (p5 : Value) (p6 : Value) (p7 : aG) (p8 : List Nat) (p9 : Nat) : List MO := [.box p0 p1 [.j p2.Field.Places, .j p2.Field.Wilds, .j p2.Field.Guards, .j p2.Field.Close, .j p2.Field.Freeze, .lit (.map (some p3)), .lit p4, .k p2.frozen, .lit p5, .lit p6, .j p2.more, .j p2.entered], .map p3 ((bY p7.Player (Z0 p7 p2) p2.players).map fun p : Int × aA => (VI p.1, (fun v : aA => AV.agg (aB v)) p.2)) (mbs p7.Player p2.players p8 p9) (mck p7.Player p2.players p9), .arr p4 3 1 (p2.wilds.map aI), .arr p5 3 1 (p2.first.map aI), .arr p6 3 1 (p2.late.map aI)]
abbrev Z5 (p0 : aG) (p1 : aH) := aA.mk ((Z0 p0 p1).entered) ((Z0 p0 p1).guard) ((Z0 p0 p1).rank) ((Z0 p0 p1).turn) ((Z0 p0 p1).quit) ((Z0 p0 p1).signed) true true
abbrev Z6 (p0 : aG) (p1 : aH) := aA.mk true (decide (p0.Kind = 2)) p0.Rank (w64 (p1.entered + 1)) ((Z0 p0 p1).quit) ((Z0 p0 p1).signed) ((Z0 p0 p1).wild) ((Z0 p0 p1).had)
abbrev Z7 (p0 : aG) (p1 : aH) := aA.mk ((Z0 p0 p1).entered) ((Z0 p0 p1).guard) ((Z0 p0 p1).rank) ((Z0 p0 p1).turn) ((Z0 p0 p1).quit) true ((Z0 p0 p1).wild) ((Z0 p0 p1).had)
abbrev Z8 (p0 : Nat) (p1 : Nat) (p2 : aH) (p3 : Nat) (p4 : Value) (p5 : Value) (p6 : Value) (p7 : List Nat) (p8 : Nat) : List MO := [.box p0 p1 [.j p2.Field.Places, .j p2.Field.Wilds, .j p2.Field.Guards, .j p2.Field.Close, .j p2.Field.Freeze, .lit (.map (some p3)), .lit p4, .k p2.frozen, .lit p5, .lit p6, .j p2.more, .j p2.entered], .map p3 (p2.players.map fun p : Int × aA => (VI p.1, (fun v : aA => AV.agg (aB v)) p.2)) p7 p8, .arr p4 3 1 (p2.wilds.map aI), .arr p5 3 1 (p2.first.map aI), .arr p6 3 1 (p2.late.map aI)]
abbrev Z9 (p0 : aH) := p0.first.map aI
abbrev Z10 (p0 : aH) := p0.wilds.map aI
abbrev Z11 (p0 : aG) (p1 : aH) := aB (aA.mk true (decide (p0.Kind = 2)) p0.Rank ((Z0 p0 p1).turn) ((Z0 p0 p1).quit) ((Z0 p0 p1).signed) ((Z0 p0 p1).wild) ((Z0 p0 p1).had))
abbrev Z12 (p0 : List aG) : D := .sl 5 (p0.map aJ)
abbrev Z13 (p0 : aG) (p1 : aH) := decide (p0.Hour ≤ p1.Field.Freeze)
abbrev Z14 : List D := [.sl 1 ((([] : List Int)).map aI), .sl 1 ((([] : List Int)).map aI), .sl 1 ((([] : List Int)).map aI), .j 0]
abbrev Z15 (p0 : aH) := p0.late.map aI
abbrev Z16 (p0 : Nat) : D := .lit (.map (some p0))
abbrev Z17 (p0 : Int) (p1 : aH) := aE p0 Z2 p1.players
abbrev Z18 : AV := .b false
abbrev Z19 (p0 : aG) : List AV := [.cp [.j p0.Id, .j p0.Hour, .j p0.Kind, .j p0.Player, .j p0.Rank]]
abbrev Z20 (p0 : aG) (p1 : aH) := aB (aA.mk true (decide (p0.Kind = 2)) ((Z0 p0 p1).rank) ((Z0 p0 p1).turn) ((Z0 p0 p1).quit) ((Z0 p0 p1).signed) ((Z0 p0 p1).wild) ((Z0 p0 p1).had))
abbrev Z21 (p0 : aG) (p1 : aH) := aB (aA.mk ((Z0 p0 p1).entered) ((Z0 p0 p1).guard) ((Z0 p0 p1).rank) ((Z0 p0 p1).turn) true ((Z0 p0 p1).signed) ((Z0 p0 p1).wild) ((Z0 p0 p1).had))
abbrev Z22 : List MO := [.arr (.slice none 0 0) 3 1 (([] : List Int).map aI)]
abbrev Z23 (p0 : aG) (p1 : aH) := aB (aA.mk true ((Z0 p0 p1).guard) ((Z0 p0 p1).rank) ((Z0 p0 p1).turn) ((Z0 p0 p1).quit) ((Z0 p0 p1).signed) ((Z0 p0 p1).wild) ((Z0 p0 p1).had))
abbrev Z24 (p0 : aG) (p1 : aH) (p2 : Nat) := mck p0.Player p1.players p2
abbrev Z25 (p0 : aG) (p1 : aH) (p2 : List Nat) (p3 : Nat) := mbs p0.Player p1.players p2 p3
abbrev Z26 (p0 : List Int) : D := .sl 1 (p0.map aI)
abbrev Z27 (p0 : aH) : List AV := [.cp [.j p0.Field.Places, .j p0.Field.Wilds, .j p0.Field.Guards, .j p0.Field.Close, .j p0.Field.Freeze, .mp true (p0.players.map fun p : Int × aA => (VI p.1, aB p.2)), .sl 1 (Z10 p0), .k p0.frozen, .sl 1 (Z9 p0), .sl 1 (Z15 p0), .j p0.more, .j p0.entered]]
abbrev Z28 (p0 : aG) (p1 : aH) := (Z0 p0 p1).wild
abbrev Z29 (p0 : aH) := decide ((p0.wilds.length : Int) < p0.Field.Wilds)
abbrev Z30 (p0 : Nat) (p1 : Nat) (p2 : aH) (p3 : Nat) (p4 : Value) (p5 : Value) (p6 : Value) (p7 : aG) (p8 : List Nat) (p9 : Nat) : List MO := [.box p0 p1 [.j p2.Field.Places, .j p2.Field.Wilds, .j p2.Field.Guards, .j p2.Field.Close, .j p2.Field.Freeze, .lit (.map (some p3)), .lit p4, .k p2.frozen, .lit p5, .lit p6, .j p2.more, .j (w64 (p2.entered + 1))], .map p3 ((bY p7.Player (Z6 p7 p2) p2.players).map fun p : Int × aA => (VI p.1, (fun v : aA => AV.agg (aB v)) p.2)) (Z25 p7 p2 p8 p9) (Z24 p7 p2 p9), .arr p4 3 1 (Z10 p2), .arr p5 3 1 (Z9 p2), .arr p6 3 1 (Z15 p2)]
abbrev Z31 := aX (aP.mk 3 1 1 10 20)
abbrev Z32 : D := .lit (.slice none 0 0)
abbrev Z33 (p0 : Nat) (p1 : Nat) (p2 : aH) (p3 : Nat) (p4 : Value) (p5 : Value) (p6 : Value) (p7 : aG) (p8 : List Nat) (p9 : Nat) : List MO := [.box p0 p1 [.j p2.Field.Places, .j p2.Field.Wilds, .j p2.Field.Guards, .j p2.Field.Close, .j p2.Field.Freeze, .lit (.map (some p3)), .lit p4, .k p2.frozen, .lit p5, .lit p6, .j p2.more, .j p2.entered], .map p3 ((bY p7.Player (Z7 p7 p2) p2.players).map fun p : Int × aA => (VI p.1, (fun v : aA => AV.agg (aB v)) p.2)) (Z25 p7 p2 p8 p9) (Z24 p7 p2 p9), .arr p4 3 1 (Z10 p2), .arr p5 3 1 (Z9 p2), .arr p6 3 1 (Z15 p2)]
abbrev Z34 (p0 : aH) (p1 : Value) (p2 : Value) (p3 : Value) : List AV := [.cp [.pt [.j p0.Field.Places, .j p0.Field.Wilds, .j p0.Field.Guards, .j p0.Field.Close, .j p0.Field.Freeze, .mp true (p0.players.map fun p : Int × aA => (VI p.1, aB p.2)), .lit p1, .k p0.frozen, .lit p2, .lit p3, .j p0.more, .j p0.entered]]]
abbrev Z35 (p0 : List aG) : AV := .d (Z12 p0)
abbrev Z36 := gB (gM.mk ([] : List Int) ([] : List Int) ([] : List Int) 0)
abbrev Z37 : AV := .b true
abbrev Z38 (p0 : aH) := w64 (p0.entered + 1)
abbrev Z39 (p0 : aG) (p1 : aH) := (Z0 p0 p1).quit
abbrev Z40 : List MO := [.arr (.slice none 0 0) 32 5 (([] : List aG).map aJ)]
abbrev Z41 (p0 : aH) (p1 : aG) := decide (p0.Field.Freeze < p1.Hour)
abbrev Z42 (p0 : aG) (p1 : aH) := aB (aA.mk ((Z0 p0 p1).entered) ((Z0 p0 p1).guard) ((Z0 p0 p1).rank) ((Z0 p0 p1).turn) (Z39 p0 p1) ((Z0 p0 p1).signed) true ((Z0 p0 p1).had))
abbrev Z43 (p0 : List aG) : List AV := [.cp [.sl 5 (p0.map aJ)]]
abbrev Z44 (p0 : Int) (p1 : aH) := (Z17 p0 p1).signed
abbrev Z45 := lV bA (none : Option aH)
abbrev Z46 (p0 : aG) (p1 : aH) := aB (Z0 p0 p1)
abbrev Z47 (p0 : aH) := w64 (p0.more + 1)
abbrev Z48 : List D := [.sl 1 ((([] : List Int)).map aI)]
abbrev Z49 := aG.mk 0 0 0 0 0
abbrev Z50 (p0 : aG) (p1 : aH) : AV := .b (!(Z28 p0 p1))
abbrev Z51 (p0 : Value) : AV := .d (.lit p0)
abbrev Z52 (p0 : aG) (p1 : aH) := aB (Z3 p0 p1)
abbrev Z53 (p0 : aG) : AV := .b (decide (p0.Kind = 3))
abbrev Z54 (p0 : aG) : AV := .b (decide (p0.Kind = 4))
abbrev Z55 (p0 : aG) : AV := .b (decide (p0.Kind = 5))
abbrev Z56 := List Int
abbrev Z57 (p0 : aG) := decide (p0.Kind = 2)
abbrev Z58 (p0 : List Int) : AV := .d (Z26 p0)
abbrev Z59 : AV := .b (false)
abbrev Z60 (p0 : aG) (p1 : aH) := bY p0.Player (Z3 p0 p1) p1.players
theorem mix : Tryz.prog.follows .mixedOrders = true := Checked.mixed Tryz.checked

theorem jU : oA Tryz.prog 23 5 := ⟨Tryz.isAgg23, Tryz.sizeOf23⟩
theorem dG : SliceTy Tryz.prog 24 32 5 40 (.agg #[.int .i64 0, .int .i64 0, .int .i64 0, .int .i64 0, .int .i64 0]) := ⟨Tryz.underlying24, ⟨Tryz.t32, by kernel_rfl, rfl, rfl, rfl⟩, rfl, by decide⟩
theorem aV : lI Tryz.prog 3 := ⟨Tryz.isAgg3, Tryz.sizeOf3⟩
theorem cX : lI Tryz.prog 25 := ⟨Tryz.isAgg25, Tryz.sizeOf25⟩
theorem bS : SliceTy Tryz.prog 25 3 1 8 (.int .i64 0) := ⟨Tryz.underlying25, ⟨Tryz.t3, by kernel_rfl, rfl, rfl, rfl⟩, rfl, by decide⟩
theorem jJ : oA Tryz.prog 32 5 := ⟨Tryz.isAgg32, Tryz.sizeOf32⟩
theorem eU : cI Tryz.prog 32 1 1 := bZ Tryz.runUnderlying32 rfl rfl Tryz.sizeOf3
theorem aNm : oA Tryz.prog 34 4 := ⟨Tryz.isAgg34, Tryz.sizeOf34⟩
theorem aDg : cI Tryz.prog 23 0 0 := bZ Tryz.runUnderlying23 rfl rfl Tryz.sizeOf3
theorem zB : cI Tryz.prog 23 1 1 := bZ Tryz.runUnderlying23 rfl rfl Tryz.sizeOf3
theorem pD : cI Tryz.prog 23 2 2 := bZ Tryz.runUnderlying23 rfl rfl Tryz.sizeOf3
theorem tX : cI Tryz.prog 23 3 3 := bZ Tryz.runUnderlying23 rfl rfl Tryz.sizeOf3
theorem jT : cI Tryz.prog 23 4 4 := bZ Tryz.runUnderlying23 rfl rfl Tryz.sizeOf3
theorem iI : cI Tryz.prog 32 0 0 := bZ Tryz.runUnderlying32 rfl rfl Tryz.sizeOf3
theorem aDz : aHw Tryz.prog 32 aJ := by
  rintro ⟨a0, a1, a2, a3, a4⟩ ⟨b0, b1, b2, b3, b4⟩ w
  simp [aJ, cE, go_sem, Op.eqFields, Program.fieldsOf] <;> (repeat' split) <;> simp_all
theorem eH : cI Tryz.prog 32 3 3 := bZ Tryz.runUnderlying32 rfl rfl Tryz.sizeOf3
theorem wQ : cI Tryz.prog 32 2 2 := bZ Tryz.runUnderlying32 rfl rfl Tryz.sizeOf3
theorem mA : cI Tryz.prog 32 4 4 := bZ Tryz.runUnderlying32 rfl rfl Tryz.sizeOf3
theorem nY : cI Tryz.prog 34 0 0 := bZ Tryz.runUnderlying34 rfl rfl Tryz.sizeOf25
theorem aQk : cI Tryz.prog 34 1 1 := bZ Tryz.runUnderlying34 rfl rfl Tryz.sizeOf25
theorem aQl : cI Tryz.prog 34 2 2 := bZ Tryz.runUnderlying34 rfl rfl Tryz.sizeOf25
theorem aUs : tV Tryz.prog 23 (.agg #[.int .i64 0, .int .i64 0, .int .i64 0, .int .i64 0, .int .i64 0]) [(0, 1), (1, 1), (2, 1), (3, 1), (4, 1)] := ⟨Tryz.zeroValue23, _, Tryz.runUnderlying23, fun w => by simp [Tryz.sizeOf3]⟩
theorem aPq : tV Tryz.prog 32 (.agg #[.int .i64 0, .int .i64 0, .int .i64 0, .int .i64 0, .int .i64 0]) [(0, 1), (1, 1), (2, 1), (3, 1), (4, 1)] := ⟨Tryz.zeroValue32, _, Tryz.runUnderlying32, fun w => by simp [Tryz.sizeOf3]⟩
theorem aPr : tV Tryz.prog 34 (.agg #[.slice none 0 0, .slice none 0 0, .slice none 0 0, .int .i64 0]) [(0, 1), (1, 1), (2, 1), (3, 1)] := ⟨Tryz.zeroValue34, _, Tryz.runUnderlying34, fun w => by simp [Tryz.sizeOf25, Tryz.sizeOf3]⟩
theorem iV : cI Tryz.prog 70 2 6 := bZ Tryz.runUnderlying70 rfl rfl Tryz.sizeOf25
theorem gO : sV Tryz.prog 3 VI := aOs Tryz.underlying3
theorem aUt : tV Tryz.prog 70 (.agg #[.int .i64 0, .int .i64 0, .int .i64 0, .int .i64 0, .int .i64 0, .map none, .slice none 0 0, .bool false, .slice none 0 0, .slice none 0 0, .int .i64 0, .int .i64 0]) [(0, 5), (5, 1), (6, 1), (7, 1), (8, 1), (9, 1), (10, 1), (11, 1)] := ⟨Tryz.zeroValue70, _, Tryz.runUnderlying70, fun w => by simp [Tryz.sizeOf23, Tryz.sizeOf25, Tryz.sizeOf3, Tryz.sizeOf4, Tryz.sizeOf68]⟩
theorem sL : cI Tryz.prog 70 3 7 := bZ Tryz.runUnderlying70 rfl rfl Tryz.sizeOf4
theorem eV : lI Tryz.prog 4 := ⟨Tryz.isAgg4, Tryz.sizeOf4⟩
theorem aJk : lI Tryz.prog 24 := ⟨Tryz.isAgg24, Tryz.sizeOf24⟩
theorem wR : cI Tryz.prog 70 4 8 := bZ Tryz.runUnderlying70 rfl rfl Tryz.sizeOf25
theorem dL : cI Tryz.prog 70 1 5 := bZ Tryz.runUnderlying70 rfl rfl Tryz.sizeOf68
theorem fF : lI Tryz.prog 68 := ⟨Tryz.isAgg68, Tryz.sizeOf68⟩
theorem fI : cI Tryz.prog 70 0 0 := bZ Tryz.runUnderlying70 rfl rfl Tryz.sizeOf23
theorem wS : cI Tryz.prog 70 6 10 := bZ Tryz.runUnderlying70 rfl rfl Tryz.sizeOf3
theorem gK : lI Tryz.prog 64 := ⟨Tryz.isAgg64, Tryz.sizeOf64⟩
theorem wT : cI Tryz.prog 94 0 0 := bZ Tryz.runUnderlying94 rfl rfl Tryz.sizeOf4
theorem pE : cI Tryz.prog 94 4 4 := bZ Tryz.runUnderlying94 rfl rfl Tryz.sizeOf4
theorem aDh : cI Tryz.prog 94 7 7 := bZ Tryz.runUnderlying94 rfl rfl Tryz.sizeOf4
theorem kV : oA Tryz.prog 94 8 := ⟨Tryz.isAgg94, Tryz.sizeOf94⟩
theorem wU : cI Tryz.prog 94 2 2 := bZ Tryz.runUnderlying94 rfl rfl Tryz.sizeOf3
theorem zD : cI Tryz.prog 94 3 3 := bZ Tryz.runUnderlying94 rfl rfl Tryz.sizeOf3
theorem uA : cI Tryz.prog 70 7 11 := bZ Tryz.runUnderlying70 rfl rfl Tryz.sizeOf3
theorem zC : cI Tryz.prog 94 1 1 := bZ Tryz.runUnderlying94 rfl rfl Tryz.sizeOf4
theorem iW : cI Tryz.prog 94 6 6 := bZ Tryz.runUnderlying94 rfl rfl Tryz.sizeOf4
theorem uB : cI Tryz.prog 94 5 5 := bZ Tryz.runUnderlying94 rfl rfl Tryz.sizeOf4
theorem tZ : cI Tryz.prog 70 5 9 := bZ Tryz.runUnderlying70 rfl rfl Tryz.sizeOf25
theorem tJ : SliceTy Tryz.prog 106 25 1 24 (.slice none 0 0) := ⟨Tryz.underlying106, ⟨Tryz.t25, by kernel_rfl, rfl, rfl, rfl⟩, rfl, by decide⟩
theorem aTp : tV Tryz.prog 110 (.agg #[.int .i64 0, .int .i64 0, .int .i64 0, .int .i64 0]) [(0, 1), (1, 1), (2, 1), (3, 1)] := ⟨Tryz.zeroValue110, _, Tryz.runUnderlying110, fun w => by simp [Tryz.sizeOf3]⟩
theorem vI : SliceTy Tryz.prog 112 110 4 32 (.agg #[.int .i64 0, .int .i64 0, .int .i64 0, .int .i64 0]) := ⟨Tryz.underlying112, ⟨Tryz.t110, by kernel_rfl, rfl, rfl, rfl⟩, rfl, by decide⟩
theorem kN : oA Tryz.prog 110 4 := ⟨Tryz.isAgg110, Tryz.sizeOf110⟩
theorem oO : cI Tryz.prog 110 1 1 := bZ Tryz.runUnderlying110 rfl rfl Tryz.sizeOf3
theorem qR : cI Tryz.prog 110 0 0 := bZ Tryz.runUnderlying110 rfl rfl Tryz.sizeOf3
theorem aSx : aHw Tryz.prog 110 aQ := by
  rintro ⟨a0, a1, a2, a3⟩ ⟨b0, b1, b2, b3⟩ w
  simp [aQ, cE, go_sem, Op.eqFields, Program.fieldsOf] <;> (repeat' split) <;> simp_all
theorem aSp (b : Bool) (a : aO) (w : World) : (Instr.checkKey b 10000 110 (.agg ((aQ a).map cE).toArray)).run Tryz.prog w = .ok () w := by
  obtain ⟨a1, a2, a3, a4⟩ := a;rw [show (10000 : Nat) = 9990 + 10 from rfl]
  generalize (9990 : Nat) = m
  simp [Instr.checkKey, aQ, cE, go_sem, Std.Legacy.Range.forIn_eq_forIn_range', Std.Legacy.Range.size]
theorem wD : sV Tryz.prog 110 (fun a : aO => Value.agg ((aQ a).map cE).toArray) :=
  aIz Tryz.underlying110 aSx aSp (fun a w => aQp _ rfl _ _) (by
    rintro ⟨a1, a2, a3, a4⟩ ⟨b1, b2, b3, b4⟩ h
    simp [aQ] at h ⊢
    simp_all) (fun _ => rfl)
theorem aAt : cI Tryz.prog 110 3 3 := bZ Tryz.runUnderlying110 rfl rfl Tryz.sizeOf3
theorem aAs : cI Tryz.prog 110 2 2 := bZ Tryz.runUnderlying110 rfl rfl Tryz.sizeOf3
theorem nZ : cI Tryz.prog 48 0 0 := bZ Tryz.runUnderlying48 rfl rfl Tryz.sizeOf3
theorem tY : cI Tryz.prog 48 2 2 := bZ Tryz.runUnderlying48 rfl rfl Tryz.sizeOf25
theorem sK : cI Tryz.prog 48 1 1 := bZ Tryz.runUnderlying48 rfl rfl Tryz.sizeOf3

theorem aDb (a : List aG) {r : Bool} (h : oD a = some r) : Fn Tryz.prog 20 [.d (Z12 a)] (.b r) := by
 unfold oD at h;refine oT [.tmp 2] Tryz.func20 Tryz.results20 Tryz.ntmps20 ?_;refine aF (aC (ta Z18 (aD (aF (aC (tm (Z35 a) (to (sle rfl dG.of) (to (scm rfl rfl rfl) (tm (.b (decide (20 < (a.length : Int)))) ?_)))))))));obtain ⟨b1, h2, h⟩ := bns h;refine bG 4 [0] 10 b1 ?_ ?_
 ·refine bch h2 (fun c6 h2 => ?_) (fun c6 h2 => ?_)
  ·refine tk c6 (sm (Z35 a)) (tk c6 (sle rfl dG.of) (tk c6 (scm rfl rfl rfl) (to (spt (.b (decide ((a.length : Int) ≤ 60))) c6) ?_)));obtain rfl := sIn h2;refine aD (aS rfl ⟨rfl, trivial⟩ rfl)
  ·refine tp c6 (tp c6 (tp c6 (to (spf Z18 c6) ?_)));obtain rfl := sIn h2;refine aD (aS rfl ⟨rfl, trivial⟩ rfl)
 ·refine tm (.b b1) ?_;obtain ⟨b3, h4, h⟩ := bns h;refine bG 4 [] 15 b3 ?_ ?_
  ·refine bch h4 (fun c5 h4 => ?_) (fun c5 h4 => ?_)
   ·refine tp c5 (tp c5 (tp c5 (to (spt Z37 c5) ?_)));obtain rfl := sIn h4;refine aD (aS rfl trivial rfl)
   ·refine tk c5 (sm (Z35 a)) (tk c5 (sle rfl dG.of) (tk c5 (scm rfl rfl rfl) (to (spf (.b (decide (100 < (a.length : Int)))) c5) ?_)));obtain rfl := sIn h4;refine aD (aS rfl trivial rfl)
  ·refine ta (.b b3) (aD ?_);obtain rfl := sIn h;exact rt

theorem eK (d : Int) (c : Int) (a : Int) {r : Bool} (h : cH d c a = some r) : Fn Tryz.prog 42 [.i d, .i c, .i a] (.b r) := by
 unfold cH at h;refine oT [.tmp 6] Tryz.func42 Tryz.results42 Tryz.ntmps42 ?_;refine aF (aC (ta Z18 (aD (aF (aC (tm (.i d) (tm (.i c) (to (scm rfl rfl rfl) (tm (.b (decide (c ≤ d))) ?_)))))))));obtain ⟨b1, h2, h⟩ := bns h;refine bG 4 [] 14 b1 ?_ ?_
 ·refine bch h2 (fun c3 h2 => ?_) (fun c3 h2 => ?_)
  ·refine tk c3 (sm (.i d)) (tk c3 (sm (.i a)) (tk c3 (scm rfl rfl rfl) (to (spt (.b (decide (d ≤ a))) c3) ?_)));obtain rfl := sIn h2;refine aD (aS rfl trivial rfl)
  ·refine tp c3 (tp c3 (tp c3 (to (spf Z18 c3) ?_)));obtain rfl := sIn h2;refine aD (aS rfl trivial rfl)
 ·refine ta (.b b1) (aD ?_);obtain rfl := sIn h;exact rt

theorem yI (a : aG) {r : Bool} (h : kY a = some r) : Fn Tryz.prog 43 [.agg (aJ a)] (.b r) := by
 unfold kY at h;refine oT [.tmp 2] Tryz.func43 Tryz.results43 Tryz.ntmps43 ?_;refine aF (aC ?_);refine bO rfl (jM (v := .agg (aJ a)) (aK rfl) rfl rfl rfl) ?_;rintro _ ⟨b1, rfl⟩;refine ta Z18 (aD (aF (aF (aC (tfl 0 rfl rfl iI rfl aV ?_)))));obtain ⟨r2, h3, h⟩ := bns h;refine to (scr Tryz.call42 (eK _ _ _ h3)) (to (sn rfl) (tm (.b (!r2)) ?_));obtain ⟨b4, h5, h⟩ := bns h;refine bG 5 [1] 12 b4 ?_ ?_
 ·refine bch h5 (fun c h5 => ?_) (fun c h5 => ?_)
  ·refine tp c (tp c (tp c (tp c (to (spt Z37 c) ?_))));obtain rfl := sIn h5;refine aD (aS rfl ⟨rfl, trivial⟩ rfl)
  ·refine tkl 0 c rfl rfl eH rfl aV ?_;obtain ⟨e, f, h5⟩ := bns h5;refine tk c (scr Tryz.call42 (eK _ _ _ f)) (tk c (sn rfl) (to (spf (.b (!e)) c) ?_));obtain rfl := sIn h5;refine aD (aS rfl ⟨rfl, trivial⟩ rfl)
 ·refine tm (.b b4) ?_;obtain ⟨b6, h7, h⟩ := bns h;refine bG 5 [1] 18 b6 ?_ ?_
  ·refine bch h7 (fun d h7 => ?_) (fun d h7 => ?_)
   ·refine tp d (tp d (tp d (tp d (to (spt Z37 d) ?_))));obtain rfl := sIn h7;refine aD (aS rfl ⟨rfl, trivial⟩ rfl)
   ·refine tkl 0 d rfl rfl eU rfl aV ?_;obtain ⟨g, i, h7⟩ := bns h7;refine tk d (scr Tryz.call42 (eK _ _ _ i)) (tk d (sn rfl) (to (spf (.b (!g)) d) ?_));obtain rfl := sIn h7;refine aD (aS rfl ⟨rfl, trivial⟩ rfl)
  ·refine aD ?_;refine tih h (fun c8 h => ?_) (fun c8 h => ?_)
   ·refine aF (aC (ta Z18 (aD ?_)));obtain rfl := sIn h;refine bP (bK (bM (l := [2]) ⟨rfl, trivial⟩)) ?_;exact rt
   ·refine bE (aF (aF (aC (tfl 0 rfl rfl wQ rfl aV (aD (bQ (aF (aC (to (scm rfl rfl rfl) (ta (.b (decide (a.Kind = 1))) (aD ?_)))))))))));refine tih h (fun c9 h => ?_) (fun c9 h => ?_)
    ·refine aF (aC (tfl 0 rfl rfl mA rfl aV ?_));obtain ⟨j, k, h⟩ := bns h;refine to (scr Tryz.call42 (eK _ _ _ k)) (ta (.b j) (aD ?_));obtain rfl := sIn h;refine bP (bK (bM (l := [2]) ⟨rfl, trivial⟩)) ?_;exact rt
    ·refine aF (aC (to (scm rfl rfl rfl) (ta (.b (Z57 a)) (aD ?_))));refine tih h (fun m h => ?_) (fun m h => ?_)
     ·refine aF (aC (tfl 0 rfl rfl mA rfl aV ?_));obtain ⟨n, o, h⟩ := bns h;refine to (scr Tryz.call42 (eK _ _ _ o)) (ta (.b n) (aD ?_));obtain rfl := sIn h;refine bP (bK (bM (l := [2]) ⟨rfl, trivial⟩)) ?_;exact rt
     ·refine aF (aF (aC (to (scm rfl rfl rfl) (ta (Z53 a) (aD ?_)))));refine tih h (fun p h => ?_) (fun p h => ?_)
      ·refine bE ?_;refine tih h (fun q h => ?_) (fun q h => ?_)
       ·refine aF (aC (tfl 0 rfl rfl mA rfl aV (to (scm rfl rfl rfl) (ta (.b (decide (a.Rank = 0))) (aD ?_)))));obtain rfl := sIn h;refine bP (bK (bM (l := [2]) ⟨rfl, trivial⟩)) ?_;exact rt
       ·refine cG ?_;refine aF (aC (ta Z18 (aD ?_)));obtain rfl := sIn h;refine bP (bK (bM (l := [2]) ⟨rfl, trivial⟩)) ?_;exact rt
      ·refine aF (aC (to (scm rfl rfl rfl) (ta (Z54 a) (aD ?_))));refine tih h (fun s h => ?_) (fun s h => ?_)
       ·refine bE ?_;refine tih h (fun t h => ?_) (fun t h => ?_)
        ·refine aF (aC (tfl 0 rfl rfl mA rfl aV (to (scm rfl rfl rfl) (ta (.b (decide (a.Rank = 0))) (aD ?_)))));obtain rfl := sIn h;refine bP (bK (bM (l := [2]) ⟨rfl, trivial⟩)) ?_;exact rt
        ·refine cG ?_;refine aF (aC (ta Z18 (aD ?_)));obtain rfl := sIn h;refine bP (bK (bM (l := [2]) ⟨rfl, trivial⟩)) ?_;exact rt
       ·refine aC (to (scm rfl rfl rfl) (ta (Z55 a) (aD ?_)));refine tih h (fun u h => ?_) (fun u h => ?_)
        ·refine aF (aC (tfl 0 rfl rfl mA rfl aV (to (scm rfl rfl rfl) (ta (.b (decide (a.Rank = 0))) (aD ?_)))));obtain rfl := sIn h;refine bP (bK (bM (l := [2]) ⟨rfl, trivial⟩)) ?_;exact rt
        ·refine cG ?_;refine aF (aC (ta Z18 (aD ?_)));obtain rfl := sIn h;refine bP (bK (bM (l := [2]) ⟨rfl, trivial⟩)) ?_;exact rt

theorem aAl (z : aP) (m : List aG) {r : Int} (h : mS z m = some r) : Fn Tryz.prog 22 [.agg (aX z), .d (Z12 m)] (.i r) := by
 unfold mS at h;refine oT [.tmp 4] Tryz.func22 Tryz.results22 Tryz.ntmps22 ?_;refine aF (aC ?_);refine bO rfl (jM (v := .agg (aX z)) (aK rfl) rfl rfl rfl) ?_;rintro _ ⟨b1, rfl⟩;refine ta (.i 0) (aD (aF (aF (aC (tfl 0 rfl rfl aDg rfl aV ?_)))));obtain ⟨r2, h3, h⟩ := bns h;refine to (scr Tryz.call42 (eK _ _ _ h3)) (to (sn rfl) (tm (.b (!r2)) ?_));obtain ⟨b4, h5, h⟩ := bns h;refine bG 5 [1, 2] 16 b4 ?_ ?_
 ·refine bch h5 (fun q h5 => ?_) (fun q h5 => ?_)
  ·refine tp q (tp q (tp q (tp q (to (spt Z37 q) ?_))));obtain rfl := sIn h5;refine aD (aS rfl ⟨rfl, rfl, trivial⟩ rfl)
  ·refine tkl 0 q rfl rfl zB rfl aV ?_;obtain ⟨C, E, h5⟩ := bns h5;refine tk q (scr Tryz.call42 (eK _ _ _ E)) (tk q (sn rfl) (to (spf (.b (!C)) q) ?_));obtain rfl := sIn h5;refine aD (aS rfl ⟨rfl, rfl, trivial⟩ rfl)
 ·refine tm (.b b4) ?_;obtain ⟨b6, h7, h⟩ := bns h;refine bG 5 [1, 2] 22 b6 ?_ ?_
  ·refine bch h7 (fun s h7 => ?_) (fun s h7 => ?_)
   ·refine tp s (tp s (tp s (tp s (to (spt Z37 s) ?_))));obtain rfl := sIn h7;refine aD (aS rfl ⟨rfl, rfl, trivial⟩ rfl)
   ·refine tkl 0 s rfl rfl pD rfl aV ?_;obtain ⟨F, G, h7⟩ := bns h7;refine tk s (scr Tryz.call42 (eK _ _ _ G)) (tk s (sn rfl) (to (spf (.b (!F)) s) ?_));obtain rfl := sIn h7;refine aD (aS rfl ⟨rfl, rfl, trivial⟩ rfl)
  ·refine tm (.b b6) ?_;obtain ⟨b8, h9, h⟩ := bns h;refine bG 5 [1, 2] 28 b8 ?_ ?_
   ·refine bch h9 (fun t h9 => ?_) (fun t h9 => ?_)
    ·refine tp t (tp t (tp t (tp t (to (spt Z37 t) ?_))));obtain rfl := sIn h9;refine aD (aS rfl ⟨rfl, rfl, trivial⟩ rfl)
    ·refine tkl 0 t rfl rfl tX rfl aV ?_;obtain ⟨H, I, h9⟩ := bns h9;refine tk t (scr Tryz.call42 (eK _ _ _ I)) (tk t (sn rfl) (to (spf (.b (!H)) t) ?_));obtain rfl := sIn h9;refine aD (aS rfl ⟨rfl, rfl, trivial⟩ rfl)
   ·refine tm (.b b8) ?_;obtain ⟨J, w, h⟩ := bns h;refine bG 7 [1] 36 J ?_ ?_
    ·refine bch w (fun n w => ?_) (fun n w => ?_)
     ·refine tp n (tp n (tp n (tp n (tp n (tp n (to (spt Z37 n) ?_))))));obtain rfl := sIn w;refine aD (aS rfl ⟨rfl, trivial⟩ rfl)
     ·refine tkl 0 n rfl rfl jT rfl aV (tkl 0 n rfl rfl tX rfl aV ?_);obtain ⟨K, L, w⟩ := bns w;refine tk n (scr Tryz.call42 (eK _ _ _ L)) (tk n (sn rfl) (to (spf (.b (!K)) n) ?_));obtain rfl := sIn w;refine aD (aS rfl ⟨rfl, trivial⟩ rfl)
    ·refine aD ?_;refine tih h (fun M h => ?_) (fun M h => ?_)
     ·refine aF (aC (ta (.i 50) (aD ?_)));obtain rfl := sIn h;refine bP (bK (bM (l := [4]) ⟨rfl, trivial⟩)) ?_;exact rt
     ·refine bE (aF (aF (aC (tm (Z35 m) (to (sle rfl dG.of) (to (scm rfl rfl rfl) (aD ?_)))))));refine tih h (fun N h => ?_) (fun N h => ?_)
      ·refine aF (aC (ta (.i 51) (aD ?_)));obtain rfl := sIn h;refine bP (bK (bM (l := [4]) ⟨rfl, trivial⟩)) ?_;exact rt
      ·refine bE (aF (aF (aC (ta (.i 0) (aD (bQ ?_))))));refine cO (S := Int) [1] (fun x => [(5, .i x)]) (fun x => []) (fun k x => fW m k x) (fun _ => rfl) (0) h (aT [] rfl rfl (aM rfl (aR ⟨rfl, trivial⟩))) ?_;rintro O c h;simp only [fW] at h;refine aF (aF (aC (tm (.i c) (tm (Z35 m) (to (sle rfl dG.of) (to (scm rfl rfl rfl) (aD ?_)))))));refine tih h (fun P h => ?_) (fun P h => ?_)
       ·refine bE (aF (bQ (aF (aF (aC (tm (Z35 m) (tm (.i c) ?_)))))));obtain ⟨Q, T, h⟩ := bns h;refine to (six rfl rfl dG.of (cJ aJ T)) (to (aKe (aJ Q) rfl jJ) ?_);obtain ⟨a1, U, h⟩ := bns h;refine to (scr Tryz.call43 (yI _ U)) (to (sn rfl) (aD ?_));refine tih h (fun V h => ?_) (fun V h => ?_)
        ·refine aF (aC (ta (.i 51) (aD ?_)));obtain rfl := sIn h;exact rt
        ·refine bE (aF (aC (ta (.i 0) (aD ?_))));refine aCe ?_;refine cO (S := Int) [1, 5] (fun y => [(6, .i y)]) (fun y => []) (fun k y => fX (fW m O) m c k y) (fun _ => rfl) (0) h (aT [] rfl rfl (aM rfl (aR ⟨rfl, rfl, trivial⟩))) ?_;rintro a2 g h;simp only [fX] at h;refine aF (aF (aC (tm (.i g) (tm (.i c) (to (scm rfl rfl rfl) (aD ?_))))));refine tih h (fun W h => ?_) (fun W h => ?_)
         ·refine bE (aF (bQ (aF ?_)));obtain ⟨e, A, h⟩ := bns h;obtain ⟨f, B, h⟩ := bns h;obtain ⟨X, u, h⟩ := bns h;refine cB mix 22 [1, 5, 6] [(78, .b X)] ?_ ?_
          ·refine bch u (fun j u => ?_) (fun j u => ?_)
           ·obtain ⟨o, Y, u⟩ := bns u;obtain ⟨p, Z, u⟩ := bns u;obtain rfl := sIn u;refine ⟨[(57, 0, .d (Z12 m)), (58, 1, .i g), (59, 2, .cp [.j e.Id, .j e.Hour, .j e.Kind, .j e.Player, .j e.Rank]), (60, 3, .cp [.j e.Id]), (61, 4, .i e.Id), (62, 5, .d (Z12 m)), (63, 6, .i c), (64, 7, .cp [.j f.Id, .j f.Hour, .j f.Kind, .j f.Player, .j f.Rank]), (65, 8, .cp [.j f.Id]), (66, 9, .i f.Id), (67, 10, .b (decide (e.Id = f.Id))), (68, 11, .b (decide (e.Id = f.Id))), (69, 12, .d (Z12 m)), (70, 13, .i g), (71, 14, .cp [.j o.Id, .j o.Hour, .j o.Kind, .j o.Player, .j o.Rank]), (72, 15, .agg (aJ o)), (73, 16, .d (Z12 m)), (74, 17, .i c), (75, 18, .cp [.j p.Id, .j p.Hour, .j p.Kind, .j p.Player, .j p.Rank]), (76, 19, .agg (aJ p)), (77, 20, .b (!decide (o = p))), (78, 21, .b (!decide (o = p)))], ?_, ?_⟩
            · exact dk [0, 0, 102, 3, 4, 0, 0, 607, 8, 9, 510, 11, 12, 12, 121314, 1215, 12, 12, 121718, 1219, 121620, 1221] ⟨go (zm (Z35 m)),
      go (zm (.i g)),
      go (zix rfl rfl dG.of (cJ aJ A)),
      go (zfc [.j e.Id] rfl iI),
      go (zlc rfl aV),
      go (zm (Z35 m)),
      go (zm (.i c)),
      go (zix rfl rfl dG.of (cJ aJ B)),
      go (zfc [.j f.Id] rfl iI),
      go (zlc rfl aV),
      go (zcm rfl rfl rfl),
      go (zm (.b (decide (e.Id = f.Id)))),
      gt j (zm (Z35 m)),
      gt j (zm (.i g)),
      gt j (zix rfl rfl dG.of (cJ aJ Y)),
      gt j (aUx (aJ o) rfl jJ),
      gt j (zm (Z35 m)),
      gt j (zm (.i c)),
      gt j (zix rfl rfl dG.of (cJ aJ Z)),
      gt j (aUx (aJ p) rfl jJ),
      gt j fun S hS => aNc (a := o) (b := p) (aK rfl) (aU hS rfl) (aU hS rfl) rfl rfl Tryz.eqGuardType32 aDz,
      go (zpt (.b (!decide (o = p))) j), trivial⟩
            · exact bV (aM rfl (aR ⟨rfl, rfl, rfl, trivial⟩))
           ·obtain rfl := sIn u;refine ⟨[(57, 0, .d (Z12 m)), (58, 1, .i g), (59, 2, .cp [.j e.Id, .j e.Hour, .j e.Kind, .j e.Player, .j e.Rank]), (60, 3, .cp [.j e.Id]), (61, 4, .i e.Id), (62, 5, .d (Z12 m)), (63, 6, .i c), (64, 7, .cp [.j f.Id, .j f.Hour, .j f.Kind, .j f.Player, .j f.Rank]), (65, 8, .cp [.j f.Id]), (66, 9, .i f.Id), (67, 10, .b (decide (e.Id = f.Id))), (68, 11, .b (decide (e.Id = f.Id))), (69, 12, .tup []), (70, 13, .tup []), (71, 14, .tup []), (72, 15, .tup []), (73, 16, .tup []), (74, 17, .tup []), (75, 18, .tup []), (76, 19, .tup []), (77, 20, .tup []), (78, 21, .b false)], ?_, ?_⟩
            · exact dk [0, 0, 102, 3, 4, 0, 0, 607, 8, 9, 510, 11, 12, 12, 121314, 1215, 12, 12, 121718, 1219, 121620, 1221] ⟨go (zm (Z35 m)),
      go (zm (.i g)),
      go (zix rfl rfl dG.of (cJ aJ A)),
      go (zfc [.j e.Id] rfl iI),
      go (zlc rfl aV),
      go (zm (Z35 m)),
      go (zm (.i c)),
      go (zix rfl rfl dG.of (cJ aJ B)),
      go (zfc [.j f.Id] rfl iI),
      go (zlc rfl aV),
      go (zcm rfl rfl rfl),
      go (zm (.b (decide (e.Id = f.Id)))),
      gp j,
      gp j,
      gp j,
      gp j,
      gp j,
      gp j,
      gp j,
      gp j,
      gp j,
      go (zpf Z18 j), trivial⟩
            · exact bV (aM rfl (aR ⟨rfl, rfl, rfl, trivial⟩))
          ·refine aD ?_;refine tih h (fun a0 h => ?_) (fun a0 h => ?_)
           ·refine aF (aC (ta (.i 51) (aD ?_)));obtain rfl := sIn h;exact rt
           ·refine cG ?_;refine aC (tm (.i g) (to (sar rfl rfl rfl) (ta (.i (w64 (g + 1))) (aD ?_))));exact ⟨(w64 (g + 1)), h, aT [] rfl rfl (aM rfl (aR ⟨rfl, rfl, trivial⟩))⟩
         ·refine cD ?_;refine .inl ⟨rfl, ?_⟩;simp only [pX] at h;simp only [pW] at h;refine aC (tm (.i c) (to (sar rfl rfl rfl) (ta (.i (w64 (c + 1))) (aD ?_))));exact ⟨(w64 (c + 1)), h, aT [] rfl rfl (aM rfl (aR ⟨rfl, trivial⟩))⟩
       ·refine cD ?_;refine .inl ⟨rfl, ?_⟩;simp only [pV] at h;refine aF (aC (ta (.i 0) (aD ?_)));obtain rfl := sIn h;exact rt

theorem aAk (a : aP) (c : List aG) {r : Bool} (h : mR a c = some r) : Fn Tryz.prog 11 [.agg (aX a), .d (Z12 c)] (.b r) := by
 unfold mR at h;refine oT [.tmp 4] Tryz.func11 Tryz.results11 Tryz.ntmps11 ?_;refine aF (aC ?_);refine bO rfl (jM (v := .agg (aX a)) (aK rfl) rfl rfl rfl) ?_;rintro _ ⟨b1, rfl⟩;refine ta Z18 (aD (aF (aC (tm (Z35 c) ?_))));obtain ⟨r2, h3, h⟩ := bns h;refine to (scr Tryz.call20 (aDb _ h3)) (to (sn rfl) (tm (.b (!r2)) ?_));obtain ⟨b4, h5, h⟩ := bns h;refine bG 5 [] 13 b4 ?_ ?_
 ·refine bch h5 (fun c6 h5 => ?_) (fun c6 h5 => ?_)
  ·refine tk c6 (sla 0 (aX a) rfl rfl jU) (tk c6 (sm (Z35 c)) ?_);obtain ⟨r7, h8, h5⟩ := bns h5;refine tk c6 (scr Tryz.call22 (aAl _ _ h8)) (tk c6 (scm rfl rfl rfl) (to (spt (.b (decide (r7 = 0))) c6) ?_));obtain rfl := sIn h5;refine aD (aS rfl trivial rfl)
  ·refine tp c6 (tp c6 (tp c6 (tp c6 (to (spf Z18 c6) ?_))));obtain rfl := sIn h5;refine aD (aS rfl trivial rfl)
 ·refine ta (.b b4) (aD ?_);obtain rfl := sIn h;refine bP (bK (bM (l := [4]) ⟨rfl, trivial⟩)) ?_;exact rt

theorem aAa (a : Int) {r : Bool} (h : mC a = some r) : Fn Tryz.prog 12 [.i a] (.b r) := by
 unfold mC at h;refine oT [.tmp 2] Tryz.func12 Tryz.results12 Tryz.ntmps12 ?_;refine aF (aC (ta Z18 (aD (aF (aC (tm (.i a) (to (scm rfl rfl rfl) (tm (.b (decide (0 ≤ a))) ?_))))))));obtain ⟨b1, h2, h⟩ := bns h;refine bG 3 [] 8 b1 ?_ ?_
 ·refine bch h2 (fun c3 h2 => ?_) (fun c3 h2 => ?_)
  ·refine tk c3 (sm (.i a)) (tk c3 (scm rfl rfl rfl) (to (spt (.b (decide (a ≤ 9999))) c3) ?_));obtain rfl := sIn h2;refine aD (aS rfl trivial rfl)
  ·refine tp c3 (tp c3 (to (spf Z18 c3) ?_));obtain rfl := sIn h2;refine aD (aS rfl trivial rfl)
 ·refine ta (.b b1) (aD ?_);obtain rfl := sIn h;exact rt

theorem dW (e : Int) (b : Int) (c : Int) (a : Int) (d : Int) {r : aG} (h : dS e b c a d = some r) : Fn Tryz.prog 60 [.i e, .i b, .i c, .i a, .i d] (.agg (aJ r)) := by
 unfold dS at h;refine pJ Tryz.func60 rfl (rs := [.cell 10 32]) Tryz.results60 Tryz.ntmps60 (Nat.le_of_ble_eq_true rfl) ?_;refine aF (aC ?_);refine bO rfl (fC (zs := [.j 0, .j 0, .j 0, .j 0, .j 0]) (aK rfl) Tryz.zeroValue32 rfl rfl) ?_;rintro _ ⟨b1, rfl⟩;refine aD (aF (aC (tm (.i e) (tm (.i b) (tm (.i c) (tm (.i a) (tm (.i d) (to (uN (aK rfl) aPq (zs := [.j 0, .j 0, .j 0, .j 0, .j 0]) rfl rfl rfl rfl (es := [.j e, .j b, .j c, .j a, .j d]) rfl) ?_))))))));refine to (sst 0 rfl rfl Tryz.sizeOf32 (aJ (aG.mk e b c a d))) (aD ?_);obtain rfl := sIn h;exact cU ⟨rfl, _, [.box b1 0 (aJ (aG.mk e b c a d))], .one (.cell 10 32 rfl (i := 0) rfl jJ (es := (aJ (aG.mk e b c a d))) rfl rfl), .refl _, .same _⟩

theorem yV {r : aP × (List aG)} (h : jV = some r) : Fn Tryz.prog 31 [] (.tup [.agg (aX r.1), .d (.sl 5 (r.2.map aJ))]) := by
 unfold jV at h;refine pJ Tryz.func31 rfl (rs := [.cell 0 23, .tmp 1]) Tryz.results31 Tryz.ntmps31 (Nat.le_of_ble_eq_true rfl) ?_;refine aF (aC ?_);refine bO rfl (fC (zs := [.j 0, .j 0, .j 0, .j 0, .j 0]) (aK rfl) Tryz.zeroValue23 rfl rfl) ?_;rintro _ ⟨b1, rfl⟩;refine to (aHr 5 (aK rfl)) ?_;refine aD (aF (aC (to (uN (aK rfl) aUs (zs := [.j 0, .j 0, .j 0, .j 0, .j 0]) rfl rfl rfl rfl (es := [.j 3, .j 1, .j 1, .j 10, .j 20]) rfl) ?_)));refine bO rfl (fC (zs := [.j 0, .j 0, .j 0, .j 0, .j 0]) (aK rfl) Tryz.zeroValue23 rfl rfl) ?_;rintro _ ⟨b2, rfl⟩;refine to (sst 1 rfl rfl Tryz.sizeOf23 Z31) (aD (aF ?_));obtain ⟨r4, h5, h⟩ := bns h;obtain ⟨r6, h7, h⟩ := bns h;obtain ⟨r8, h9, h⟩ := bns h;obtain ⟨a, n, h⟩ := bns h;obtain ⟨b, o, h⟩ := bns h;obtain ⟨c, p, h⟩ := bns h;obtain ⟨e, q, h⟩ := bns h;obtain ⟨g, s, h⟩ := bns h;obtain ⟨j, t, h⟩ := bns h;obtain ⟨l, u, h⟩ := bns h;obtain ⟨m, x, h⟩ := bns h;refine lS mix 14 [0] (fun X3 => [(16, .d (.sl 5 ((([r4, r6, r8, a, b, c, e, g, j, l, m])).map aJ)))]) (fun X3 => [.box b1 0 Z31, .box b2 0 Z31]) ?_ ?_
 ·refine ⟨0, fun X3 => [(4, 0, .agg Z31), (5, 1, .agg (aJ r4)), (6, 2, .agg (aJ r6)), (7, 3, .agg (aJ r8)), (8, 4, .agg (aJ a)), (9, 5, .agg (aJ b)), (10, 6, .agg (aJ c)), (11, 7, .agg (aJ e)), (12, 8, .agg (aJ g)), (13, 9, .agg (aJ j)), (14, 10, .agg (aJ l)), (15, 11, .agg (aJ m)), (16, 12, .d (.sl 5 ((([r4, r6, r8, a, b, c, e, g, j, l, m])).map aJ)))], fun X3 => [([(13, .box b1 0 Z31)], .box b1 0 (aX (aP.mk 0 0 0 0 0))), ([], .box b2 0 Z31)], ?_, ?_⟩
  · exact xok [(0, 14), (0, 14), (0, 14), (0, 14), (0, 14), (0, 14), (0, 14), (0, 14), (0, 14), (0, 14), (0, 14), (0, 14), (203040506070809101112, 0), (1, 0)] ⟨fun X3 S w _ k => xp w (yla k 1 Z31 rfl (og k rfl rfl) jU),
      fun X3 S w _ k => xp w (dM (aK rfl) (.func _ _ Tryz.call60) (ev2 rfl (ev2 rfl (ev2 rfl (ev2 rfl (ev2 rfl evn))))) rfl (dW _ _ _ _ _ h5)),
      fun X3 S w _ k => xp w (dM (aK rfl) (.func _ _ Tryz.call60) (ev2 rfl (ev2 rfl (ev2 rfl (ev2 rfl (ev2 rfl evn))))) rfl (dW _ _ _ _ _ h7)),
      fun X3 S w _ k => xp w (dM (aK rfl) (.func _ _ Tryz.call60) (ev2 rfl (ev2 rfl (ev2 rfl (ev2 rfl (ev2 rfl evn))))) rfl (dW _ _ _ _ _ h9)),
      fun X3 S w _ k => xp w (dM (aK rfl) (.func _ _ Tryz.call60) (ev2 rfl (ev2 rfl (ev2 rfl (ev2 rfl (ev2 rfl evn))))) rfl (dW _ _ _ _ _ n)),
      fun X3 S w _ k => xp w (dM (aK rfl) (.func _ _ Tryz.call60) (ev2 rfl (ev2 rfl (ev2 rfl (ev2 rfl (ev2 rfl evn))))) rfl (dW _ _ _ _ _ o)),
      fun X3 S w _ k => xp w (dM (aK rfl) (.func _ _ Tryz.call60) (ev2 rfl (ev2 rfl (ev2 rfl (ev2 rfl (ev2 rfl evn))))) rfl (dW _ _ _ _ _ p)),
      fun X3 S w _ k => xp w (dM (aK rfl) (.func _ _ Tryz.call60) (ev2 rfl (ev2 rfl (ev2 rfl (ev2 rfl (ev2 rfl evn))))) rfl (dW _ _ _ _ _ q)),
      fun X3 S w _ k => xp w (dM (aK rfl) (.func _ _ Tryz.call60) (ev2 rfl (ev2 rfl (ev2 rfl (ev2 rfl (ev2 rfl evn))))) rfl (dW _ _ _ _ _ s)),
      fun X3 S w _ k => xp w (dM (aK rfl) (.func _ _ Tryz.call60) (ev2 rfl (ev2 rfl (ev2 rfl (ev2 rfl (ev2 rfl evn))))) rfl (dW _ _ _ _ _ t)),
      fun X3 S w _ k => xp w (dM (aK rfl) (.func _ _ Tryz.call60) (ev2 rfl (ev2 rfl (ev2 rfl (ev2 rfl (ev2 rfl evn))))) rfl (dW _ _ _ _ _ u)),
      fun X3 S w _ k => xp w (dM (aK rfl) (.func _ _ Tryz.call60) (ev2 rfl (ev2 rfl (ev2 rfl (ev2 rfl (ev2 rfl evn))))) rfl (dW _ _ _ _ _ x)),
      fun X3 S w _ k => xp w (gH (aK rfl) dG rfl (pa2 (aU k rfl) (pa2 (aU k rfl) (pa2 (aU k rfl) (pa2 (aU k rfl) (pa2 (aU k rfl) (pa2 (aU k rfl) (pa2 (aU k rfl) (pa2 (aU k rfl) (pa2 (aU k rfl) (pa2 (aU k rfl) (pa2 (aU k rfl) pan))))))))))) (rows := ([r4, r6, r8, a, b, c, e, g, j, l, m]).map aJ) rfl (aY (f := aJ) fun _ => rfl) rfl (by decide)),
      fun X3 S w _ k => xs 0 k rfl rfl (lL (i := 0) (aU k rfl) (og k rfl rfl) (aU k rfl) rfl rfl Tryz.sizeOf23 rfl (aK rfl) (Nat.le_of_ble_eq_true rfl) (ds' := Z31) rfl), trivial⟩
  · exact fun X3 => bV (aM rfl (aR ⟨rfl, trivial⟩))
 ·intro X3;refine ta (.d (.sl 5 ((([r4, r6, r8, a, b, c, e, g, j, l, m])).map aJ))) (aD ?_);obtain rfl := sIn h;exact cU ⟨rfl, _, [.box b1 0 Z31, .box b2 0 Z31], .two (.cell 0 23 rfl (i := 0) rfl jU (es := Z31) rfl rfl) (.tmp 1 (v := .d (.sl 5 ((([r4, r6, r8, a, b, c, e, g, j, l, m])).map aJ))) rfl), .refl _, .same _⟩

theorem bW (d : Int) (c : Int) (a : Int) {r : Bool} (h : bX d c a = some r) : Fn Tryz.prog 61 [.i d, .i c, .i a] (.b r) := by
 unfold bX at h;refine oT [.tmp 6] Tryz.func61 Tryz.results61 Tryz.ntmps61 ?_;refine aF (aC (ta Z18 (aD (aF (aC (tm (.i c) (tm (.i d) (to (scm rfl rfl rfl) (tm (.b (decide (c ≤ d))) ?_)))))))));obtain ⟨b1, h2, h⟩ := bns h;refine bG 4 [] 14 b1 ?_ ?_
 ·refine bch h2 (fun c3 h2 => ?_) (fun c3 h2 => ?_)
  ·refine tk c3 (sm (.i d)) (tk c3 (sm (.i a)) (tk c3 (scm rfl rfl rfl) (to (spt (.b (decide (d ≤ a))) c3) ?_)));obtain rfl := sIn h2;refine aD (aS rfl trivial rfl)
  ·refine tp c3 (tp c3 (tp c3 (to (spf Z18 c3) ?_)));obtain rfl := sIn h2;refine aD (aS rfl trivial rfl)
 ·refine ta (.b b1) (aD ?_);obtain rfl := sIn h;exact rt

theorem aDy (g : aP) {r : Bool} (h : pM g = some r) : Fn Tryz.prog 40 [.agg (aX g)] (.b r) := by
 unfold pM at h;refine oT [.tmp 2] Tryz.func40 Tryz.results40 Tryz.ntmps40 ?_;refine aF (aC ?_);refine bO rfl (jM (v := .agg (aX g)) (aK rfl) rfl rfl rfl) ?_;rintro _ ⟨b1, rfl⟩;refine ta Z18 (aD (aF (aC (tfl 0 rfl rfl aDg rfl aV ?_))));obtain ⟨r2, h3, h⟩ := bns h;refine to (scr Tryz.call61 (bW _ _ _ h3)) (tm (.b r2) ?_);obtain ⟨b4, h5, h⟩ := bns h;refine bG 4 [1] 10 b4 ?_ ?_
 ·refine bch h5 (fun c h5 => ?_) (fun c h5 => ?_)
  ·refine tkl 0 c rfl rfl zB rfl aV ?_;obtain ⟨j, k, h5⟩ := bns h5;refine tk c (scr Tryz.call61 (bW _ _ _ k)) (to (spt (.b j) c) ?_);obtain rfl := sIn h5;refine aD (aS rfl ⟨rfl, trivial⟩ rfl)
  ·refine tp c (tp c (tp c (to (spf Z18 c) ?_)));obtain rfl := sIn h5;refine aD (aS rfl ⟨rfl, trivial⟩ rfl)
 ·refine tm (.b b4) ?_;obtain ⟨b6, h7, h⟩ := bns h;refine bG 4 [1] 15 b6 ?_ ?_
  ·refine bch h7 (fun d h7 => ?_) (fun d h7 => ?_)
   ·refine tkl 0 d rfl rfl pD rfl aV ?_;obtain ⟨m, n, h7⟩ := bns h7;refine tk d (scr Tryz.call61 (bW _ _ _ n)) (to (spt (.b m) d) ?_);obtain rfl := sIn h7;refine aD (aS rfl ⟨rfl, trivial⟩ rfl)
   ·refine tp d (tp d (tp d (to (spf Z18 d) ?_)));obtain rfl := sIn h7;refine aD (aS rfl ⟨rfl, trivial⟩ rfl)
  ·refine tm (.b b6) ?_;obtain ⟨b8, h9, h⟩ := bns h;refine bG 4 [1] 20 b8 ?_ ?_
   ·refine bch h9 (fun e h9 => ?_) (fun e h9 => ?_)
    ·refine tkl 0 e rfl rfl tX rfl aV ?_;obtain ⟨o, p, h9⟩ := bns h9;refine tk e (scr Tryz.call61 (bW _ _ _ p)) (to (spt (.b o) e) ?_);obtain rfl := sIn h9;refine aD (aS rfl ⟨rfl, trivial⟩ rfl)
    ·refine tp e (tp e (tp e (to (spf Z18 e) ?_)));obtain rfl := sIn h9;refine aD (aS rfl ⟨rfl, trivial⟩ rfl)
   ·refine tm (.b b8) ?_;obtain ⟨i, f, h⟩ := bns h;refine bG 6 [] 27 i ?_ ?_
    ·refine bch f (fun a f => ?_) (fun a f => ?_)
     ·refine tkl 0 a rfl rfl jT rfl aV (tkl 0 a rfl rfl tX rfl aV ?_);obtain ⟨q, s, f⟩ := bns f;refine tk a (scr Tryz.call61 (bW _ _ _ s)) (to (spt (.b q) a) ?_);obtain rfl := sIn f;refine aD (aS rfl trivial rfl)
     ·refine tp a (tp a (tp a (tp a (tp a (to (spf Z18 a) ?_)))));obtain rfl := sIn f;refine aD (aS rfl trivial rfl)
    ·refine ta (.b i) (aD ?_);obtain rfl := sIn h;refine bP (bK (bM (l := [2]) ⟨rfl, trivial⟩)) ?_;exact rt

theorem aDf (g : aG) {r : Bool} (h : oG g = some r) : Fn Tryz.prog 41 [.agg (aJ g)] (.b r) := by
 unfold oG at h;refine oT [.tmp 2] Tryz.func41 Tryz.results41 Tryz.ntmps41 ?_;refine aF (aC ?_);refine bO rfl (jM (v := .agg (aJ g)) (aK rfl) rfl rfl rfl) ?_;rintro _ ⟨b1, rfl⟩;refine ta Z18 (aD (aF (aC (ta (.i 0) (ta (.i 0) (aD (aF (aF (aC (tfl 0 rfl rfl wQ rfl aV (aD (bQ ?_))))))))))));refine aF (aC (to (scm rfl rfl rfl) (ta (.b (decide (g.Kind = 1))) (aD ?_))));refine tih h (fun c2 h => ?_) (fun c2 h => ?_)
 ·refine aC (ta (.i 9999) ?_);refine dA ?_;refine aF (aC (tfl 0 rfl rfl iI rfl aV ?_));obtain ⟨r3, h4, h⟩ := bns h;refine to (scr Tryz.call61 (bW _ _ _ h4)) (tm (.b r3) ?_);obtain ⟨b5, h6, h⟩ := bns h;refine bG 4 [1, 3, 4] 22 b5 ?_ ?_
  ·refine bch h6 (fun j h6 => ?_) (fun j h6 => ?_)
   ·refine tkl 0 j rfl rfl eH rfl aV ?_;obtain ⟨X, Y, h6⟩ := bns h6;refine tk j (scr Tryz.call61 (bW _ _ _ Y)) (to (spt (.b X) j) ?_);obtain rfl := sIn h6;refine aD (aS rfl ⟨rfl, rfl, rfl, trivial⟩ rfl)
   ·refine tp j (tp j (tp j (to (spf Z18 j) ?_)));obtain rfl := sIn h6;refine aD (aS rfl ⟨rfl, rfl, rfl, trivial⟩ rfl)
  ·refine tm (.b b5) ?_;obtain ⟨b7, h8, h⟩ := bns h;refine bG 4 [1, 3, 4] 27 b7 ?_ ?_
   ·refine bch h8 (fun k h8 => ?_) (fun k h8 => ?_)
    ·refine tkl 0 k rfl rfl eU rfl aV ?_;obtain ⟨Z, a0, h8⟩ := bns h8;refine tk k (scr Tryz.call61 (bW _ _ _ a0)) (to (spt (.b Z) k) ?_);obtain rfl := sIn h8;refine aD (aS rfl ⟨rfl, rfl, rfl, trivial⟩ rfl)
    ·refine tp k (tp k (tp k (to (spf Z18 k) ?_)));obtain rfl := sIn h8;refine aD (aS rfl ⟨rfl, rfl, rfl, trivial⟩ rfl)
   ·refine tm (.b b7) ?_;obtain ⟨b9, w, h⟩ := bns h;refine bG 6 [] 34 b9 ?_ ?_
    ·refine bch w (fun a w => ?_) (fun a w => ?_)
     ·refine tkl 0 a rfl rfl mA rfl aV (tk a (sm (.i 0)) (tk a (sm (.i 9999)) ?_));obtain ⟨a1, a2, w⟩ := bns w;refine tk a (scr Tryz.call61 (bW _ _ _ a2)) (to (spt (.b a1) a) ?_);obtain rfl := sIn w;refine aD (aS rfl trivial rfl)
     ·refine tp a (tp a (tp a (tp a (tp a (to (spf Z18 a) ?_)))));obtain rfl := sIn w;refine aD (aS rfl trivial rfl)
    ·refine ta (.b b9) (aD ?_);obtain rfl := sIn h;refine bP (bK (bM (l := [2]) ⟨rfl, trivial⟩)) ?_;exact rt
 ·refine aF (aC (to (scm rfl rfl rfl) (ta (.b (Z57 g)) (aD ?_))));refine tih h (fun a3 h => ?_) (fun a3 h => ?_)
  ·refine aC (ta (.i 1) (ta (.i 9999) ?_));refine dA ?_;refine aF (aC (tfl 0 rfl rfl iI rfl aV ?_));obtain ⟨a4, a5, h⟩ := bns h;refine to (scr Tryz.call61 (bW _ _ _ a5)) (tm (.b a4) ?_);obtain ⟨K, x, h⟩ := bns h;refine bG 4 [1, 3, 4] 22 K ?_ ?_
   ·refine bch x (fun m x => ?_) (fun m x => ?_)
    ·refine tkl 0 m rfl rfl eH rfl aV ?_;obtain ⟨a6, a7, x⟩ := bns x;refine tk m (scr Tryz.call61 (bW _ _ _ a7)) (to (spt (.b a6) m) ?_);obtain rfl := sIn x;refine aD (aS rfl ⟨rfl, rfl, rfl, trivial⟩ rfl)
    ·refine tp m (tp m (tp m (to (spf Z18 m) ?_)));obtain rfl := sIn x;refine aD (aS rfl ⟨rfl, rfl, rfl, trivial⟩ rfl)
   ·refine tm (.b K) ?_;obtain ⟨L, y, h⟩ := bns h;refine bG 4 [1, 3, 4] 27 L ?_ ?_
    ·refine bch y (fun n y => ?_) (fun n y => ?_)
     ·refine tkl 0 n rfl rfl eU rfl aV ?_;obtain ⟨a8, a9, y⟩ := bns y;refine tk n (scr Tryz.call61 (bW _ _ _ a9)) (to (spt (.b a8) n) ?_);obtain rfl := sIn y;refine aD (aS rfl ⟨rfl, rfl, rfl, trivial⟩ rfl)
     ·refine tp n (tp n (tp n (to (spf Z18 n) ?_)));obtain rfl := sIn y;refine aD (aS rfl ⟨rfl, rfl, rfl, trivial⟩ rfl)
    ·refine tm (.b L) ?_;obtain ⟨M, z, h⟩ := bns h;refine bG 6 [] 34 M ?_ ?_
     ·refine bch z (fun c z => ?_) (fun c z => ?_)
      ·refine tkl 0 c rfl rfl mA rfl aV (tk c (sm (.i 1)) (tk c (sm (.i 9999)) ?_));obtain ⟨b0, b2, z⟩ := bns z;refine tk c (scr Tryz.call61 (bW _ _ _ b2)) (to (spt (.b b0) c) ?_);obtain rfl := sIn z;refine aD (aS rfl trivial rfl)
      ·refine tp c (tp c (tp c (tp c (tp c (to (spf Z18 c) ?_)))));obtain rfl := sIn z;refine aD (aS rfl trivial rfl)
     ·refine ta (.b M) (aD ?_);obtain rfl := sIn h;refine bP (bK (bM (l := [2]) ⟨rfl, trivial⟩)) ?_;exact rt
  ·refine aF (aF (aC (to (scm rfl rfl rfl) (ta (Z53 g) (aD ?_)))));refine tih h (fun b3 h => ?_) (fun b3 h => ?_)
   ·refine bE ?_;refine tih h (fun b4 h => ?_) (fun b4 h => ?_)
    ·refine cG ?_;refine aF (aC (tfl 0 rfl rfl iI rfl aV ?_));obtain ⟨b6, b8, h⟩ := bns h;refine to (scr Tryz.call61 (bW _ _ _ b8)) (tm (.b b6) ?_);obtain ⟨N, A, h⟩ := bns h;refine bG 4 [1, 3, 4] 22 N ?_ ?_
     ·refine bch A (fun o A => ?_) (fun o A => ?_)
      ·refine tkl 0 o rfl rfl eH rfl aV ?_;obtain ⟨c0, c1, A⟩ := bns A;refine tk o (scr Tryz.call61 (bW _ _ _ c1)) (to (spt (.b c0) o) ?_);obtain rfl := sIn A;refine aD (aS rfl ⟨rfl, rfl, rfl, trivial⟩ rfl)
      ·refine tp o (tp o (tp o (to (spf Z18 o) ?_)));obtain rfl := sIn A;refine aD (aS rfl ⟨rfl, rfl, rfl, trivial⟩ rfl)
     ·refine tm (.b N) ?_;obtain ⟨O, B, h⟩ := bns h;refine bG 4 [1, 3, 4] 27 O ?_ ?_
      ·refine bch B (fun p B => ?_) (fun p B => ?_)
       ·refine tkl 0 p rfl rfl eU rfl aV ?_;obtain ⟨c3, c4, B⟩ := bns B;refine tk p (scr Tryz.call61 (bW _ _ _ c4)) (to (spt (.b c3) p) ?_);obtain rfl := sIn B;refine aD (aS rfl ⟨rfl, rfl, rfl, trivial⟩ rfl)
       ·refine tp p (tp p (tp p (to (spf Z18 p) ?_)));obtain rfl := sIn B;refine aD (aS rfl ⟨rfl, rfl, rfl, trivial⟩ rfl)
      ·refine tm (.b O) ?_;obtain ⟨P, C, h⟩ := bns h;refine bG 6 [] 34 P ?_ ?_
       ·refine bch C (fun d C => ?_) (fun d C => ?_)
        ·refine tkl 0 d rfl rfl mA rfl aV (tk d (sm (.i 0)) (tk d (sm (.i 0)) ?_));obtain ⟨c5, c6, C⟩ := bns C;refine tk d (scr Tryz.call61 (bW _ _ _ c6)) (to (spt (.b c5) d) ?_);obtain rfl := sIn C;refine aD (aS rfl trivial rfl)
        ·refine tp d (tp d (tp d (tp d (tp d (to (spf Z18 d) ?_)))));obtain rfl := sIn C;refine aD (aS rfl trivial rfl)
       ·refine ta (.b P) (aD ?_);obtain rfl := sIn h;refine bP (bK (bM (l := [2]) ⟨rfl, trivial⟩)) ?_;exact rt
    ·refine aF (aC (ta Z18 (aD ?_)));obtain rfl := sIn h;refine bP (bK (bM (l := [2]) ⟨rfl, trivial⟩)) ?_;exact rt
   ·refine aF (aC (to (scm rfl rfl rfl) (ta (Z54 g) (aD ?_))));refine tih h (fun c7 h => ?_) (fun c7 h => ?_)
    ·refine bE ?_;refine tih h (fun c8 h => ?_) (fun c8 h => ?_)
     ·refine cG ?_;refine aF (aC (tfl 0 rfl rfl iI rfl aV ?_));obtain ⟨c9, d0, h⟩ := bns h;refine to (scr Tryz.call61 (bW _ _ _ d0)) (tm (.b c9) ?_);obtain ⟨Q, E, h⟩ := bns h;refine bG 4 [1, 3, 4] 22 Q ?_ ?_
      ·refine bch E (fun q E => ?_) (fun q E => ?_)
       ·refine tkl 0 q rfl rfl eH rfl aV ?_;obtain ⟨d1, d2, E⟩ := bns E;refine tk q (scr Tryz.call61 (bW _ _ _ d2)) (to (spt (.b d1) q) ?_);obtain rfl := sIn E;refine aD (aS rfl ⟨rfl, rfl, rfl, trivial⟩ rfl)
       ·refine tp q (tp q (tp q (to (spf Z18 q) ?_)));obtain rfl := sIn E;refine aD (aS rfl ⟨rfl, rfl, rfl, trivial⟩ rfl)
      ·refine tm (.b Q) ?_;obtain ⟨S, F, h⟩ := bns h;refine bG 4 [1, 3, 4] 27 S ?_ ?_
       ·refine bch F (fun s F => ?_) (fun s F => ?_)
        ·refine tkl 0 s rfl rfl eU rfl aV ?_;obtain ⟨d3, d4, F⟩ := bns F;refine tk s (scr Tryz.call61 (bW _ _ _ d4)) (to (spt (.b d3) s) ?_);obtain rfl := sIn F;refine aD (aS rfl ⟨rfl, rfl, rfl, trivial⟩ rfl)
        ·refine tp s (tp s (tp s (to (spf Z18 s) ?_)));obtain rfl := sIn F;refine aD (aS rfl ⟨rfl, rfl, rfl, trivial⟩ rfl)
       ·refine tm (.b S) ?_;obtain ⟨T, G, h⟩ := bns h;refine bG 6 [] 34 T ?_ ?_
        ·refine bch G (fun e G => ?_) (fun e G => ?_)
         ·refine tkl 0 e rfl rfl mA rfl aV (tk e (sm (.i 0)) (tk e (sm (.i 0)) ?_));obtain ⟨d5, d6, G⟩ := bns G;refine tk e (scr Tryz.call61 (bW _ _ _ d6)) (to (spt (.b d5) e) ?_);obtain rfl := sIn G;refine aD (aS rfl trivial rfl)
         ·refine tp e (tp e (tp e (tp e (tp e (to (spf Z18 e) ?_)))));obtain rfl := sIn G;refine aD (aS rfl trivial rfl)
        ·refine ta (.b T) (aD ?_);obtain rfl := sIn h;refine bP (bK (bM (l := [2]) ⟨rfl, trivial⟩)) ?_;exact rt
     ·refine aF (aC (ta Z18 (aD ?_)));obtain rfl := sIn h;refine bP (bK (bM (l := [2]) ⟨rfl, trivial⟩)) ?_;exact rt
    ·refine aC (to (scm rfl rfl rfl) (ta (Z55 g) (aD ?_)));refine tih h (fun d7 h => ?_) (fun d7 h => ?_)
     ·refine cG ?_;refine aF (aC (tfl 0 rfl rfl iI rfl aV ?_));obtain ⟨d8, d9, h⟩ := bns h;refine to (scr Tryz.call61 (bW _ _ _ d9)) (tm (.b d8) ?_);obtain ⟨U, H, h⟩ := bns h;refine bG 4 [1, 3, 4] 22 U ?_ ?_
      ·refine bch H (fun t H => ?_) (fun t H => ?_)
       ·refine tkl 0 t rfl rfl eH rfl aV ?_;obtain ⟨e0, e1, H⟩ := bns H;refine tk t (scr Tryz.call61 (bW _ _ _ e1)) (to (spt (.b e0) t) ?_);obtain rfl := sIn H;refine aD (aS rfl ⟨rfl, rfl, rfl, trivial⟩ rfl)
       ·refine tp t (tp t (tp t (to (spf Z18 t) ?_)));obtain rfl := sIn H;refine aD (aS rfl ⟨rfl, rfl, rfl, trivial⟩ rfl)
      ·refine tm (.b U) ?_;obtain ⟨V, I, h⟩ := bns h;refine bG 4 [1, 3, 4] 27 V ?_ ?_
       ·refine bch I (fun u I => ?_) (fun u I => ?_)
        ·refine tkl 0 u rfl rfl eU rfl aV ?_;obtain ⟨e2, e3, I⟩ := bns I;refine tk u (scr Tryz.call61 (bW _ _ _ e3)) (to (spt (.b e2) u) ?_);obtain rfl := sIn I;refine aD (aS rfl ⟨rfl, rfl, rfl, trivial⟩ rfl)
        ·refine tp u (tp u (tp u (to (spf Z18 u) ?_)));obtain rfl := sIn I;refine aD (aS rfl ⟨rfl, rfl, rfl, trivial⟩ rfl)
       ·refine tm (.b V) ?_;obtain ⟨W, J, h⟩ := bns h;refine bG 6 [] 34 W ?_ ?_
        ·refine bch J (fun f J => ?_) (fun f J => ?_)
         ·refine tkl 0 f rfl rfl mA rfl aV (tk f (sm (.i 0)) (tk f (sm (.i 0)) ?_));obtain ⟨e4, e5, J⟩ := bns J;refine tk f (scr Tryz.call61 (bW _ _ _ e5)) (to (spt (.b e4) f) ?_);obtain rfl := sIn J;refine aD (aS rfl trivial rfl)
         ·refine tp f (tp f (tp f (tp f (tp f (to (spf Z18 f) ?_)))));obtain rfl := sIn J;refine aD (aS rfl trivial rfl)
        ·refine ta (.b W) (aD ?_);obtain rfl := sIn h;refine bP (bK (bM (l := [2]) ⟨rfl, trivial⟩)) ?_;exact rt
     ·refine aF (aC (ta Z18 (aD ?_)));obtain rfl := sIn h;refine bP (bK (bM (l := [2]) ⟨rfl, trivial⟩)) ?_;exact rt

theorem aHl (t : aP) (o : List aG) {r : Int} (h : rV t o = some r) : Fn Tryz.prog 21 [.agg (aX t), .d (Z12 o)] (.i r) := by
 unfold rV at h;refine oT [.tmp 4] Tryz.func21 Tryz.results21 Tryz.ntmps21 ?_;refine aF (aC ?_);refine bO rfl (jM (v := .agg (aX t)) (aK rfl) rfl rfl rfl) ?_;rintro _ ⟨b1, rfl⟩;refine ta (.i 0) (aD (aF (aF (aC (to (sla 0 (aX t) rfl rfl jU) ?_)))));obtain ⟨r2, h3, h⟩ := bns h;refine to (scr Tryz.call40 (aDy _ h3)) (to (sn rfl) (aD ?_));refine tih h (fun c4 h => ?_) (fun c4 h => ?_)
 ·refine aF (aC (ta (.i 50) (aD ?_)));obtain rfl := sIn h;refine bP (bK (bM (l := [4]) ⟨rfl, trivial⟩)) ?_;exact rt
 ·refine bE (aF (aF (aC (tm (Z35 o) (to (sle rfl dG.of) (to (scm rfl rfl rfl) (aD ?_)))))));refine tih h (fun c5 h => ?_) (fun c5 h => ?_)
  ·refine aF (aC (ta (.i 51) (aD ?_)));obtain rfl := sIn h;refine bP (bK (bM (l := [4]) ⟨rfl, trivial⟩)) ?_;exact rt
  ·refine bE (aF (aC ?_));refine bO rfl (aBl (aK rfl)) ?_;rintro _ ⟨r6, rfl⟩;refine ta (.d (.lit (.map (some r6)))) (aD (aF (aF (aC (tm (Z35 o) (to (sle rfl dG.of) (tm (.i 0) (aD (bQ ?_)))))))));refine cO (S := Int × (List (Int × aG)) × (List Nat) × Nat) [5, 17, 18] (fun s7 => [(19, .i s7.1)]) (fun s7 => [.map r6 (s7.2.1.map fun p : Int × aG => (VI p.1, (fun v : aG => AV.agg (aJ v)) p.2)) s7.2.2.1 s7.2.2.2]) (fun k s7 => jX o (o.length : Int) k s7.1 s7.2.1) (fun _ => rfl) (0, ([] : List (Int × aG)), [], 0) h (aT [1] rfl rfl (aM rfl (aR ⟨rfl, rfl, rfl, trivial⟩))) ?_;rintro G ⟨q, c, x, u⟩ h;simp only [jX] at h;refine aF (aC (to (scm rfl rfl rfl) (aD (aF ?_))));refine tih h (fun y h => ?_) (fun y h => ?_)
   ·refine bE (aF (bQ (aF (aC ?_))));obtain ⟨e, A, h⟩ := bns h;refine to (six rfl rfl dG.of (cJ aJ A)) (to (aKe (aJ e) rfl jJ) ?_);refine bO rfl (fC (zs := [.j 0, .j 0, .j 0, .j 0, .j 0]) (aK rfl) Tryz.zeroValue32 rfl rfl) ?_;rintro _ ⟨H, rfl⟩;refine to (sst 1 rfl rfl Tryz.sizeOf32 (aJ e)) (aD (aF (aF (aC (tm (.d (.lit (.map (some r6)))) (tfl 1 rfl rfl iI rfl aV (to (aNa (av := (fun v : aG => AV.agg (aJ v))) (l := c) (z := Z49) (a := e.Id) (m := 0) (aK rfl) gO Tryz.underlying76 Tryz.zeroValue32 (fun _ _ => .agg (iZ rfl)) rfl rfl rfl rfl (cT (kv := VI) e.Id)) ?_)))))));refine tm (.tup [.agg (aJ (aE e.Id Z49 c)), .b (gJ e.Id c)]) (to (sex rfl rfl) (to (sex rfl rfl) ?_));refine bO rfl (fC (zs := [.j 0, .j 0, .j 0, .j 0, .j 0]) (aK rfl) Tryz.zeroValue32 rfl rfl) ?_;rintro _ ⟨I, rfl⟩;refine to (sst 2 rfl rfl Tryz.sizeOf32 (aJ (aE e.Id Z49 c))) (ta (.b (gJ e.Id c)) (aD (aF (aC (to (sla 1 (aJ e) rfl rfl jJ) ?_)))));obtain ⟨B, C, h⟩ := bns h;refine to (scr Tryz.call41 (aDf _ C)) (to (sn rfl) (tm (.b (!B)) ?_));obtain ⟨E, j, h⟩ := bns h;refine bG 7 [5, 7, 17, 18, 19] 40 E ?_ ?_
    ·refine bch j (fun f j => ?_) (fun f j => ?_)
     ·refine tp f (tp f (tq (tq (tq (tp f (to (spt Z37 f) ?_))))));obtain rfl := sIn j;refine aD (aS rfl ⟨rfl, rfl, rfl, rfl, rfl, trivial⟩ rfl)
     ·refine tk f (sm (.b (gJ e.Id c))) (tk f (sm (.b (gJ e.Id c))) ?_);obtain ⟨w, s, j⟩ := bns j;refine bG 4 [5, 7, 17, 18, 19, 33, 34, 35] 39 w ?_ ?_
      ·refine bch s (fun g s => ?_) (fun g s => ?_)
       ·refine tk g (sla 2 (aJ (aE e.Id Z49 c)) rfl rfl jJ) (tk g (sla 1 (aJ e) rfl rfl jJ) (tk g (aNc (a := (aE e.Id Z49 c)) (b := e) (aK rfl) rfl rfl rfl rfl Tryz.eqGuardType32 aDz) ?_));refine tk f (spt (.b (!decide ((aE e.Id Z49 c) = e))) g) ?_;obtain rfl := sIn s;refine aD (aS rfl ⟨rfl, rfl, rfl, rfl, rfl, rfl, rfl, rfl, trivial⟩ rfl)
       ·refine tp g (tp g (tp g (tk f (spf Z18 g) ?_)));obtain rfl := sIn s;refine aD (aS rfl ⟨rfl, rfl, rfl, rfl, rfl, rfl, rfl, rfl, trivial⟩ rfl)
      ·refine to (spf (.b w) f) ?_;obtain rfl := sIn j;refine aD (aS rfl ⟨rfl, rfl, rfl, rfl, rfl, trivial⟩ rfl)
    ·refine aD ?_;refine tih h (fun F h => ?_) (fun F h => ?_)
     ·refine aF (aC (ta (.i 51) (aD ?_)));obtain rfl := sIn h;refine bP (bK (bM (l := [4]) ⟨rfl, trivial⟩)) ?_;exact rt
     ·refine bE (aC (tm (.d (.lit (.map (some r6)))) (tfl 1 rfl rfl iI rfl aV (to (sla 1 (aJ e) rfl rfl jJ) (to (eX (av := (fun v : aG => AV.agg (aJ v))) (l := c) (v := e) (a := e.Id) (m := 0) gO Tryz.underlying76 rfl rfl rfl rfl (cT (kv := VI) e.Id) rfl rfl) ?_)))));refine dA ?_;refine aC (to (sar rfl rfl rfl) (tm (.i (w64 (q + 1))) (aD ?_)));exact ⟨(w64 (q + 1), (bY e.Id e c), (mbs e.Id c x u), (mck e.Id c u)), h, aT [0] rfl rfl (aM rfl (aR ⟨rfl, rfl, rfl, trivial⟩))⟩
   ·refine cD ?_;refine .inl ⟨rfl, ?_⟩;simp only [tW] at h;refine aF (aC (ta (.i 0) (aD ?_)));obtain rfl := sIn h;refine bP (bK (bM (l := [4]) ⟨rfl, trivial⟩)) ?_;exact rt

theorem vP (a : List aG) {r : Unit} (h : kL a = some r) : Fn Tryz.prog 75 [.d (Z12 a)] (.fn 107 (Z43 a)) := by
 unfold kL at h;refine pJ Tryz.func75 rfl (rs := [.tmp 2]) Tryz.results75 Tryz.ntmps75 (Nat.le_of_ble_eq_true rfl) ?_;refine aF (aC ?_);refine bO rfl (jM (v := .d (Z12 a)) (aK rfl) rfl rfl rfl) ?_;rintro _ ⟨b1, rfl⟩;refine ta (.d (.lit .nilFunc)) (aD (aF (aC (to (pO (aK rfl) rfl rfl) ?_))));refine ta (.fn 107 [.bp b1 0 0]) (aD ?_);exact cU ⟨rfl, _, [.box b1 0 [.sl 5 (a.map aJ)]], .one (.tmp 2 (v := .fn 107 [.bp b1 0 0]) rfl), .refl _, (qJ (.cons (dO 0 rfl rfl (dvc (.same _) dvn)) .nil))⟩

theorem pP {S : Type} (J K : S → MO → Prop) (ly : Nat) (a : S → aG → Option (S × Bool)) (hy : ∀ (s : S) (m : MO) (x0 : aG) (s' : S × Bool), J s m → a s x0 = some s' → yH Tryz.prog ly [.agg (aJ x0)] m (fun b m' => b = s'.2 ∧ JK J K s' m')) (e : List aG) (sy : S) (m0 : MO) (hj : J sy m0) {r : S × Bool} (h : fG a e sy = some r) : dI Tryz.prog 107 [.d (.lit (yv ly)), .cp [.sl 5 (e.map aJ)]] [m0] (fun _ o' => ∃ m', JK J K r m' ∧ o' = [m']) := by
 unfold fG at h;refine uQ Tryz.func107 rfl (rs := []) Tryz.results107 Tryz.ntmps107 (Nat.le_of_ble_eq_true rfl) ?_;refine aF (aC (to (slc rfl aJk) (to (sle rfl dG.of) (tm (.i 0) (aD (bQ ?_))))));refine cO (S := Int × ({x : S × MO // J x.1 x.2})) [0, 5, 6] (fun s1 => [(7, .i s1.1)]) (fun s1 => [s1.2.1.2]) (fun k s1 => cL a e (e.length : Int) k s1.1 s1.2.1.1) (fun _ => rfl) (0, ⟨(sy, m0), hj⟩) h (aT [0] rfl rfl (aM rfl (aR ⟨rfl, rfl, rfl, trivial⟩))) ?_;rintro k3 ⟨c, y2⟩ h;simp only [cL] at h;refine aF (aC (to (scm rfl rfl rfl) (aD (aF ?_))));refine tih h (fun c4 h => ?_) (fun c4 h => ?_)
 ·refine bE (aF (bQ (aF (aC ?_))));obtain ⟨x5, h6, h⟩ := bns h;refine to (six rfl rfl dG.of (cJ aJ h6)) (to (aKe (aJ x5) rfl jJ) ?_);refine bO rfl (fC (zs := [.j 0, .j 0, .j 0, .j 0, .j 0]) (aK rfl) Tryz.zeroValue32 rfl rfl) ?_;rintro _ ⟨b7, rfl⟩;refine to (sst 1 rfl rfl Tryz.sizeOf32 (aJ x5)) (aD (aF (aC (tm (.d (.lit (yv ly))) (to (sla 1 (aJ x5) rfl rfl jJ) ?_)))));obtain ⟨y8, h9, h⟩ := bns h;refine aPu rfl (aRj (aK rfl) rfl rfl rfl rfl (hy _ _ _ _ y2.2 h9)) ?_;rintro _ ⟨_, f, ⟨rfl, g⟩, rfl⟩;refine to (sn rfl) (aD ?_);refine tih h (fun j h => ?_) (fun j h => ?_)
  ·obtain rfl := sIn h;exact cU ⟨rfl, _, [f], [.box b7 0 (aJ x5)], _, .none, .refl _, .same _, f, g, rfl⟩
  ·refine cG ?_;refine aC (to (sar rfl rfl rfl) (tm (.i (w64 (c + 1))) (aD ?_)));exact ⟨(w64 (c + 1), ⟨(y8.1, f), (aVn g (bnf j))⟩), h, aT [0] rfl rfl (aM rfl (aR ⟨rfl, rfl, rfl, trivial⟩))⟩
 ·refine cD ?_;refine .inl ⟨rfl, ?_⟩;simp only [gR] at h;obtain rfl := sIn h;exact ⟨_, [y2.1.2], [], _, .none, .refl _, .same _, y2.1.2, y2.2, rfl⟩

theorem tK (a : List aG) {r : (List aG)} (h : jA a = some r) : dI Tryz.prog 119 [.d Z32, .fn 107 (Z43 a)] [] (fun r' o' => ∃ (w0 : Value), r' = .d (.lit w0) ∧ o' = [.arr w0 32 5 (r.map aJ)]) := by
 unfold jA at h;refine iM Tryz.func119 rfl (rs := [.tmp 4]) Tryz.results119 Tryz.ntmps119 (Nat.le_of_ble_eq_true rfl) ?_;refine bP (sY 32 5) ?_;refine aF (aC ?_);refine bO rfl (jM (v := .d Z32) (aK rfl) rfl rfl rfl) ?_;rintro _ ⟨b1, rfl⟩;refine to (gY 32 5 (.inl rfl) (aK rfl)) ?_;refine aD (aF (aF (aC (tm (.fn 107 (Z43 a)) (aD (bQ ?_))))));obtain ⟨⟨s3, b9⟩, h4, h⟩ := bns h;refine aPv (S := (List aG) × Value) (S0 := (List aG)) (f := 107) (ps := [7]) (fun z7 => z7.1) (fun z7 => [.arr z7.2 32 5 (z7.1.map aJ), .box b1 0 [.lit z7.2], .arr (.slice none 0 0) 32 5 (([] : List aG).map aJ)]) (aUw (fun x8 : aG => .agg (aJ x8)) _) (([] : List aG), (.slice none 0 0)) ([] : List aG) (s3, b9) (aT [0, 1, 2] rfl rfl (le_refl _)) rfl Tryz.call107 rfl (by decide) rfl rfl (fun l J K hy m0 h0 => pP (S := (List aG)) J K l _ (fun _ _ _ _ hJ hq => hy _ _ _ _ hJ ⟨_, rfl, hq⟩) a _ m0 h0 h4) ?_ ?_ ?_
 ·rintro ⟨e5, w6⟩ _ _ ⟨x8, rfl, h⟩;refine ⟨rfl, ?_⟩;refine aC ?_;refine bO rfl (fC (zs := [.j 0, .j 0, .j 0, .j 0, .j 0]) (aK rfl) Tryz.zeroValue32 rfl rfl) ?_;rintro _ ⟨k, rfl⟩;refine to (sst 3 rfl rfl Tryz.sizeOf32 (aJ x8)) (aD (bQ (aC (to (sl 1 rfl rfl rfl aJk) (to (sla 3 (aJ x8) rfl rfl jJ) (to (gH (aK rfl) dG rfl rfl (rows := ([x8]).map aJ) rfl (aY (f := aJ) fun _ => rfl) rfl (by decide)) ?_))))));obtain ⟨g, j, h⟩ := bns h;refine bO rfl (kS (i := 0) (aK rfl) dG rfl rfl rfl (fun _ => rfl) j rfl) ?_;rintro _ ⟨e, rfl⟩;refine to (sst 1 rfl rfl Tryz.sizeOf24 [.lit e]) ?_;refine dA ?_;obtain rfl := sIn h;exact ⟨rfl, (g, e), rfl, aT [0, 1, 2] rfl rfl aUq⟩
 ·rintro ⟨e5, w6⟩ b c;subst c;have h := aFi b h;refine aUz ?_;refine aF (aC (to (sl 1 rfl rfl rfl aJk) (ta (.d (.lit w6)) (aD ?_))));obtain rfl := sIn h;exact cU ⟨rfl, _, [.arr w6 32 5 (e5.map aJ)], [.box b1 0 [.lit w6], .arr (.slice none 0 0) 32 5 (([] : List aG).map aJ)], _, .one (.tmp 4 (v := .d (.lit w6)) rfl), .refl _, .same _, w6, rfl, rfl⟩
 ·rintro ⟨e5, w6⟩ b c;subst c;have h := pQ b h;cases h

theorem uO (a : List aG) {r : (List aG)} (h : iD a = some r) : dI Tryz.prog 105 [.fn 107 (Z43 a)] [] (fun r' o' => ∃ (w0 : Value), r' = .d (.lit w0) ∧ o' = [.arr w0 32 5 (r.map aJ)]) := by
 unfold iD at h;refine iM Tryz.func105 rfl (rs := [.tmp 2]) Tryz.results105 Tryz.ntmps105 (Nat.le_of_ble_eq_true rfl) ?_;refine aF (aC (to (gY 32 5 (.inl rfl) (aK rfl)) ?_));refine aD (aF (aC (tm (.fn 107 (Z43 a)) ?_)));obtain ⟨r2, h3, h⟩ := bns h;refine bO rfl (kK (aK rfl) (.func _ _ Tryz.call119) rfl rfl (tK _ h3)) ?_;rintro _ ⟨v4, rfl⟩;refine ta (.d (.lit v4)) (aD ?_);obtain rfl := sIn h;refine bP (aT [1, 0] rfl rfl (le_refl _)) ?_;exact cU ⟨rfl, _, [.arr v4 32 5 (r2.map aJ)], Z40, _, .one (.tmp 2 (v := .d (.lit v4)) rfl), .refl _, .same _, v4, rfl, rfl⟩

theorem uP (x : List aG) (cmp : aG → aG → Option Int) {r : List aG} {x_v : Value} {e : TypeId} (f : Nat) (v : List AV) (he : ∀ args w, (callFunc f args).run Tryz.prog w = .ok (.enter f args) w) (hh : ∀ x0 x1 r, cmp x0 x1 = some r → Fn Tryz.prog f ([.agg (aJ x0), .agg (aJ x1)] ++ v) (.i r)) (h : mB x cmp = some r) : dI Tryz.prog 106 [.d (.lit x_v), .fn f v] [.arr x_v e 5 (x.map aJ)] (fun r' o' => r' = .tup [] ∧ o' = [.arr x_v e 5 (r.map aJ)]) := aTo (k := 5) (enc := aJ) (fun _ => rfl) (fun _ => rfl) (by intro x v hv; simp [aJ, cE] at hv; rcases hv with h | h | h | h | h <;> subst h <;> rfl) (fun enc hk h1 cf hO g cb blk off cap d w => Tryz.slices_SortFunc_total_k enc hk h1 cf hO g cb blk off cap d w) (fun p cap fv w => Tryz.slices_SortFunc_none_k p cap fv w) he hh h

theorem sU (c : List aG) (e : aG → aG → Option Int) {r : (List aG)} (a : Nat) (b : List AV) (f : ∀ args w, (callFunc a args).run Tryz.prog w = .ok (.enter a args) w) (g : ∀ (x0 : aG) (x1 : aG) r, e x0 x1 = some r → Fn Tryz.prog a ([.agg (aJ x0), .agg (aJ x1)] ++ b) (.i r)) (h : gI c e = some r) : dI Tryz.prog 74 [.fn 107 (Z43 c), .fn a b] [] (fun r' o' => ∃ (w0 : Value), r' = .d (.lit w0) ∧ o' = [.arr w0 32 5 (r.map aJ)]) := by
 unfold gI at h;refine iM Tryz.func74 rfl (rs := [.tmp 4]) Tryz.results74 Tryz.ntmps74 (Nat.le_of_ble_eq_true rfl) ?_;refine aF (aC (to (gY 32 5 (.inl rfl) (aK rfl)) ?_));refine aD (aF (aC (tm (.fn 107 (Z43 c)) ?_)));obtain ⟨r2, h3, h⟩ := bns h;refine bO rfl (kK (aK rfl) (.func _ _ Tryz.call105) rfl rfl (uO _ h3)) ?_;rintro _ ⟨v4, rfl⟩;refine ta (.d (.lit v4)) (aD (aF (aC (tm (.d (.lit v4)) (tm (.fn a b) ?_)))));obtain ⟨r5, h6, h⟩ := bns h;refine dF (aT [1, 0] rfl rfl (le_refl _)) ?_;refine bO rfl (iO (passed := [.arr v4 32 5 (r2.map aJ)]) (aK rfl) rfl (.func _ _ Tryz.call106) rfl rfl (uP r2 e a b f g h6)) ?_;rintro _ ⟨_, _, ⟨rfl, rfl⟩, rfl⟩;refine aD (aF (aC (tm (.d (.lit v4)) (ta (.d (.lit v4)) (aD ?_)))));obtain rfl := sIn h;exact cU ⟨rfl, _, [.arr v4 32 5 (r5.map aJ)], Z40, _, .one (.tmp 4 (v := .d (.lit v4)) rfl), .refl _, .same _, v4, rfl, rfl⟩

theorem aAh (a : List Int) {r : Int} (h : nN a = some r) : Fn Tryz.prog 77 [.d (Z26 a)] (.i r) := by
 unfold nN at h;refine oT [.tmp 2] Tryz.func77 Tryz.results77 Tryz.ntmps77 ?_;refine aF (aC (ta (.i 0) (aD (aF (aC (ta (.i 0) (aD (aF (aF (aC (tm (Z58 a) (to (sle rfl bS.of) (tm (.i 0) ?_)))))))))))));refine aD (bQ ?_);refine cO (S := Int) [3, 6, 7] (fun s1 => [(8, .i s1)]) (fun s1 => []) (fun k s1 => nL 0 a (a.length : Int) k s1) (fun _ => rfl) (0) h (aT [] rfl rfl (aM rfl (aR ⟨rfl, rfl, rfl, trivial⟩))) ?_;rintro k2 b h;simp only [nL] at h;refine aF (aC (to (scm rfl rfl rfl) (aD (aF ?_))));refine tih h (fun c3 h => ?_) (fun c3 h => ?_)
 ·refine bE (aF (bQ (aF (aC ?_))));obtain ⟨x4, h5, h⟩ := bns h;refine to (six rfl rfl bS.of (cJ aI h5)) (to (slc rfl aV) (ta (.i x4) (aD (aF (aC (tm (.i x4) (tm (.i 0) (to (scm rfl rfl rfl) (aD ?_)))))))));refine tih h (fun c6 h => ?_) (fun c6 h => ?_)
  ·refine aF (aC (tm (.i x4) (ta (.i x4) (aD ?_))));obtain rfl := sIn h;exact rt
  ·refine cG ?_;refine aC (to (sar rfl rfl rfl) (tm (.i (w64 (b + 1))) (aD ?_)));exact ⟨(w64 (b + 1)), h, aT [] rfl rfl (aM rfl (aR ⟨rfl, rfl, rfl, trivial⟩))⟩
 ·refine cD ?_;refine .inl ⟨rfl, ?_⟩;simp only [sA] at h;refine aF (aC (tm (.i 0) (ta (.i 0) (aD ?_))));obtain rfl := sIn h;exact rt

theorem aDx (a : aG) (b : aG) {r : Int} (h : eC a b = some r) : Fn Tryz.prog 76 [.agg (aJ a), .agg (aJ b)] (.i r) := by
 unfold eC at h;refine oT [.tmp 4] Tryz.func76 Tryz.results76 Tryz.ntmps76 ?_;refine aF (aC ?_);refine bO rfl (jM (v := .agg (aJ a)) (aK rfl) rfl rfl rfl) ?_;rintro _ ⟨b1, rfl⟩;refine bO rfl (jM (v := .agg (aJ b)) (aK rfl) rfl rfl rfl) ?_;rintro _ ⟨b2, rfl⟩;refine ta (.i 0) (aD (aF (aC (tfl 0 rfl rfl eU rfl aV (tfl 1 rfl rfl eU rfl aV (to (sar rfl rfl rfl) (tfl 0 rfl rfl iI rfl aV (tfl 1 rfl rfl iI rfl aV (to (sar rfl rfl rfl) ?_)))))))));refine to (gH (aK rfl) bS rfl rfl (rows := ([w64 (a.Hour - b.Hour), w64 (a.Id - b.Id)]).map aI) rfl (aY (f := aI) fun _ => rfl) rfl (by decide)) ?_;obtain ⟨r3, h4, h⟩ := bns h;refine to (scr Tryz.call77 (aAh _ h4)) (ta (.i r3) (aD ?_));obtain rfl := sIn h;refine bP (bK (bM (l := [4]) ⟨rfl, trivial⟩)) ?_;exact rt

theorem vJ (s : List aG) {r : (List aG)} {j : Value} (h : fV s = some r) : dI Tryz.prog 78 [.d (.lit j)] [.arr j 32 5 (s.map aJ)] (fun r' o' => ∃ w0 : Value, r' = .d (.lit w0) ∧ o' = [.arr w0 32 5 (r.map aJ)]) := by
 unfold fV at h;refine iM Tryz.func78 rfl (rs := [.tmp 2]) Tryz.results78 Tryz.ntmps78 (Nat.le_of_ble_eq_true rfl) ?_;refine aF (aC (to (gY 32 5 (.inl rfl) (aK rfl)) ?_));refine aD (aF (aF (aC (tm (Z51 j) (to (iP (m := 0) (aK rfl) rfl rfl dG.of) ?_)))));refine to (scm rfl rfl rfl) (aD ?_);refine tih h (fun c2 h => ?_) (fun c2 h => ?_)
 ·refine aF (aC (tm (Z51 j) (ta (Z51 j) (aD ?_))));obtain rfl := sIn h;exact cU ⟨rfl, _, [.arr j 32 5 (s.map aJ)], Z40, _, .one (.tmp 2 (v := .d (.lit j)) rfl), .refl _, .same _, j, rfl, rfl⟩
 ·refine bE (aF (aF (aC (ta (.i 1) (aD (bQ ?_))))));refine cO (S := Int × (List aG) × Value) [] (fun s3 => [(0, .d (.lit s3.2.2)), (3, .i s3.1)]) (fun s3 => [.arr s3.2.2 32 5 (s3.2.1.map aJ)]) (fun k s3 => cP k s3.1 s3.2.1) (fun _ => rfl) (1, s, j) h (aT [0] rfl rfl (aM rfl (aM rfl (aR trivial)))) ?_;rintro k5 ⟨c, p, w4⟩ h;simp only [cP] at h;refine aF (aF (aC (tm (.i c) (tm (.d (.lit w4)) (to (iP (m := 0) (aK rfl) rfl rfl dG.of) ?_)))));refine to (scm rfl rfl rfl) (aD ?_);refine tih h (fun c6 h => ?_) (fun c6 h => ?_)
  ·refine bE (aF (bQ (aF ?_)));obtain ⟨x7, h8, h⟩ := bns h;obtain ⟨x9, x, h⟩ := bns h;refine cB mix 9 [0, 3] [(19, .agg (aJ x7)), (24, .agg (aJ x9))] ?_ ?_
   ·refine ⟨[(16, 0, .d (.lit w4)), (17, 1, .i c), (18, 2, .ep w4 5 c.toNat 0), (19, 3, .agg (aJ x7)), (20, 4, .d (.lit w4)), (21, 5, .i c), (22, 6, .i (w64 (c - 1))), (23, 7, .ep w4 5 (w64 (c - 1)).toNat 0), (24, 8, .agg (aJ x9))], ?_, ?_⟩
    · exact dk [0, 0, 102, 3, 0, 0, 6, 507, 8] ⟨go (zm (.d (.lit w4))),
      go (zm (.i c)),
      go (zia 0 rfl rfl rfl dG.of (cJ aJ h8)),
      go fun S hS => rM (aK rfl) (aU hS rfl) (l := 0) rfl (qZ aJ h8) jJ (es := (aJ x7)) rfl rfl,
      go (zm (.d (.lit w4))),
      go (zm (.i c)),
      go (zar rfl rfl rfl),
      go (zia 0 rfl rfl rfl dG.of (cJ aJ x)),
      go fun S hS => rM (aK rfl) (aU hS rfl) (l := 0) rfl (qZ aJ x) jJ (es := (aJ x9)) rfl rfl, trivial⟩
    · exact bV (aM rfl (aM rfl (aR ⟨rfl, rfl, trivial⟩)))
   ·refine to (aVf (a := x7) (b := x9) (aK rfl) rfl rfl rfl rfl Tryz.eqGuardType32 aDz) ?_;refine aD ?_;refine tih h (fun C h => ?_) (fun C h => ?_)
    ·refine aF (aC (tm (.d (.lit w4)) (tm (.i c) ?_)));obtain ⟨K, E, h⟩ := bns h;refine to (rB (m := 0) (aK rfl) rfl rfl rfl dG.of E) ?_;refine ta (.d (.lit (iQ w4 c.toNat 5))) (aD (aF (aF (aC (ta (.i 1) (aD (bQ ?_)))))));refine cO (S := Int × Int × (List aG)) [] (fun o => [(0, .d (.lit w4)), (3, .i o.1), (4, .d (.lit (iQ w4 c.toNat 5))), (5, .i o.2.1)]) (fun o => [.arr w4 32 5 (o.2.2.map aJ)]) (fun k o => dK (cP k5) c k o.1 o.2.1 o.2.2) (fun _ => rfl) (c, 1, p) h (aT [0] rfl rfl (aM rfl (aM rfl (aM rfl (aM rfl (aR trivial)))))) ?_;rintro L ⟨g, e, n⟩ h;simp only [dK] at h;refine aF (aF (aC (tm (.i e) (tm (.d (.lit (iQ w4 c.toNat 5))) (to (aEz (m := 0) (aK rfl) rfl rfl dG.of) ?_)))));refine to (scm rfl rfl rfl) (aD ?_);refine tih h (fun F h => ?_) (fun F h => ?_)
     ·refine bE (aF (bQ (aF ?_)));obtain ⟨t, y, h⟩ := bns h;obtain ⟨u, z, h⟩ := bns h;refine cB mix 9 [0, 3, 4, 5] [(38, .agg (aJ t)), (43, .agg (aJ u))] ?_ ?_
      ·refine ⟨[(35, 0, .d (.lit (iQ w4 c.toNat 5))), (36, 1, .i e), (37, 2, .ep w4 5 (c.toNat + e.toNat) 0), (38, 3, .agg (aJ t)), (39, 4, .d (.lit (iQ w4 c.toNat 5))), (40, 5, .i e), (41, 6, .i (w64 (e - 1))), (42, 7, .ep w4 5 (c.toNat + (w64 (e - 1)).toNat) 0), (43, 8, .agg (aJ u))], ?_, ?_⟩
       · exact dk [0, 0, 102, 3, 0, 0, 6, 507, 8] ⟨go (zm (.d (.lit (iQ w4 c.toNat 5)))),
      go (zm (.i e)),
      go fun S hS => pS (m := 0) (aK rfl) (aU hS rfl) rfl (aU hS rfl) dG.of (oM (f := aJ) y),
      go fun S hS => rM (aK rfl) (aU hS rfl) (l := 0) rfl (wG aJ y) jJ (es := (aJ t)) rfl rfl,
      go (zm (.d (.lit (iQ w4 c.toNat 5)))),
      go (zm (.i e)),
      go (zar rfl rfl rfl),
      go fun S hS => pS (m := 0) (aK rfl) (aU hS rfl) rfl (aU hS rfl) dG.of (oM (f := aJ) z),
      go fun S hS => rM (aK rfl) (aU hS rfl) (l := 0) rfl (wG aJ z) jJ (es := (aJ u)) rfl rfl, trivial⟩
       · exact bV (aM rfl (aM rfl (aR ⟨rfl, rfl, rfl, rfl, trivial⟩)))
      ·refine to (aNc (a := t) (b := u) (aK rfl) rfl rfl rfl rfl Tryz.eqGuardType32 aDz) ?_;refine aD ?_;refine tih h (fun G h => ?_) (fun G h => ?_)
       ·refine aF (aC (tm (.d (.lit w4)) (tm (.i g) (tm (.d (.lit (iQ w4 c.toNat 5))) (tm (.i e) ?_)))));obtain ⟨w, A, h⟩ := bns h;refine to (pS (m := 0) (aK rfl) rfl rfl rfl dG.of (oM (f := aJ) A)) ?_;refine to (rM (aK rfl) rfl (l := 0) rfl (wG aJ A) jJ (es := (aJ w)) rfl rfl) ?_;obtain ⟨M, B, h⟩ := bns h;refine to (mP (m := 0) (aK rfl) rfl rfl rfl dG.of (cJ aJ B)) ?_;refine to (zR (l := 0) rfl rfl (qZ aJ B) rfl rfl rfl Tryz.sizeOf32 rfl (aK rfl) (Nat.le_of_ble_eq_true rfl) (rows' := ((n.set g.toNat w)).map aJ) (aGa _ _ _ _ rfl)) ?_;refine aD (aC (tm (.i g) (to (sar rfl rfl rfl) (ta (.i (w64 (g + 1))) ?_))));refine dA ?_;refine aC (tm (.i e) (to (sar rfl rfl rfl) (ta (.i (w64 (e + 1))) (aD ?_))));exact ⟨(w64 (g + 1), w64 (e + 1), (n.set g.toNat w)), h, aT [0] rfl rfl (aM rfl (aM rfl (aM rfl (aM rfl (aR trivial)))))⟩
       ·refine cG ?_;refine aC (tm (.i e) (to (sar rfl rfl rfl) (ta (.i (w64 (e + 1))) (aD ?_))));exact ⟨(g, w64 (e + 1), n), h, aT [0] rfl rfl (aM rfl (aM rfl (aM rfl (aM rfl (aR trivial)))))⟩
     ·refine cD ?_;refine .inl ⟨rfl, ?_⟩;simp only [lH] at h;refine aF (aC (tm (.d (.lit w4)) (tm (.i g) ?_)));obtain ⟨N, H, h⟩ := bns h;refine to (rB (m := 0) (aK rfl) rfl rfl rfl dG.of H) ?_;obtain ⟨O, I, h⟩ := bns h;refine to (aDo (f := aJ) (m := 0) dG rfl rfl I (by decide)) ?_;refine aD (aF (aC (tm (.d (.lit w4)) (tm (.i g) ?_))));obtain ⟨P, J, h⟩ := bns h;refine to (rA (m := 0) (q := g.toNat) (v := w4) (aK rfl) rfl rfl rfl rfl (aAg J) dG.of) ?_;refine ta (.d (.lit (fB w4 g.toNat))) (aD ?_);obtain rfl := sIn h;exact cU ⟨rfl, _, [.arr (fB w4 g.toNat) 32 5 ((n.take g.toNat).map aJ)], [], _, .one (.tmp 2 (v := .d (.lit (fB w4 g.toNat))) rfl), .refl _, .same _, (fB w4 g.toNat), rfl, rfl⟩
    ·refine cG ?_;simp only [lG] at h;refine aC (tm (.i c) (to (sar rfl rfl rfl) (ta (.i (w64 (c + 1))) (aD ?_))));exact ⟨(w64 (c + 1), p, w4), h, aT [0] rfl rfl (aM rfl (aM rfl (aR trivial)))⟩
  ·refine cD ?_;refine .inl ⟨rfl, ?_⟩;simp only [lF] at h;refine aF (aC (tm (.d (.lit w4)) (ta (.d (.lit w4)) (aD ?_))));obtain rfl := sIn h;exact cU ⟨rfl, _, [.arr w4 32 5 (p.map aJ)], [], _, .one (.tmp 2 (v := .d (.lit w4)) rfl), .refl _, .same _, w4, rfl, rfl⟩

theorem fZ (a : aH) {r : Int} (h : eO a = some r) : Fn Tryz.prog 36 [.cp (bA a)] (.i r) := by
 unfold eO at h;refine oT [.tmp 2] Tryz.func36 Tryz.results36 Tryz.ntmps36 ?_;refine aF (aC (ta (.i 0) (aD (aF ?_))));refine cB mix 9 [] [(7, .i a.Field.Places), (11, .i a.more)] ?_ ?_
 ·refine ⟨[(3, 0, .cp [.j a.Field.Places, .j a.Field.Wilds, .j a.Field.Guards, .j a.Field.Close, .j a.Field.Freeze, .mp true (a.players.map fun p : Int × aA => (VI p.1, aB p.2)), .sl 1 (Z10 a), .k a.frozen, .sl 1 (Z9 a), .sl 1 (Z15 a), .j a.more, .j a.entered]), (4, 1, .cp [.j a.Field.Places, .j a.Field.Wilds, .j a.Field.Guards, .j a.Field.Close, .j a.Field.Freeze, .mp true (a.players.map fun p : Int × aA => (VI p.1, aB p.2)), .sl 1 (Z10 a), .k a.frozen, .sl 1 (Z9 a), .sl 1 (Z15 a), .j a.more, .j a.entered]), (5, 2, .cp [.j a.Field.Places, .j a.Field.Wilds, .j a.Field.Guards, .j a.Field.Close, .j a.Field.Freeze]), (6, 3, .cp [.j a.Field.Places]), (7, 4, .i a.Field.Places), (8, 5, .cp [.j a.Field.Places, .j a.Field.Wilds, .j a.Field.Guards, .j a.Field.Close, .j a.Field.Freeze, .mp true (a.players.map fun p : Int × aA => (VI p.1, aB p.2)), .sl 1 (Z10 a), .k a.frozen, .sl 1 (Z9 a), .sl 1 (Z15 a), .j a.more, .j a.entered]), (9, 6, .cp [.j a.Field.Places, .j a.Field.Wilds, .j a.Field.Guards, .j a.Field.Close, .j a.Field.Freeze, .mp true (a.players.map fun p : Int × aA => (VI p.1, aB p.2)), .sl 1 (Z10 a), .k a.frozen, .sl 1 (Z9 a), .sl 1 (Z15 a), .j a.more, .j a.entered]), (10, 7, .cp [.j a.more]), (11, 8, .i a.more)], ?_, ?_⟩
  · exact dk [0, 1, 2, 3, 4, 0, 6, 7, 8] ⟨go (zm (Z1 a)),
      go fun S hS => cK (aK rfl) (aU hS rfl),
      go (zfc [.j a.Field.Places, .j a.Field.Wilds, .j a.Field.Guards, .j a.Field.Close, .j a.Field.Freeze] rfl fI),
      go (zfc [.j a.Field.Places] rfl aDg),
      go (zlc rfl aV),
      go (zm (Z1 a)),
      go fun S hS => cK (aK rfl) (aU hS rfl),
      go (zfc [.j a.more] rfl wS),
      go (zlc rfl aV), trivial⟩
  · exact bV (aM rfl (aM rfl (aR trivial)))
 ·refine to (sar rfl rfl rfl) (ta (.i (w64 (a.Field.Places + a.more))) (aD ?_));obtain rfl := sIn h;exact rt

theorem qC (c : aH) (f : List Int) {r : Int} (h : iU c f = some r) : Fn Tryz.prog 67 [.cp (bA c), .d (Z26 f)] (.i r) := by
 unfold iU at h;refine oT [.tmp 4] Tryz.func67 Tryz.results67 Tryz.ntmps67 ?_;refine aF (aC (ta (.i 0) (aD (aF (aF (aC (tm (Z58 f) (to (sle rfl bS.of) (tm (.i 0) (aD (bQ ?_)))))))))));refine cO (S := Int × Int) [0, 7, 8] (fun s1 => [(4, .i s1.1), (9, .i s1.2)]) (fun s1 => []) (fun k s1 => fO c f (f.length : Int) k s1.1 s1.2) (fun _ => rfl) (0, 0) h (aT [] rfl rfl (aM rfl (aM rfl (aR ⟨rfl, rfl, rfl, trivial⟩)))) ?_;rintro k2 ⟨b, e⟩ h;simp only [fO] at h;refine aF (aC (to (scm rfl rfl rfl) (aD (aF ?_))));refine tih h (fun c3 h => ?_) (fun c3 h => ?_)
 ·refine bE (aF (bQ (aF (aC ?_))));obtain ⟨x4, h5, h⟩ := bns h;refine to (six rfl rfl bS.of (cJ aI h5)) (to (slc rfl aV) (ta (.i x4) (aD (aF (aC (tm (Z1 c) (to (cK (aK rfl) rfl) ?_)))))));refine to (sfc [.mp true (c.players.map fun p : Int × aA => (VI p.1, aB p.2))] rfl dL) (to (slc rfl fF) (tm (.i x4) (to (iK (enc := aB) (agg := true) (l := c.players) (z := Z2) (a := x4) (aK rfl) gO Tryz.underlying68 Tryz.zeroValue94 (fun _ _ => .agg (iZ rfl)) rfl rfl rfl rfl (cT (kv := VI) x4)) ?_)));refine to (mO (aK rfl) rfl Tryz.runUnderlying94 rfl eV rfl) ?_;refine aD ?_;refine tih h (fun c6 h => ?_) (fun c6 h => ?_)
  ·refine aC (tm (.i b) (to (sar rfl rfl rfl) (ta (.i (w64 (b + 1))) ?_)));refine dA ?_;refine aC (to (sar rfl rfl rfl) (tm (.i (w64 (e + 1))) (aD ?_)));exact ⟨(w64 (b + 1), w64 (e + 1)), h, aT [] rfl rfl (aM rfl (aM rfl (aR ⟨rfl, rfl, rfl, trivial⟩)))⟩
  ·refine cG ?_;refine aC (to (sar rfl rfl rfl) (tm (.i (w64 (e + 1))) (aD ?_)));exact ⟨(b, w64 (e + 1)), h, aT [] rfl rfl (aM rfl (aM rfl (aR ⟨rfl, rfl, rfl, trivial⟩)))⟩
 ·refine cD ?_;refine .inl ⟨rfl, ?_⟩;simp only [oZ] at h;refine aF (aC (tm (.i b) (ta (.i b) (aD ?_))));obtain rfl := sIn h;exact rt

theorem tC (c : List (Int × aA)) (d : Int) {r : Bool} {f g j k m o q s t u e : D} (h : fP c d = some r) : Fn Tryz.prog 83 [.cp [f, g, j, k, m, .mp true (c.map fun p : Int × aA => (VI p.1, aB p.2)), o, q, s, t, u, e], .i d] (.b r) := by
 unfold fP at h;refine oT [.tmp 4] Tryz.func83 Tryz.results83 Tryz.ntmps83 ?_;refine aF (aC (ta Z18 (aD (aF (aC (tm (.cp [f, g, j, k, m, .mp true (c.map fun p : Int × aA => (VI p.1, aB p.2)), o, q, s, t, u, e]) (to (cK (aK rfl) rfl) ?_)))))));refine to (sfc [.mp true (c.map fun p : Int × aA => (VI p.1, aB p.2))] rfl dL) (to (slc rfl fF) (tm (.i d) (to (iK (enc := aB) (agg := true) (l := c) (z := Z2) (a := d) (aK rfl) gO Tryz.underlying68 Tryz.zeroValue94 (fun _ _ => .agg (iZ rfl)) rfl rfl rfl rfl (cT (kv := VI) d)) ?_)));refine bO rfl (fC (zs := [.k false, .k false, .j 0, .j 0, .k false, .k false, .k false, .k false]) (aK rfl) Tryz.zeroValue94 rfl rfl) ?_;rintro _ ⟨b1, rfl⟩;refine to (sst 0 rfl rfl Tryz.sizeOf94 (aB (aE d Z2 c))) (aD (aF (aC (tfl 0 rfl rfl wT rfl eV (tm (.b ((aE d Z2 c).entered)) ?_)))));obtain ⟨b2, h3, h⟩ := bns h;refine bG 4 [5] 18 b2 ?_ ?_
 ·refine bch h3 (fun c7 h3 => ?_) (fun c7 h3 => ?_)
  ·refine tkl 0 c7 rfl rfl pE rfl eV (tk c7 (sn rfl) (to (spt (.b (!((aE d Z2 c).quit))) c7) ?_));obtain rfl := sIn h3;refine aD (aS rfl ⟨rfl, trivial⟩ rfl)
  ·refine tp c7 (tp c7 (tp c7 (to (spf Z18 c7) ?_)));obtain rfl := sIn h3;refine aD (aS rfl ⟨rfl, trivial⟩ rfl)
 ·refine tm (.b b2) ?_;obtain ⟨b4, h5, h⟩ := bns h;refine bG 4 [] 23 b4 ?_ ?_
  ·refine bch h5 (fun c6 h5 => ?_) (fun c6 h5 => ?_)
   ·refine tkl 0 c6 rfl rfl aDh rfl eV (tk c6 (sn rfl) (to (spt (.b (!((aE d Z2 c).had))) c6) ?_));obtain rfl := sIn h5;refine aD (aS rfl trivial rfl)
   ·refine tp c6 (tp c6 (tp c6 (to (spf Z18 c6) ?_)));obtain rfl := sIn h5;refine aD (aS rfl trivial rfl)
  ·refine ta (.b b4) (aD ?_);obtain rfl := sIn h;refine bP (bK (bM (l := [4]) ⟨rfl, trivial⟩)) ?_;exact rt

theorem yR (x : List Int) (cmp : Int → Int → Option Int) {r : List Int} {x_v : Value} {e : TypeId} (f : Nat) (v : List AV) (he : ∀ args w, (callFunc f args).run Tryz.prog w = .ok (.enter f args) w) (hh : ∀ x0 x1 r, cmp x0 x1 = some r → Fn Tryz.prog f ([.i x0, .i x1] ++ v) (.i r)) (h : qI x cmp = some r) : dI Tryz.prog 84 [.d (.lit x_v), .fn f v] [.arr x_v e 1 (x.map aI)] (fun r' o' => r' = .tup [] ∧ o' = [.arr x_v e 1 (r.map aI)]) := aPn (fun enc h1 cf hO g cb blk off cap d w => Tryz.slices_SortFunc_total enc h1 cf hO g cb blk off cap d w) (fun p cap fv w => Tryz.slices_SortFunc_none (α := Int) p cap fv w) he hh h

theorem qQ (a : aA) {r : Int} (h : gW a = some r) : Fn Tryz.prog 86 [.agg (aB a)] (.i r) := by
 unfold gW at h;refine oT [.tmp 2] Tryz.func86 Tryz.results86 Tryz.ntmps86 ?_;refine aF (aC ?_);refine bO rfl (jM (v := .agg (aB a)) (aK rfl) rfl rfl rfl) ?_;rintro _ ⟨b1, rfl⟩;refine ta (.i 0) (aD (aF (aF (aC (tfl 0 rfl rfl wU rfl aV (to (scm rfl rfl rfl) (aD ?_)))))));refine tih h (fun c2 h => ?_) (fun c2 h => ?_)
 ·refine aF (aC (ta (.i 1) (aD ?_)));obtain rfl := sIn h;refine bP (bK (bM (l := [2]) ⟨rfl, trivial⟩)) ?_;exact rt
 ·refine bE (aF (aC (ta (.i 0) (aD ?_))));obtain rfl := sIn h;refine bP (bK (bM (l := [2]) ⟨rfl, trivial⟩)) ?_;exact rt

theorem yA (e : Int) (g : Int) (c : aH) {r : Int} (h : eG e g c = some r) : Fn Tryz.prog 85 [.i e, .i g, .cp [.pt (bA c)]] (.i r) := by
 unfold eG at h;refine oT [.tmp 5] Tryz.func85 Tryz.results85 Tryz.ntmps85 ?_;refine aF (aC (ta (.i 0) (aD (aF ?_))));refine lS mix 15 [] (fun X1 => [(6, .bp (X1 12).b 0 0), (7, .bp (X1 13).b 0 0), (20, .agg (aB (Z17 g c)))]) (fun X1 => [.box (X1 12).b 0 (aB (Z17 e c)), .box (X1 13).b 0 (aB Z2)]) ?_ ?_
 ·refine ⟨2, fun X1 => [(9, 0, .cp [.j c.Field.Places, .j c.Field.Wilds, .j c.Field.Guards, .j c.Field.Close, .j c.Field.Freeze, .mp true (c.players.map fun p : Int × aA => (VI p.1, aB p.2)), .sl 1 (Z10 c), .k c.frozen, .sl 1 (Z9 c), .sl 1 (Z15 c), .j c.more, .j c.entered]), (10, 1, .cp [.j c.Field.Places, .j c.Field.Wilds, .j c.Field.Guards, .j c.Field.Close, .j c.Field.Freeze, .mp true (c.players.map fun p : Int × aA => (VI p.1, aB p.2)), .sl 1 (Z10 c), .k c.frozen, .sl 1 (Z9 c), .sl 1 (Z15 c), .j c.more, .j c.entered]), (11, 2, .cp [.mp true (c.players.map fun p : Int × aA => (VI p.1, aB p.2))]), (12, 3, .d (.mp true (c.players.map fun p : Int × aA => (VI p.1, aB p.2)))), (13, 4, .i e), (14, 5, .agg (aB (Z17 e c))), (15, 6, .cp [.j c.Field.Places, .j c.Field.Wilds, .j c.Field.Guards, .j c.Field.Close, .j c.Field.Freeze, .mp true (c.players.map fun p : Int × aA => (VI p.1, aB p.2)), .sl 1 (Z10 c), .k c.frozen, .sl 1 (Z9 c), .sl 1 (Z15 c), .j c.more, .j c.entered]), (16, 7, .cp [.j c.Field.Places, .j c.Field.Wilds, .j c.Field.Guards, .j c.Field.Close, .j c.Field.Freeze, .mp true (c.players.map fun p : Int × aA => (VI p.1, aB p.2)), .sl 1 (Z10 c), .k c.frozen, .sl 1 (Z9 c), .sl 1 (Z15 c), .j c.more, .j c.entered]), (17, 8, .cp [.mp true (c.players.map fun p : Int × aA => (VI p.1, aB p.2))]), (18, 9, .d (.mp true (c.players.map fun p : Int × aA => (VI p.1, aB p.2)))), (19, 10, .i g), (20, 11, .agg (aB (Z17 g c))), (6, 12, .bp (X1 12).b 0 0), (7, 13, .bp (X1 13).b 0 0)], fun X1 => [([(14, .box (X1 12).b 0 (aB (Z17 e c))), (12, .box (X1 12).b 0 (aB Z2))], nob), ([(13, .box (X1 13).b 0 (aB Z2))], nob)], ?_, ?_⟩
  · exact xok [(0, 15), (1, 15), (2, 15), (3, 15), (0, 15), (405, 15), (0, 0), (7, 0), (8, 0), (9, 0), (0, 0), (1011, 0), (0, 15), (0, 15), (61314, 0)] ⟨fun X1 S w _ k => xp w (mF (.ptc _) (kC (aK rfl) (aU k rfl) gK)),
      fun X1 S w _ k => xp w (cK (aK rfl) (aU k rfl)),
      fun X1 S w _ k => xp w (yfc k [.mp true (c.players.map fun p : Int × aA => (VI p.1, aB p.2))] rfl dL),
      fun X1 S w _ k => xp w (ylc k rfl fF),
      fun X1 S w _ k => xp w (ym k (.i e)),
      fun X1 S w _ k => xp w (iK (enc := aB) (agg := true) (l := c.players) (z := Z2) (a := e) (aK rfl) gO Tryz.underlying68 Tryz.zeroValue94 (fun _ _ => .agg (iZ rfl)) (aU k rfl) rfl rfl (aU k rfl) (cT (kv := VI) e)),
      fun X1 S w _ k => xp w (mF (.ptc _) (kC (aK rfl) (aU k rfl) gK)),
      fun X1 S w _ k => xp w (cK (aK rfl) (aU k rfl)),
      fun X1 S w _ k => xp w (yfc k [.mp true (c.players.map fun p : Int × aA => (VI p.1, aB p.2))] rfl dL),
      fun X1 S w _ k => xp w (ylc k rfl fF),
      fun X1 S w _ k => xp w (ym k (.i g)),
      fun X1 S w _ k => xp w (iK (enc := aB) (agg := true) (l := c.players) (z := Z2) (a := g) (aK rfl) gO Tryz.underlying68 Tryz.zeroValue94 (fun _ _ => .agg (iZ rfl)) (aU k rfl) rfl rfl (aU k rfl) (cT (kv := VI) g)),
      fun X1 S hw hi hS => tO (X := X1) (p := 0) (v := fun x => .bp x.b 0 0) (mo := fun x => .box x.b 0 (aB Z2)) hS hi rfl rfl (fun _ => rfl) hw (fun _ => rfl) (fun _ => rfl) (fun _ => rfl) (fun _ => ⟨rfl, rfl, .inr rfl, ⟨rfl, rfl, .inr rfl, ⟨rfl, rfl, .inr rfl, ⟨rfl, rfl, .inr rfl, ⟨rfl, rfl, .inr rfl, ⟨rfl, rfl, .inr rfl, ⟨rfl, rfl, .inr rfl, ⟨rfl, rfl, .inr rfl, ⟨rfl, rfl, .inr rfl, ⟨rfl, rfl, .inr rfl, ⟨rfl, rfl, .inr rfl, ⟨rfl, rfl, .inr rfl, ⟨rfl, rfl, .inl rfl, ⟨rfl, rfl, .inr rfl, trivial⟩⟩⟩⟩⟩⟩⟩⟩⟩⟩⟩⟩⟩⟩) (fun _ => ⟨⟨rfl, .inl rfl, ⟨rfl, .inl rfl, trivial⟩⟩, rfl, ⟨⟨rfl, .inr rfl, trivial⟩, rfl, trivial⟩⟩) (lR (fC (zs := [.k false, .k false, .j 0, .j 0, .k false, .k false, .k false, .k false]) (aK rfl) Tryz.zeroValue94 rfl rfl) (by rintro _ ⟨w, rfl⟩; exact ⟨⟨w, undef⟩, aT [2, 1] rfl rfl (le_refl _)⟩)),
      fun X1 S hw hi hS => tO (X := X1) (p := 1) (v := fun x => .bp x.b 0 0) (mo := fun x => .box x.b 0 (aB Z2)) hS hi rfl rfl (fun _ => rfl) hw (fun _ => rfl) (fun _ => rfl) (fun _ => rfl) (fun _ => ⟨rfl, rfl, .inr rfl, ⟨rfl, rfl, .inr rfl, ⟨rfl, rfl, .inr rfl, ⟨rfl, rfl, .inr rfl, ⟨rfl, rfl, .inr rfl, ⟨rfl, rfl, .inr rfl, ⟨rfl, rfl, .inr rfl, ⟨rfl, rfl, .inr rfl, ⟨rfl, rfl, .inr rfl, ⟨rfl, rfl, .inr rfl, ⟨rfl, rfl, .inr rfl, ⟨rfl, rfl, .inr rfl, ⟨rfl, rfl, .inr rfl, ⟨rfl, rfl, .inl rfl, trivial⟩⟩⟩⟩⟩⟩⟩⟩⟩⟩⟩⟩⟩⟩) (fun _ => ⟨⟨rfl, .inr rfl, ⟨rfl, .inr rfl, trivial⟩⟩, rfl, ⟨⟨rfl, .inl rfl, trivial⟩, rfl, trivial⟩⟩) (lR (fC (zs := [.k false, .k false, .j 0, .j 0, .k false, .k false, .k false, .k false]) (aK rfl) Tryz.zeroValue94 rfl rfl) (by rintro _ ⟨w, rfl⟩; exact ⟨⟨w, undef⟩, aT [0, 2] rfl rfl (le_refl _)⟩)),
      fun X1 S w _ k => xs 0 k rfl rfl (lL (i := 0) (aU k rfl) (og k rfl rfl) (aU k rfl) rfl rfl Tryz.sizeOf94 rfl (aK rfl) (Nat.le_of_ble_eq_true rfl) (ds' := (aB (Z17 e c))) rfl), trivial⟩
  · exact fun X1 => bV (aM rfl (aM rfl (aM rfl (aR trivial))))
 ·intro X1;refine to (sst 1 rfl rfl Tryz.sizeOf94 (aB (Z17 g c))) (aD (aF (aC (ta (.fn 86 []) (aD (aF ?_))))));obtain ⟨r2, h3, h⟩ := bns h;obtain ⟨r4, h5, h⟩ := bns h;refine cB mix 17 [] [(27, .i (w64 (r2 - r4))), (32, .i (w64 (((Z17 e c).rank) - ((Z17 g c).rank)))), (37, .i (w64 (((Z17 e c).turn) - ((Z17 g c).turn))))] ?_ ?_
  ·refine ⟨[(21, 0, .fn 86 []), (22, 1, .agg (aB (Z17 e c))), (23, 2, .i r2), (24, 3, .fn 86 []), (25, 4, .agg (aB (Z17 g c))), (26, 5, .i r4), (27, 6, .i (w64 (r2 - r4))), (28, 7, .bp (X1 12).b 0 2), (29, 8, .i ((Z17 e c).rank)), (30, 9, .bp (X1 13).b 0 2), (31, 10, .i ((Z17 g c).rank)), (32, 11, .i (w64 (((Z17 e c).rank) - ((Z17 g c).rank)))), (33, 12, .bp (X1 12).b 0 3), (34, 13, .i ((Z17 e c).turn)), (35, 14, .bp (X1 13).b 0 3), (36, 15, .i ((Z17 g c).turn)), (37, 16, .i (w64 (((Z17 e c).turn) - ((Z17 g c).turn))))], ?_, ?_⟩
   · exact dk [0, 0, 102, 0, 0, 405, 306, 0, 8, 0, 10, 911, 0, 13, 0, 15, 1416] ⟨go (zm (.fn 86 [])),
      go (zla 0 (aB (Z17 e c)) rfl rfl kV),
      go fun S hS => lA (aK rfl) (.clo _ _ _ _ Tryz.call86 (aEv hS rfl)) (aFl (ev2 (aU hS rfl) evn)) rfl (BVs.refl _ _) (qQ _ h3) rfl,
      go (zm (.fn 86 [])),
      go (zla 1 (aB (Z17 g c)) rfl rfl kV),
      go fun S hS => lA (aK rfl) (.clo _ _ _ _ Tryz.call86 (aEv hS rfl)) (aFl (ev2 (aU hS rfl) evn)) rfl (BVs.refl _ _) (qQ _ h5) rfl,
      go (zar rfl rfl rfl),
      go (zf rfl wU),
      go (zl 0 rfl rfl rfl aV),
      go (zf rfl wU),
      go (zl 1 rfl rfl rfl aV),
      go (zar rfl rfl rfl),
      go (zf rfl zD),
      go (zl 0 rfl rfl rfl aV),
      go (zf rfl zD),
      go (zl 1 rfl rfl rfl aV),
      go (zar rfl rfl rfl), trivial⟩
   · exact bV (aM rfl (aM rfl (aM rfl (aR trivial))))
  ·refine to (gH (aK rfl) bS rfl rfl (rows := ([w64 (r2 - r4), w64 (((Z17 e c).rank) - ((Z17 g c).rank)), w64 (((Z17 e c).turn) - ((Z17 g c).turn))]).map aI) rfl (aY (f := aI) fun _ => rfl) rfl (by decide)) ?_;obtain ⟨r6, h7, h⟩ := bns h;refine to (scr Tryz.call77 (aAh _ h7)) (ta (.i r6) (aD ?_));obtain rfl := sIn h;refine bP (bK (bM (l := [5]) ⟨rfl, trivial⟩)) ?_;exact rt

theorem yK (a : aH) {Q : (List Int) → Prop} (h : nP a Q) : dI Tryz.prog 52 [.cp (bA a)] [] (fun r' o' => ∃ (r : (List Int)) (w0 : Value), Q r ∧ r' = .d (.lit w0) ∧ o' = [.arr w0 3 1 (r.map aI)]) := by
 unfold nP at h;refine iM Tryz.func52 rfl (rs := [.tmp 2]) Tryz.results52 Tryz.ntmps52 (Nat.le_of_ble_eq_true rfl) ?_;refine aF (aC ?_);refine dF (aOh 0 rfl (.cpt _)) ?_;refine bO rfl (jM (v := .d (.pt (bA a))) (aK rfl) rfl rfl rfl) ?_;rintro _ ⟨b1, rfl⟩;refine to (gY 3 1 (.inl rfl) (aK rfl)) ?_;refine aD (aF (aC (to (gY 3 1 (.inl rfl) (aK rfl)) ?_)));refine aD (aF (aF (aC (to (mF (.ptc _) (lO (aK rfl) rfl (i := 0) rfl rfl gK)) ?_))));refine to (cK (aK rfl) rfl) ?_;refine to (sfc [.mp true (a.players.map fun p : Int × aA => (VI p.1, aB p.2))] rfl dL) (to (slc rfl fF) ?_);refine bO rfl (aNe (kv := VI) (enc := aB) (agg := true) (l := a.players) (av := (fun v : aA => AV.agg (aB v))) (fun _ => rfl) (aK rfl) Tryz.underlying68 rfl rfl) ?_;rintro _ ⟨q4, r5, o, e, h8, rfl⟩;have h := aJj h h8;refine aD (bQ ?_);refine aRs [1, 9] (fun (j : (List Int) × Value × (List Nat)) => [(3, .d (.lit j.2.1))]) (fun (j : (List Int) × Value × (List Nat)) => [.box b1 0 [.pt (bA a)], .arr j.2.1 3 1 (j.1.map aI), uU VI (fun v : aA => AV.agg (aB v)) a.players r5 o e, .iter q4 r5 e j.2.2 e]) (fun (k : Nat) (j : (List Int) × Value × (List Nat)) => gG Q a k j.1 (mL a.players o j.2.2)) (fun _ h => h) (([] : List Int), (.slice none 0 0), []) h (aT [0, 2, 3, 4] rfl rfl (aM rfl (aR ⟨rfl, rfl, trivial⟩))) ?_;rintro H ⟨b, c, g⟩ h;simp only [gG] at h;refine aF (aC ?_);refine bO rfl (aPj (kv := VI) (av := (fun v : aA => AV.agg (aB v))) (l := a.players) (mi := 3) (mm := 2) (aK rfl) rfl rfl rfl) ?_;rintro _ (⟨y, rfl⟩ | ⟨I, q, m, s, rfl⟩)
 ·have h := h.1 y;refine to (sex rfl rfl) (aD (aF ?_));refine aCf rfl (fun t => ?_) (fun t => ?_)
  ·exact absurd t (by decide)
  ·refine cD ?_;refine .inl ⟨rfl, ?_⟩;simp only [lU] at h;refine aF (aC (tm (.d (.lit c)) (to (pO (aK rfl) rfl rfl) ?_)));refine dF (aT [1, 2, 3, 0] rfl rfl (le_refl _)) ?_;apply sT [.arr c 3 1 (b.map aI), uU VI (fun v : aA => AV.agg (aB v)) a.players r5 o e, .iter q4 r5 e g e] [.box b1 0 [.pt (bA a)]] rfl;exact cQ (k := 22) (v := .fn 85 [.cp [.pt (bA a)]]) (qJ (.cons (dO 0 rfl rfl (dvc (.same _) dvn)) .nil)) (cQ (k := 1) (v := .cp [.pt (bA a)]) (dO 0 rfl rfl (dvc (.same _) dvn)) (jR _ _));obtain ⟨u, z, h⟩ := aFt h;refine bO rfl (iO (passed := [.arr c 3 1 (b.map aI)]) (aK rfl) rfl (.func _ _ Tryz.call84) rfl rfl (yR b (fun A B => eG A B a) 85 [.cp [.pt (bA a)]] Tryz.call85 (fun _ _ _ h => yA _ _ a h) z)) ?_;rintro _ ⟨_, _, ⟨rfl, rfl⟩, rfl⟩;refine aD (aF (aC (tm (.d (.lit c)) (ta (.d (.lit c)) (aD ?_)))));exact cU ⟨rfl, _, [.arr c 3 1 (u.map aI)], [uU VI (fun v : aA => AV.agg (aB v)) a.players r5 o e, .iter q4 r5 e g e], _, .one (.tmp 2 (v := .d (.lit c)) rfl), .refl _, .same _, u, c, h, rfl, rfl⟩
 ·have h := aKt h s;refine to (sex rfl rfl) (aD (aF ?_));refine aCf rfl (fun w => ?_) (fun w => ?_)
  ·refine bE (bQ (aF (aC (to (aMz (kv := VI) (av := (fun v : aA => AV.agg (aB v))) (l := a.players) (mi := 3) (mm := 2) (ka := .i m.1) (aK rfl) rfl rfl rfl s (fun _ _ => .d (.lit _ rfl))) ?_))));refine to (sex rfl rfl) (ta (.i m.1) (aD (aF (aC (to (mF (.ptc _) (lO (aK rfl) rfl (i := 0) rfl rfl gK)) ?_)))));refine tm (.i m.1) ?_;obtain ⟨J, C, h⟩ := aFt h;refine to (scr Tryz.call83 (tC _ _ C)) (aD ?_);refine tip h (fun E h => ?_) (fun E h => ?_)
   ·refine aC (tm (.d (.lit c)) (tm (.i m.1) (to (gH (aK rfl) bS rfl rfl (rows := ([m.1]).map aI) rfl (aY (f := aI) fun _ => rfl) rfl (by decide)) ?_)));obtain ⟨F, G, h⟩ := aFt h;refine bO rfl (kS (i := 1) (aK rfl) bS rfl rfl rfl (fun _ => rfl) G rfl) ?_;rintro _ ⟨x, rfl⟩;refine ta (.d (.lit x)) ?_;refine dA ?_;exact ⟨(F, x, (g ++ [q])), h, aT [0, 1, 2, 3] rfl rfl (aM rfl (aR ⟨rfl, rfl, trivial⟩))⟩
   ·refine cG ?_;exact ⟨(b, c, (g ++ [q])), h, aT [0, 1, 2, 3] rfl rfl (aM rfl (aR ⟨rfl, rfl, trivial⟩))⟩
  ·exact absurd w (by decide)

theorem jY (a0 : aH) {r : List Int} (h : eY a0 = some r) : dI Tryz.prog 52 (Z27 a0) [] (fun r' o' => ∃ w0, r' = .d (.lit w0) ∧ o' = [.arr w0 3 1 (r.map aI)]) := aPa (enc := fun x : List Int => x.map aI) (yK a0 (yB a0 h (fun x => x = r) rfl))
theorem tB (a0 : aH) {r : List Int} (h : eY a0 = some r) : Fn Tryz.prog 52 (Z27 a0) (Z58 r) := aOl (jY a0 h)

theorem pB (c : aH) {r : (List Int)} (h : kQ c = some r) : dI Tryz.prog 62 [.cp (bA c)] [] (fun r' o' => ∃ (w0 : Value), r' = .d (.lit w0) ∧ o' = [.arr w0 3 1 (r.map aI)]) := by
 unfold kQ at h;refine iM Tryz.func62 rfl (rs := [.tmp 2]) Tryz.results62 Tryz.ntmps62 (Nat.le_of_ble_eq_true rfl) ?_;refine aF (aC (to (gY 3 1 (.inl rfl) (aK rfl)) ?_));refine aD (aF (aC (to (gY 3 1 (.inl rfl) (aK rfl)) ?_)));refine aD (aF (aF (aC (tm (Z1 c) ?_))));obtain ⟨r3, h4, h⟩ := bns h;refine to (dM (aK rfl) (.func _ _ Tryz.call52) rfl rfl (tB _ h4)) ?_;refine to (sle rfl bS.of) (tm (.i 0) (aD (bQ ?_)));refine cO (S := Int × Z56 × Value) [0, 7, 8] (fun s5 => [(3, .d (.lit s5.2.2)), (9, .i s5.1)]) (fun s5 => [.arr s5.2.2 3 1 (s5.2.1.map aI)]) (fun k s5 => fQ c r3 (r3.length : Int) k s5.1 s5.2.1) (fun _ => rfl) (0, ([] : List Int), (.slice none 0 0)) h (aT [1] rfl rfl (aM rfl (aM rfl (aR ⟨rfl, rfl, rfl, trivial⟩)))) ?_;rintro k7 ⟨q, e, w6⟩ h;simp only [fQ] at h;refine aF (aC (to (scm rfl rfl rfl) (aD (aF ?_))));refine tih h (fun c8 h => ?_) (fun c8 h => ?_)
 ·refine bE (aF (bQ (aF (aC ?_))));obtain ⟨x9, y, h⟩ := bns h;refine to (six rfl rfl bS.of (cJ aI y)) (to (slc rfl aV) (ta (.i x9) (aD (aF ?_))));obtain ⟨o, w, h⟩ := bns h;obtain ⟨A, s, h⟩ := bns h;refine cB mix 26 [0, 3, 5, 7, 8, 9] [(38, .b A)] ?_ ?_
  ·refine bch s (fun g s => ?_) (fun g s => ?_)
   ·obtain ⟨G, t, s⟩ := bns s;refine bch t (fun j t => ?_) (fun j t => ?_)
    ·obtain rfl := sIn t;obtain rfl := sIn s;refine ⟨[(13, 0, .d (.lit w6)), (14, 1, .i (e.length : Int)), (15, 2, .cp [.j c.Field.Places, .j c.Field.Wilds, .j c.Field.Guards, .j c.Field.Close, .j c.Field.Freeze, .mp true (c.players.map fun p : Int × aA => (VI p.1, aB p.2)), .sl 1 (Z10 c), .k c.frozen, .sl 1 (Z9 c), .sl 1 (Z15 c), .j c.more, .j c.entered]), (16, 3, .i o), (17, 4, .b (decide ((e.length : Int) < o))), (18, 5, .b (decide ((e.length : Int) < o))), (19, 6, .cp [.j c.Field.Places, .j c.Field.Wilds, .j c.Field.Guards, .j c.Field.Close, .j c.Field.Freeze, .mp true (c.players.map fun p : Int × aA => (VI p.1, aB p.2)), .sl 1 (Z10 c), .k c.frozen, .sl 1 (Z9 c), .sl 1 (Z15 c), .j c.more, .j c.entered]), (20, 7, .cp [.j c.Field.Places, .j c.Field.Wilds, .j c.Field.Guards, .j c.Field.Close, .j c.Field.Freeze, .mp true (c.players.map fun p : Int × aA => (VI p.1, aB p.2)), .sl 1 (Z10 c), .k c.frozen, .sl 1 (Z9 c), .sl 1 (Z15 c), .j c.more, .j c.entered]), (21, 8, .cp [.mp true (c.players.map fun p : Int × aA => (VI p.1, aB p.2))]), (22, 9, .d (.mp true (c.players.map fun p : Int × aA => (VI p.1, aB p.2)))), (23, 10, .i x9), (24, 11, .agg (aB (aE x9 Z2 c.players))), (25, 12, .b ((aE x9 Z2 c.players).guard)), (26, 13, .b (!((aE x9 Z2 c.players).guard))), (27, 14, .b (!((aE x9 Z2 c.players).guard))), (28, 15, .tup []), (29, 16, .tup []), (30, 17, .tup []), (31, 18, .tup []), (32, 19, .tup []), (33, 20, .tup []), (34, 21, .tup []), (35, 22, .tup []), (36, 23, .tup []), (37, 24, .b true), (38, 25, .b (true))], ?_, ?_⟩
     · exact dk [0, 1, 0, 3, 204, 5, 6, 607, 608, 609, 6, 61011, 612, 613, 614, 15, 15, 151617, 15, 1519, 1520, 1521, 1522, 151823, 61524, 625] ⟨go (zm (.d (.lit w6))),
      go fun S hS => iP (m := 0) (aK rfl) (aU hS rfl) rfl bS.of,
      go (zm (Z1 c)),
      go fun S hS => lA (aK rfl) (.func _ _ Tryz.call36) (ev2 (aU hS rfl) evn) rfl (BVs.refl _ _) (fZ _ w) rfl,
      go (zcm rfl rfl rfl),
      go (zm (.b (decide ((e.length : Int) < o)))),
      gt g (zm (Z1 c)),
      gt g fun S hS => cK (aK rfl) (aU hS rfl),
      gt g (zfc [.mp true (c.players.map fun p : Int × aA => (VI p.1, aB p.2))] rfl dL),
      gt g (zlc rfl fF),
      gt g (zm (.i x9)),
      gt g fun S hS => iK (enc := aB) (agg := true) (l := c.players) (z := Z2) (a := x9) (aK rfl) gO Tryz.underlying68 Tryz.zeroValue94 (fun _ _ => .agg (iZ rfl)) (aU hS rfl) rfl rfl (aU hS rfl) (cT (kv := VI) x9),
      gt g fun S hS => mO (aK rfl) (aU hS rfl) Tryz.runUnderlying94 rfl eV rfl,
      gt g (zn rfl),
      gt g (zm (.b (!((aE x9 Z2 c.players).guard)))),
      gp j,
      gp j,
      gp j,
      gp j,
      gp j,
      gp j,
      gp j,
      gp j,
      gp j,
      gt g (zpt Z37 j),
      go (zpt (.b (true)) g), trivial⟩
     · exact bV (aM rfl (aR ⟨rfl, rfl, rfl, rfl, rfl, rfl, trivial⟩))
    ·obtain ⟨u, B, t⟩ := bns t;obtain rfl := sIn t;obtain rfl := sIn s;refine ⟨[(13, 0, .d (.lit w6)), (14, 1, .i (e.length : Int)), (15, 2, .cp [.j c.Field.Places, .j c.Field.Wilds, .j c.Field.Guards, .j c.Field.Close, .j c.Field.Freeze, .mp true (c.players.map fun p : Int × aA => (VI p.1, aB p.2)), .sl 1 (Z10 c), .k c.frozen, .sl 1 (Z9 c), .sl 1 (Z15 c), .j c.more, .j c.entered]), (16, 3, .i o), (17, 4, .b (decide ((e.length : Int) < o))), (18, 5, .b (decide ((e.length : Int) < o))), (19, 6, .cp [.j c.Field.Places, .j c.Field.Wilds, .j c.Field.Guards, .j c.Field.Close, .j c.Field.Freeze, .mp true (c.players.map fun p : Int × aA => (VI p.1, aB p.2)), .sl 1 (Z10 c), .k c.frozen, .sl 1 (Z9 c), .sl 1 (Z15 c), .j c.more, .j c.entered]), (20, 7, .cp [.j c.Field.Places, .j c.Field.Wilds, .j c.Field.Guards, .j c.Field.Close, .j c.Field.Freeze, .mp true (c.players.map fun p : Int × aA => (VI p.1, aB p.2)), .sl 1 (Z10 c), .k c.frozen, .sl 1 (Z9 c), .sl 1 (Z15 c), .j c.more, .j c.entered]), (21, 8, .cp [.mp true (c.players.map fun p : Int × aA => (VI p.1, aB p.2))]), (22, 9, .d (.mp true (c.players.map fun p : Int × aA => (VI p.1, aB p.2)))), (23, 10, .i x9), (24, 11, .agg (aB (aE x9 Z2 c.players))), (25, 12, .b ((aE x9 Z2 c.players).guard)), (26, 13, .b (!((aE x9 Z2 c.players).guard))), (27, 14, .b (!((aE x9 Z2 c.players).guard))), (28, 15, .cp [.j c.Field.Places, .j c.Field.Wilds, .j c.Field.Guards, .j c.Field.Close, .j c.Field.Freeze, .mp true (c.players.map fun p : Int × aA => (VI p.1, aB p.2)), .sl 1 (Z10 c), .k c.frozen, .sl 1 (Z9 c), .sl 1 (Z15 c), .j c.more, .j c.entered]), (29, 16, .d (.lit w6)), (30, 17, .i u), (31, 18, .cp [.j c.Field.Places, .j c.Field.Wilds, .j c.Field.Guards, .j c.Field.Close, .j c.Field.Freeze, .mp true (c.players.map fun p : Int × aA => (VI p.1, aB p.2)), .sl 1 (Z10 c), .k c.frozen, .sl 1 (Z9 c), .sl 1 (Z15 c), .j c.more, .j c.entered]), (32, 19, .cp [.j c.Field.Places, .j c.Field.Wilds, .j c.Field.Guards, .j c.Field.Close, .j c.Field.Freeze, .mp true (c.players.map fun p : Int × aA => (VI p.1, aB p.2)), .sl 1 (Z10 c), .k c.frozen, .sl 1 (Z9 c), .sl 1 (Z15 c), .j c.more, .j c.entered]), (33, 20, .cp [.j c.Field.Places, .j c.Field.Wilds, .j c.Field.Guards, .j c.Field.Close, .j c.Field.Freeze]), (34, 21, .cp [.j c.Field.Guards]), (35, 22, .i c.Field.Guards), (36, 23, .b (decide (u < c.Field.Guards))), (37, 24, .b (decide (u < c.Field.Guards))), (38, 25, .b (decide (u < c.Field.Guards)))], ?_, ?_⟩
     · exact dk [0, 1, 0, 3, 204, 5, 6, 607, 608, 609, 6, 61011, 612, 613, 614, 15, 15, 151617, 15, 1519, 1520, 1521, 1522, 151823, 61524, 625] ⟨go (zm (.d (.lit w6))),
      go fun S hS => iP (m := 0) (aK rfl) (aU hS rfl) rfl bS.of,
      go (zm (Z1 c)),
      go fun S hS => lA (aK rfl) (.func _ _ Tryz.call36) (ev2 (aU hS rfl) evn) rfl (BVs.refl _ _) (fZ _ w) rfl,
      go (zcm rfl rfl rfl),
      go (zm (.b (decide ((e.length : Int) < o)))),
      gt g (zm (Z1 c)),
      gt g fun S hS => cK (aK rfl) (aU hS rfl),
      gt g (zfc [.mp true (c.players.map fun p : Int × aA => (VI p.1, aB p.2))] rfl dL),
      gt g (zlc rfl fF),
      gt g (zm (.i x9)),
      gt g fun S hS => iK (enc := aB) (agg := true) (l := c.players) (z := Z2) (a := x9) (aK rfl) gO Tryz.underlying68 Tryz.zeroValue94 (fun _ _ => .agg (iZ rfl)) (aU hS rfl) rfl rfl (aU hS rfl) (cT (kv := VI) x9),
      gt g fun S hS => mO (aK rfl) (aU hS rfl) Tryz.runUnderlying94 rfl eV rfl,
      gt g (zn rfl),
      gt g (zm (.b (!((aE x9 Z2 c.players).guard)))),
      gt j (zm (Z1 c)),
      gt j (zm (.d (.lit w6))),
      gt j fun S hS => lA (aK rfl) (.func _ _ Tryz.call67) (ev2 (aU hS rfl) (ev2 (aU hS rfl) evn)) rfl (.cons (.same _) (.cons (.d (bR 0 rfl (aY (f := aI) fun _ => rfl))) .nil)) (qC _ _ B) rfl,
      gt j (zm (Z1 c)),
      gt j fun S hS => cK (aK rfl) (aU hS rfl),
      gt j (zfc [.j c.Field.Places, .j c.Field.Wilds, .j c.Field.Guards, .j c.Field.Close, .j c.Field.Freeze] rfl fI),
      gt j (zfc [.j c.Field.Guards] rfl pD),
      gt j (zlc rfl aV),
      gt j (zcm rfl rfl rfl),
      gt g (zpf (.b (decide (u < c.Field.Guards))) j),
      go (zpt (.b (decide (u < c.Field.Guards))) g), trivial⟩
     · exact bV (aM rfl (aR ⟨rfl, rfl, rfl, rfl, rfl, rfl, trivial⟩))
   ·obtain rfl := sIn s;refine ⟨[(13, 0, .d (.lit w6)), (14, 1, .i (e.length : Int)), (15, 2, .cp [.j c.Field.Places, .j c.Field.Wilds, .j c.Field.Guards, .j c.Field.Close, .j c.Field.Freeze, .mp true (c.players.map fun p : Int × aA => (VI p.1, aB p.2)), .sl 1 (Z10 c), .k c.frozen, .sl 1 (Z9 c), .sl 1 (Z15 c), .j c.more, .j c.entered]), (16, 3, .i o), (17, 4, .b (decide ((e.length : Int) < o))), (18, 5, .b (decide ((e.length : Int) < o))), (19, 6, .tup []), (20, 7, .tup []), (21, 8, .tup []), (22, 9, .tup []), (23, 10, .tup []), (24, 11, .tup []), (25, 12, .tup []), (26, 13, .tup []), (27, 14, .tup []), (28, 15, .tup []), (29, 16, .tup []), (30, 17, .tup []), (31, 18, .tup []), (32, 19, .tup []), (33, 20, .tup []), (34, 21, .tup []), (35, 22, .tup []), (36, 23, .tup []), (37, 24, .tup []), (38, 25, .b false)], ?_, ?_⟩
    · exact dk [0, 1, 0, 3, 204, 5, 6, 607, 608, 609, 6, 61011, 612, 613, 614, 15, 15, 151617, 15, 1519, 1520, 1521, 1522, 151823, 61524, 625] ⟨go (zm (.d (.lit w6))),
      go fun S hS => iP (m := 0) (aK rfl) (aU hS rfl) rfl bS.of,
      go (zm (Z1 c)),
      go fun S hS => lA (aK rfl) (.func _ _ Tryz.call36) (ev2 (aU hS rfl) evn) rfl (BVs.refl _ _) (fZ _ w) rfl,
      go (zcm rfl rfl rfl),
      go (zm (.b (decide ((e.length : Int) < o)))),
      gp g,
      gp g,
      gp g,
      gp g,
      gp g,
      gp g,
      gp g,
      gp g,
      gp g,
      gq,
      gq,
      gq,
      gq,
      gq,
      gq,
      gq,
      gq,
      gq,
      gp g,
      go (zpf Z18 g), trivial⟩
    · exact bV (aM rfl (aR ⟨rfl, rfl, rfl, rfl, rfl, rfl, trivial⟩))
  ·refine aD ?_;refine tih h (fun C h => ?_) (fun C h => ?_)
   ·refine aC (tm (.d (.lit w6)) (tm (.i x9) (to (gH (aK rfl) bS rfl rfl (rows := ([x9]).map aI) rfl (aY (f := aI) fun _ => rfl) rfl (by decide)) ?_)));obtain ⟨E, F, h⟩ := bns h;refine bO rfl (kS (i := 0) (aK rfl) bS rfl rfl rfl (fun _ => rfl) F rfl) ?_;rintro _ ⟨x, rfl⟩;refine ta (.d (.lit x)) ?_;refine dA ?_;refine aC (to (sar rfl rfl rfl) (tm (.i (w64 (q + 1))) (aD ?_)));exact ⟨(w64 (q + 1), E, x), h, aT [0] rfl rfl (aM rfl (aM rfl (aR ⟨rfl, rfl, rfl, trivial⟩)))⟩
   ·refine cG ?_;refine aC (to (sar rfl rfl rfl) (tm (.i (w64 (q + 1))) (aD ?_)));exact ⟨(w64 (q + 1), e, w6), h, aT [0] rfl rfl (aM rfl (aM rfl (aR ⟨rfl, rfl, rfl, trivial⟩)))⟩
 ·refine cD ?_;refine .inl ⟨rfl, ?_⟩;simp only [pA] at h;refine aF (aC (tm (.d (.lit w6)) (ta (.d (.lit w6)) (aD ?_))));obtain rfl := sIn h;exact cU ⟨rfl, _, [.arr w6 3 1 (e.map aI)], [], _, .one (.tmp 2 (v := .d (.lit w6)) rfl), .refl _, .same _, w6, rfl, rfl⟩

theorem qB (a : aH) {r : aH} {k m : Nat} {b : Nat} {e : List Nat} {g : Nat} {c : Value} {j : Value} {d : Value} (h : kP a = some r) : dI Tryz.prog 79 [.bp k m 0] (Z8 k m a b c j d e g) (fun r' o' => ∃ (o : List Nat) (q : Nat) (w2 : Value) (w4 : Value) (w5 : Value), r' = .tup [] ∧ o' = [.box k m [.j r.Field.Places, .j r.Field.Wilds, .j r.Field.Guards, .j r.Field.Close, .j r.Field.Freeze, .lit (.map (some b)), .lit w2, .k r.frozen, .lit w4, .lit w5, .j r.more, .j r.entered], .map b (r.players.map fun p : Int × aA => (VI p.1, (fun v : aA => AV.agg (aB v)) p.2)) o q, .arr w2 3 1 (Z10 r), .arr w4 3 1 (Z9 r), .arr w5 3 1 (Z15 r)]) := by
 unfold kP at h;refine uQ Tryz.func79 rfl (rs := []) Tryz.results79 Tryz.ntmps79 (Nat.le_of_ble_eq_true rfl) ?_;refine aF (aC (tm (.bp k m 0) (to (bB (aK rfl) rfl) ?_)));refine tfl 0 rfl rfl sL rfl eV (to (sn rfl) (aD ?_));refine tih h (fun c1 h => ?_) (fun c1 h => ?_)
 ·refine aC (tm (.bp k m 0) (tm (.bp k m 0) (tm (.bp k m 0) ?_)));obtain ⟨r2, h3, h⟩ := bns h;refine bO rfl (rX (aK rfl) (.func _ _ Tryz.call62) rfl rfl (.cons (dO 0 rfl rfl (dvc (.same _) (dvc (.same _) (dvc (.same _) (dvc (.same _) (dvc (.same _) (dvc (kE (kv := VI) (av := (fun v : aA => AV.agg (aB v))) (l := a.players) (enc := aB) (agg := true) 1 rfl (fun h => by cases h) (fun _ => rfl)) (dvc (bR 2 rfl (aY (f := aI) fun _ => rfl)) (dvc (.same _) (dvc (bR 3 rfl (aY (f := aI) fun _ => rfl)) (dvc (bR 4 rfl (aY (f := aI) fun _ => rfl)) (dvc (.same _) (dvc (.same _) dvn))))))))))))) .nil) (pB _ h3) (kR (fun _ => rfl) _)) ?_;rintro _ ⟨v4, rfl⟩;refine to (bB (aK rfl) rfl) ?_;refine to (sf rfl wR) (to (sst 0 rfl rfl Tryz.sizeOf25 [.j a.Field.Places, .j a.Field.Wilds, .j a.Field.Guards, .j a.Field.Close, .j a.Field.Freeze, .lit (.map (some b)), .lit c, .k a.frozen, .lit v4, .lit d, .j a.more, .j a.entered]) (to (bB (aK rfl) rfl) ?_));refine to (sf rfl sL) (to (sst 0 rfl rfl Tryz.sizeOf4 [.j a.Field.Places, .j a.Field.Wilds, .j a.Field.Guards, .j a.Field.Close, .j a.Field.Freeze, .lit (.map (some b)), .lit c, .k true, .lit v4, .lit d, .j a.more, .j a.entered]) (aD ?_));obtain rfl := sIn h;exact ⟨_, [.box k m [.j a.Field.Places, .j a.Field.Wilds, .j a.Field.Guards, .j a.Field.Close, .j a.Field.Freeze, .lit (.map (some b)), .lit c, .k true, .lit v4, .lit d, .j a.more, .j a.entered], .map b (a.players.map fun p : Int × aA => (VI p.1, (fun v : aA => AV.agg (aB v)) p.2)) e g, .arr c 3 1 (Z10 a), .arr v4 3 1 (r2.map aI), .arr d 3 1 (Z15 a)], [.arr j 3 1 (Z9 a)], _, .none, (cZ (i := 0) rfl).trans (.cons _ ((cZ (i := 0) rfl).trans (.cons _ ((cZ (i := 0) rfl).trans (.cons _ ((cZ (i := 2) rfl).trans (.cons _ ((cZ (i := 1) rfl).trans (.cons _ ((cZ (i := 0) rfl).trans (.cons _ (.refl _)))))))))))), .same _, e, g, c, v4, d, rfl, rfl⟩
 ·refine bE ?_;obtain rfl := sIn h;exact ⟨_, (Z8 k m a b c j d e g), [], _, .none, .refl _, .same _, e, g, c, j, d, rfl, rfl⟩

theorem rY (e : List Int) (g : Int → Option Bool) {r : Int} (c : Nat) (f : List AV) (j : ∀ args w, (callFunc c args).run Tryz.prog w = .ok (.enter c args) w) (l : ∀ (x0 : Int) r, g x0 = some r → Fn Tryz.prog c ([.i x0] ++ f) (.b r)) (h : gQ e g = some r) : Fn Tryz.prog 90 [.d (Z26 e), .fn c f] (.i r) := by
 unfold gQ at h;refine oT [.tmp 4] Tryz.func90 Tryz.results90 Tryz.ntmps90 ?_;refine aF (aC (ta (.i 0) (aD (aF (aF (aC (tm (Z58 e) (to (sle rfl bS.of) (tm (.i 0) (aD (bQ ?_)))))))))));refine cO (S := Int) [0, 1, 7] (fun s1 => [(8, .i s1)]) (fun s1 => []) (fun k s1 => fJ e g (e.length : Int) k s1) (fun _ => rfl) (0) h (aT [] rfl rfl (aM rfl (aR ⟨rfl, rfl, rfl, trivial⟩))) ?_;rintro k2 a h;simp only [fJ] at h;refine aF (aC (to (scm rfl rfl rfl) (aD (aF ?_))));refine tih h (fun c3 h => ?_) (fun c3 h => ?_)
 ·refine bE (aF (bQ (aF (aC (tm (.i a) (ta (.i a) (aD (aF (aC (tm (.fn c f) (tm (Z58 e) (tm (.i a) ?_))))))))))));obtain ⟨x4, h5, h⟩ := bns h;refine to (six rfl rfl bS.of (cJ aI h5)) (to (slc rfl aV) ?_);obtain ⟨r6, h7, h⟩ := bns h;refine to (lA (aK rfl) (.clo _ _ _ _ j rfl) (aFl rfl) rfl (BVs.refl _ _) (l _ _  h7) rfl) ?_;refine aD ?_;refine tih h (fun c8 h => ?_) (fun c8 h => ?_)
  ·refine aF (aC (tm (.i a) (ta (.i a) (aD ?_))));obtain rfl := sIn h;exact rt
  ·refine cG ?_;refine aC (to (sar rfl rfl rfl) (tm (.i (w64 (a + 1))) (aD ?_)));exact ⟨(w64 (a + 1)), h, aT [] rfl rfl (aM rfl (aR ⟨rfl, rfl, rfl, trivial⟩))⟩
 ·refine cD ?_;refine .inl ⟨rfl, ?_⟩;simp only [nJ] at h;refine aF (aC (ta (.i (-1)) (aD ?_)));obtain rfl := sIn h;exact rt

theorem dV (t : List Int) (s : Int → Option Bool) {r : (List Int)} {a : Value} (e : Nat) (j : List AV) (o : ∀ args w, (callFunc e args).run Tryz.prog w = .ok (.enter e args) w) (p : ∀ (x0 : Int) r, s x0 = some r → Fn Tryz.prog e ([.i x0] ++ j) (.b r)) (h : cA t s = some r) : dI Tryz.prog 64 [.d (.lit a), .fn e j] [.arr a 3 1 (t.map aI)] (fun r' o' => ∃ w0 : Value, r' = .d (.lit w0) ∧ o' = [.arr w0 3 1 (r.map aI)]) := by
 unfold cA at h;refine iM Tryz.func64 rfl (rs := [.tmp 4]) Tryz.results64 Tryz.ntmps64 (Nat.le_of_ble_eq_true rfl) ?_;refine aF (aC (to (gY 3 1 (.inl rfl) (aK rfl)) ?_));refine aD (aF (aC (tm (Z51 a) (tm (.fn e j) ?_))));obtain ⟨r2, h3, h⟩ := bns h;refine to (sc Tryz.call90 (rY _ _ e j o p h3) (.cons (.d (bR 0 rfl (aY (f := aI) fun _ => rfl))) (.cons (.same _) .nil))) (ta (.i r2) (aD (aF (aF (aC (tm (.i r2) (to (scm rfl rfl rfl) (aD ?_))))))));refine tih h (fun c4 h => ?_) (fun c4 h => ?_)
 ·refine aF (aC (tm (Z51 a) (ta (Z51 a) (aD ?_))));obtain rfl := sIn h;exact cU ⟨rfl, _, [.arr a 3 1 (t.map aI)], Z22, _, .one (.tmp 4 (v := .d (.lit a)) rfl), .refl _, .same _, a, rfl, rfl⟩
 ·refine bE (aF (aF (aC (tm (.i r2) (to (sar rfl rfl rfl) (ta (.i (w64 (r2 + 1))) (aD (bQ ?_))))))));refine cO (S := Int × Int × Z56) [1] (fun s5 => [(0, .d (.lit a)), (5, .i s5.1), (6, .i s5.2.1)]) (fun s5 => [.arr a 3 1 (s5.2.2.map aI)]) (fun k s5 => eI s k s5.1 s5.2.1 s5.2.2) (fun _ => rfl) (r2, w64 (r2 + 1), t) h (aT [0] rfl rfl (aM rfl (aM rfl (aM rfl (aR ⟨rfl, trivial⟩))))) ?_;rintro k6 ⟨c, g, n⟩ h;simp only [eI] at h;refine aF (aF (aC (tm (.i g) (tm (Z51 a) (to (iP (m := 0) (aK rfl) rfl rfl bS.of) ?_)))));refine to (scm rfl rfl rfl) (aD ?_);refine tih h (fun c7 h => ?_) (fun c7 h => ?_)
  ·refine bE (aF (bQ (aF (aC (tm (Z51 a) (tm (.i g) ?_))))));obtain ⟨x8, h9, h⟩ := bns h;refine to (mP (m := 0) (aK rfl) rfl rfl rfl bS.of (cJ aI h9)) ?_;refine to (oQ (aK rfl) rfl (m := 0) rfl (qZ aI h9) rfl aV) ?_;refine ta (.i x8) (aD (aF (aC (tm (.fn e j) (tm (.i x8) ?_)))));obtain ⟨C, x, h⟩ := bns h;refine to (lA (aK rfl) (.clo _ _ _ _ o rfl) (aFl rfl) rfl (BVs.refl _ _) (p _ _  x) rfl) ?_;refine to (sn rfl) (aD ?_);refine tih h (fun y h => ?_) (fun y h => ?_)
   ·refine aF (aC (tm (Z51 a) (tm (.i c) (tm (.i x8) ?_))));obtain ⟨E, u, h⟩ := bns h;refine to (mP (m := 0) (aK rfl) rfl rfl rfl bS.of (cJ aI u)) ?_;refine to (zR (l := 0) rfl rfl (qZ aI u) rfl rfl rfl Tryz.sizeOf3 rfl (aK rfl) (Nat.le_of_ble_eq_true rfl) (rows' := ((n.set c.toNat x8)).map aI) (aGa _ _ _ _ rfl)) ?_;refine aD (aC (tm (.i c) (to (sar rfl rfl rfl) (ta (.i (w64 (c + 1))) ?_))));refine dA ?_;refine aC (tm (.i g) (to (sar rfl rfl rfl) (ta (.i (w64 (g + 1))) (aD ?_))));exact ⟨(w64 (c + 1), w64 (g + 1), (n.set c.toNat x8)), h, aT [0] rfl rfl (aM rfl (aM rfl (aM rfl (aR ⟨rfl, trivial⟩))))⟩
   ·refine cG ?_;refine aC (tm (.i g) (to (sar rfl rfl rfl) (ta (.i (w64 (g + 1))) (aD ?_))));exact ⟨(c, w64 (g + 1), n), h, aT [0] rfl rfl (aM rfl (aM rfl (aM rfl (aR ⟨rfl, trivial⟩))))⟩
  ·refine cD ?_;refine .inl ⟨rfl, ?_⟩;simp only [mY] at h;refine aF (aC (tm (Z51 a) (tm (.i c) ?_)));obtain ⟨F, z, h⟩ := bns h;refine to (rB (m := 0) (aK rfl) rfl rfl rfl bS.of z) ?_;obtain ⟨G, A, h⟩ := bns h;refine to (aDo (f := aI) (m := 0) bS rfl rfl A (by decide)) ?_;refine aD (aF (aC (tm (Z51 a) (tm (.i c) ?_))));obtain ⟨H, B, h⟩ := bns h;refine to (rA (m := 0) (q := c.toNat) (v := a) (aK rfl) rfl rfl rfl rfl (aAg B) bS.of) ?_;refine ta (.d (.lit (fB a c.toNat))) (aD ?_);obtain rfl := sIn h;exact cU ⟨rfl, _, [.arr (fB a c.toNat) 3 1 ((n.take c.toNat).map aI)], [], _, .one (.tmp 4 (v := .d (.lit (fB a c.toNat))) rfl), .refl _, .same _, (fB a c.toNat), rfl, rfl⟩

theorem nF (a : Int) (c : aG) {r : Bool} (h : eP a c = some r) : Fn Tryz.prog 108 [.i a, .cp (aJ c)] (.b r) := by
 unfold eP at h;refine oT [.tmp 3] Tryz.func108 Tryz.results108 Tryz.ntmps108 ?_;refine aF (aC (ta Z18 (aD (aF (aC (tm (.i a) (to (sfc [.j c.Player] rfl eH) (to (slc rfl aV) (to (scm rfl rfl rfl) (ta (.b (decide (a = c.Player))) (aD ?_)))))))))));obtain rfl := sIn h;exact rt

end Go.Am
