/- The functions compute what the shallow ones say: printed by program. -/
import Derived.Test.YtfdappeickbpeaaGreatEnSh
import Derived.Test.YtfdappeickbpeaaGreatAmVal
import Derived.Test.YtfdappeickbpeaaGreatAmRange
import Derived.Test.YtfdappeickbpeaaGreatAmSort
import Derived.Test.YtfdappeickbpeaaGreatEnShelf
import Derived.Test.YtfdappeickbpeaaGreatAmEnt
import Derived.Test.YtfdappeickbpeaaGreatAmSortF
import Derived.Test.YtfdappeickbpeaaGreatAmRangeC
import Derived.Test.YtfdappeickbpeaaGreatAmPtr
import Derived.Test.YtfdappeickbpeaaGreatAmPrim
import Derived.Test.YtfdappeickbpeaaGreatAmSub
import Derived.Test.YtfdappeickbpeaaGreatEnDet
import Derived.Test.YtfdappeickbpeaaGreatChecked
import Derived.Test.YtfdappeickbpeaaGreatAmShort
import Derived.KernelRfl
namespace Go.Am
open Go.Proofs
open Go.Proofs.Tryz
set_option maxRecDepth 100000
set_option maxHeartbeats 40000000

abbrev D.j (n : Int) : D := .lit (.int .i64 n)
abbrev D.k (b : Bool) : D := .lit (.bool b)
abbrev VI (n : Int) : Value := .int .i64 n
abbrev Z0 (p0 : aO) (p1 : aN) := aL p0.Player (aA.mk false false 0 0 false false false false) p1.players
abbrev Z1 (p0 : aN) : AV := .cp [.j p0.Field.Places, .j p0.Field.Wilds, .j p0.Field.Guards, .j p0.Field.Close, .j p0.Field.Freeze, .mp true (p0.players.map fun p : Int × aA => (VI p.1, aG p.2)), .sl 1 (p0.wilds.map aH), .k p0.frozen, .sl 1 (p0.first.map aH), .sl 1 (p0.late.map aH), .j p0.more, .j p0.entered]
abbrev Z2 := aA.mk false false 0 0 false false false false
abbrev Z3 (p0 : aO) (p1 : aN) := aA.mk ((Z0 p0 p1).entered) ((Z0 p0 p1).guard) ((Z0 p0 p1).rank) ((Z0 p0 p1).turn) true ((Z0 p0 p1).signed) false ((Z0 p0 p1).had)
abbrev Z4 := aK.mk ([] : List aD) ([] : List Int) 0 ([] : List Int)
abbrev Z5 (p0 : Nat) (p1 : Nat) (p2 : aN) (p3 : Nat) (p4 : Value) (p5 : Value) (p6 : Value) (p7 : aO) (p8 : List Nat) (p9 : Nat) : List MO := [.box p0 p1 [.j p2.Field.Places, .j p2.Field.Wilds, .j p2.Field.Guards, .j p2.Field.Close, .j p2.Field.Freeze, .lit (.map (some p3)), .lit p4, .k p2.frozen, .lit p5, .lit p6, .j p2.more, .j p2.entered], .map p3 ((cR p7.Player (Z0 p7 p2) p2.players).map fun p : Int × aA => (VI p.1, (fun v : aA => AV.agg (aG v)) p.2)) (mbs p7.Player p2.players p8 p9) (mck p7.Player p2.players p9), .arr p4 3 1 (p2.wilds.map aH), .arr p5 3 1 (p2.first.map aH), .arr p6 3 1 (p2.late.map aH)]
abbrev Z6 (p0 : aO) (p1 : aN) := aA.mk ((Z0 p0 p1).entered) ((Z0 p0 p1).guard) ((Z0 p0 p1).rank) ((Z0 p0 p1).turn) ((Z0 p0 p1).quit) ((Z0 p0 p1).signed) true true
abbrev Z7 (p0 : aO) (p1 : aN) := aA.mk true (decide (p0.Kind = 2)) p0.Rank (w64 (p1.entered + 1)) ((Z0 p0 p1).quit) ((Z0 p0 p1).signed) ((Z0 p0 p1).wild) ((Z0 p0 p1).had)
abbrev Z8 (p0 : aO) (p1 : aN) := aA.mk ((Z0 p0 p1).entered) ((Z0 p0 p1).guard) ((Z0 p0 p1).rank) ((Z0 p0 p1).turn) ((Z0 p0 p1).quit) true ((Z0 p0 p1).wild) ((Z0 p0 p1).had)
abbrev Z9 := ([] : List aD).map aB
abbrev Z10 := (([] : List Int)).map aH
abbrev Z11 (p0 : aK) := p0.Wilds.map aH
abbrev Z12 (p0 : aK) := p0.In.map aH
abbrev Z13 (p0 : Nat) (p1 : Nat) (p2 : aN) (p3 : Nat) (p4 : Value) (p5 : Value) (p6 : Value) (p7 : List Nat) (p8 : Nat) : List MO := [.box p0 p1 [.j p2.Field.Places, .j p2.Field.Wilds, .j p2.Field.Guards, .j p2.Field.Close, .j p2.Field.Freeze, .lit (.map (some p3)), .lit p4, .k p2.frozen, .lit p5, .lit p6, .j p2.more, .j p2.entered], .map p3 (p2.players.map fun p : Int × aA => (VI p.1, (fun v : aA => AV.agg (aG v)) p.2)) p7 p8, .arr p4 3 1 (p2.wilds.map aH), .arr p5 3 1 (p2.first.map aH), .arr p6 3 1 (p2.late.map aH)]
abbrev Z14 (p0 : aO) := decide (p0.Kind = 2)
abbrev Z15 (p0 : List aO) : D := .sl 5 (p0.map aJ)
abbrev Z16 (p0 : aN) := p0.first.map aH
abbrev Z17 (p0 : aN) := p0.wilds.map aH
abbrev Z18 (p0 : aO) (p1 : aN) := decide (p0.Hour ≤ p1.Field.Freeze)
abbrev Z19 (p0 : aN) := p0.late.map aH
abbrev Z20 (p0 : aO) (p1 : aN) := aG (aA.mk true (Z14 p0) p0.Rank ((Z0 p0 p1).turn) ((Z0 p0 p1).quit) ((Z0 p0 p1).signed) ((Z0 p0 p1).wild) ((Z0 p0 p1).had))
abbrev Z21 : AV := .b false
abbrev Z22 (p0 : List Int) : D := .sl 1 (p0.map aH)
abbrev Z23 (p0 : Nat) : D := .lit (.map (some p0))
abbrev Z24 (p0 : Int) (p1 : aN) := aL p0 Z2 p1.players
abbrev Z25 : List D := [.sl 7 ((([] : List aD)).map aB), .sl 1 Z10, .j 0, .sl 1 Z10]
abbrev Z26 (p0 : aO) : List AV := [.cp [.j p0.Id, .j p0.Hour, .j p0.Kind, .j p0.Player, .j p0.Rank]]
abbrev Z27 (p0 : aO) (p1 : aN) := aG (aA.mk ((Z0 p0 p1).entered) ((Z0 p0 p1).guard) ((Z0 p0 p1).rank) ((Z0 p0 p1).turn) true ((Z0 p0 p1).signed) ((Z0 p0 p1).wild) ((Z0 p0 p1).had))
abbrev Z28 : List MO := [.arr (.slice none 0 0) 3 1 (([] : List Int).map aH)]
abbrev Z29 (p0 : aO) (p1 : aN) := aG (aA.mk true ((Z0 p0 p1).guard) ((Z0 p0 p1).rank) ((Z0 p0 p1).turn) ((Z0 p0 p1).quit) ((Z0 p0 p1).signed) ((Z0 p0 p1).wild) ((Z0 p0 p1).had))
abbrev Z30 (p0 : aO) (p1 : aN) (p2 : Nat) := mck p0.Player p1.players p2
abbrev Z31 (p0 : aO) (p1 : aN) := aG (aA.mk true (Z14 p0) ((Z0 p0 p1).rank) ((Z0 p0 p1).turn) ((Z0 p0 p1).quit) ((Z0 p0 p1).signed) ((Z0 p0 p1).wild) ((Z0 p0 p1).had))
abbrev Z32 (p0 : aO) (p1 : aN) (p2 : List Nat) (p3 : Nat) := mbs p0.Player p1.players p2 p3
abbrev Z33 (p0 : aK) := w64 (p0.Back + 1)
abbrev Z34 (p0 : aN) : List AV := [.cp [.j p0.Field.Places, .j p0.Field.Wilds, .j p0.Field.Guards, .j p0.Field.Close, .j p0.Field.Freeze, .mp true (p0.players.map fun p : Int × aA => (VI p.1, aG p.2)), .sl 1 (Z17 p0), .k p0.frozen, .sl 1 (Z16 p0), .sl 1 (Z19 p0), .j p0.more, .j p0.entered]]
abbrev Z35 (p0 : aO) (p1 : aN) := (Z0 p0 p1).wild
abbrev Z36 := dK.mk ([] : List Int) ([] : List Int) ([] : List Int) 0
abbrev Z37 (p0 : Nat) (p1 : Nat) (p2 : aN) (p3 : Nat) (p4 : Value) (p5 : Value) (p6 : Value) (p7 : aO) (p8 : List Nat) (p9 : Nat) : List MO := [.box p0 p1 [.j p2.Field.Places, .j p2.Field.Wilds, .j p2.Field.Guards, .j p2.Field.Close, .j p2.Field.Freeze, .lit (.map (some p3)), .lit p4, .k p2.frozen, .lit p5, .lit p6, .j p2.more, .j (w64 (p2.entered + 1))], .map p3 ((cR p7.Player (Z7 p7 p2) p2.players).map fun p : Int × aA => (VI p.1, (fun v : aA => AV.agg (aG v)) p.2)) (Z32 p7 p2 p8 p9) (Z30 p7 p2 p9), .arr p4 3 1 (Z17 p2), .arr p5 3 1 (Z16 p2), .arr p6 3 1 (Z19 p2)]
abbrev Z38 (p0 : aN) := decide ((p0.wilds.length : Int) < p0.Field.Wilds)
abbrev Z39 := aQ (aT.mk 3 1 1 10 20)
abbrev Z40 : D := .lit (.slice none 0 0)
abbrev Z41 (p0 : Nat) (p1 : Nat) (p2 : aN) (p3 : Nat) (p4 : Value) (p5 : Value) (p6 : Value) (p7 : aO) (p8 : List Nat) (p9 : Nat) : List MO := [.box p0 p1 [.j p2.Field.Places, .j p2.Field.Wilds, .j p2.Field.Guards, .j p2.Field.Close, .j p2.Field.Freeze, .lit (.map (some p3)), .lit p4, .k p2.frozen, .lit p5, .lit p6, .j p2.more, .j p2.entered], .map p3 ((cR p7.Player (Z8 p7 p2) p2.players).map fun p : Int × aA => (VI p.1, (fun v : aA => AV.agg (aG v)) p.2)) (Z32 p7 p2 p8 p9) (Z30 p7 p2 p9), .arr p4 3 1 (Z17 p2), .arr p5 3 1 (Z16 p2), .arr p6 3 1 (Z19 p2)]
abbrev Z42 (p0 : aO) : D := .sl 1 (([p0.Player]).map aH)
abbrev Z43 : List D := [.sl 1 Z10, .sl 1 Z10, .sl 1 Z10, .j 0]
abbrev Z44 := ([] : List Int).map aH
abbrev Z45 (p0 : List aO) : AV := .d (Z15 p0)
abbrev Z46 (p0 : aN) (p1 : Value) (p2 : Value) (p3 : Value) : List AV := [.cp [.pt [.j p0.Field.Places, .j p0.Field.Wilds, .j p0.Field.Guards, .j p0.Field.Close, .j p0.Field.Freeze, .mp true (p0.players.map fun p : Int × aA => (VI p.1, aG p.2)), .lit p1, .k p0.frozen, .lit p2, .lit p3, .j p0.more, .j p0.entered]]]
abbrev Z47 : List D := [.lit (.slice none 0 0), .sl 1 Z10, .j 0, .sl 1 Z10]
abbrev Z48 : AV := .b true
abbrev Z49 (p0 : aT) (p1 : aO) : AV := .b (decide (p0.Freeze < p1.Hour))
abbrev Z50 (p0 : aO) : AV := .b (decide (p0.Kind = 3))
abbrev Z51 (p0 : aO) : AV := .b (decide (p0.Kind = 4))
abbrev Z52 (p0 : aO) : AV := .b (decide (p0.Kind = 5))
abbrev Z53 (p0 : aN) := w64 (p0.entered + 1)
abbrev Z54 (p0 : aO) (p1 : aN) := (Z0 p0 p1).quit
abbrev Z55 : List MO := [.arr (.slice none 0 0) 32 5 (([] : List aO).map aJ)]
abbrev Z56 (p0 : aK) := p0.People.map aB
abbrev Z57 (p0 : aN) (p1 : aO) := decide (p0.Field.Freeze < p1.Hour)
abbrev Z58 (p0 : aT) (p1 : aK) : AV := .b (decide (p0.Wilds ≤ (p1.Wilds.length : Int)))
abbrev Z59 (p0 : Int × Int) : AV := .tup [.i p0.1, .i p0.2]
abbrev Z60 (p0 : List Int) : AV := .d (Z22 p0)
abbrev Z61 := aB (aD.mk 0 0 false false false false false)
abbrev Z62 (p0 : aO) (p1 : aN) := aG (aA.mk ((Z0 p0 p1).entered) ((Z0 p0 p1).guard) ((Z0 p0 p1).rank) ((Z0 p0 p1).turn) (Z54 p0 p1) ((Z0 p0 p1).signed) true ((Z0 p0 p1).had))
abbrev Z63 (p0 : List aO) : List AV := [.cp [.sl 5 (p0.map aJ)]]
abbrev Z64 (p0 : Value) : AV := .d (.lit p0)
abbrev Z65 (p0 : aK) (p1 : aT) : List D := [.sl 1 (Z12 p0), .sl 1 (Z11 p0), .lit (.slice none 0 0), .j (w64 ((w64 (p1.Places + p0.Back)) - (p0.In.length : Int)))]
abbrev Z66 := List Int
abbrev Z67 (p0 : Int) (p1 : aN) := (Z24 p0 p1).signed
abbrev Z68 (p0 : aT) (p1 : List aO) (p2 : Int) : List AV := [.agg (aQ p0), .d (Z15 p1), .i p2]
abbrev Z69 := kX bC (none : Option aN)
abbrev Z70 (p0 : aO) : AV := .b (decide (p0.Kind = 1))
abbrev Z71 (p0 : aO) (p1 : aN) := aG (Z0 p0 p1)
abbrev Z72 (p0 : aN) := w64 (p0.more + 1)
abbrev Z73 := aO.mk 0 0 0 0 0
abbrev Z74 := ([] : List aD)
abbrev Z75 (p0 : aO) (p1 : aN) : AV := .b (!(Z35 p0 p1))
abbrev Z76 : List D := [.sl 1 Z10, .sl 1 Z10, .lit (.slice none 0 0), .j 0]
abbrev Z77 : AV := .b (false)
abbrev Z78 (p0 : aO) (p1 : aN) := aG (Z3 p0 p1)
abbrev Z79 (p0 : aT) (p1 : aO) : AV := .b (decide (p0.Close < p1.Hour))
abbrev Z80 (p0 : aO) (p1 : aN) := cR p0.Player (Z3 p0 p1) p1.players
theorem mix : Tryz.prog.follows .mixedOrders = true := Checked.mixed Tryz.checked

theorem fF : oF Tryz.prog 23 5 := ⟨isAgg23, sizeOf23⟩
theorem cU : SliceTy Tryz.prog 24 32 5 40 (.agg #[.int .i64 0, .int .i64 0, .int .i64 0, .int .i64 0, .int .i64 0]) := ⟨underlying24, ⟨Tryz.t32, by kernel_rfl, rfl, rfl, rfl⟩, rfl, by decide⟩
theorem aW : lP Tryz.prog 3 := ⟨isAgg3, sizeOf3⟩
theorem cE : lP Tryz.prog 25 := ⟨isAgg25, sizeOf25⟩
theorem bP : SliceTy Tryz.prog 25 3 1 8 (.int .i64 0) := ⟨underlying25, ⟨Tryz.t3, by kernel_rfl, rfl, rfl, rfl⟩, rfl, by decide⟩
theorem iL : oF Tryz.prog 32 5 := ⟨isAgg32, sizeOf32⟩
theorem cL : cK Tryz.prog 32 1 1 := cD runUnderlying32 rfl rfl sizeOf3
theorem aHh : oF Tryz.prog 34 4 := ⟨isAgg34, sizeOf34⟩
theorem wI : cK Tryz.prog 23 0 0 := cD runUnderlying23 rfl rfl sizeOf3
theorem tP : cK Tryz.prog 23 1 1 := cD runUnderlying23 rfl rfl sizeOf3
theorem oU : cK Tryz.prog 23 2 2 := cD runUnderlying23 rfl rfl sizeOf3
theorem qH : cK Tryz.prog 23 3 3 := cD runUnderlying23 rfl rfl sizeOf3
theorem fY : cK Tryz.prog 23 4 4 := cD runUnderlying23 rfl rfl sizeOf3
theorem kF : cK Tryz.prog 32 0 0 := cD runUnderlying32 rfl rfl sizeOf3
theorem aDz : aLf Tryz.prog 32 aJ := by
  rintro ⟨a0, a1, a2, a3, a4⟩ ⟨b0, b1, b2, b3, b4⟩ w
  simp [aJ, cY, go_sem, Op.eqFields, Program.fieldsOf] <;> (repeat' split) <;> simp_all
theorem cN : cK Tryz.prog 32 3 3 := cD runUnderlying32 rfl rfl sizeOf3
theorem oV : cK Tryz.prog 32 2 2 := cD runUnderlying32 rfl rfl sizeOf3
theorem kG : cK Tryz.prog 32 4 4 := cD runUnderlying32 rfl rfl sizeOf3
theorem aMh : cK Tryz.prog 34 0 0 := cD runUnderlying34 rfl rfl sizeOf25
theorem aMi : cK Tryz.prog 34 1 1 := cD runUnderlying34 rfl rfl sizeOf25
theorem aCc : cK Tryz.prog 34 2 2 := cD runUnderlying34 rfl rfl sizeOf25
theorem aYz : tG Tryz.prog 23 (.agg #[.int .i64 0, .int .i64 0, .int .i64 0, .int .i64 0, .int .i64 0]) [(0, 1), (1, 1), (2, 1), (3, 1), (4, 1)] := ⟨zeroValue23, _, runUnderlying23, fun w => by simp [sizeOf3]⟩
theorem aTm : tG Tryz.prog 32 (.agg #[.int .i64 0, .int .i64 0, .int .i64 0, .int .i64 0, .int .i64 0]) [(0, 1), (1, 1), (2, 1), (3, 1), (4, 1)] := ⟨zeroValue32, _, runUnderlying32, fun w => by simp [sizeOf3]⟩
theorem aNv : tG Tryz.prog 34 (.agg #[.slice none 0 0, .slice none 0 0, .slice none 0 0, .int .i64 0]) [(0, 1), (1, 1), (2, 1), (3, 1)] := ⟨zeroValue34, _, runUnderlying34, fun w => by simp [sizeOf25, sizeOf3]⟩
theorem kH : cK Tryz.prog 70 2 6 := cD runUnderlying70 rfl rfl sizeOf25
theorem iW : vL Tryz.prog 3 VI := aSk underlying3
theorem aZa : tG Tryz.prog 70 (.agg #[.int .i64 0, .int .i64 0, .int .i64 0, .int .i64 0, .int .i64 0, .map none, .slice none 0 0, .bool false, .slice none 0 0, .slice none 0 0, .int .i64 0, .int .i64 0]) [(0, 5), (5, 1), (6, 1), (7, 1), (8, 1), (9, 1), (10, 1), (11, 1)] := ⟨zeroValue70, _, runUnderlying70, fun w => by simp [sizeOf23, sizeOf25, sizeOf3, sizeOf4, sizeOf68]⟩
theorem vA : cK Tryz.prog 70 3 7 := cD runUnderlying70 rfl rfl sizeOf4
theorem dN : lP Tryz.prog 4 := ⟨isAgg4, sizeOf4⟩
theorem aNd : lP Tryz.prog 24 := ⟨isAgg24, sizeOf24⟩
theorem zG : cK Tryz.prog 70 4 8 := cD runUnderlying70 rfl rfl sizeOf25
theorem dZ : cK Tryz.prog 70 1 5 := cD runUnderlying70 rfl rfl sizeOf68
theorem gF : lP Tryz.prog 68 := ⟨isAgg68, sizeOf68⟩
theorem gU : cK Tryz.prog 70 0 0 := cD runUnderlying70 rfl rfl sizeOf23
theorem zH : cK Tryz.prog 70 6 10 := cD runUnderlying70 rfl rfl sizeOf3
theorem iD : lP Tryz.prog 64 := ⟨isAgg64, sizeOf64⟩
theorem zI : cK Tryz.prog 94 0 0 := cD runUnderlying94 rfl rfl sizeOf4
theorem rN : cK Tryz.prog 94 4 4 := cD runUnderlying94 rfl rfl sizeOf4
theorem aGu : cK Tryz.prog 94 7 7 := cD runUnderlying94 rfl rfl sizeOf4
theorem mM : oF Tryz.prog 94 8 := ⟨isAgg94, sizeOf94⟩
theorem wL : cK Tryz.prog 94 2 2 := cD runUnderlying94 rfl rfl sizeOf3
theorem aCf : cK Tryz.prog 94 3 3 := cD runUnderlying94 rfl rfl sizeOf3
theorem wK : cK Tryz.prog 70 7 11 := cD runUnderlying70 rfl rfl sizeOf3
theorem zJ : cK Tryz.prog 94 1 1 := cD runUnderlying94 rfl rfl sizeOf4
theorem kJ : cK Tryz.prog 94 6 6 := cD runUnderlying94 rfl rfl sizeOf4
theorem wM : cK Tryz.prog 94 5 5 := cD runUnderlying94 rfl rfl sizeOf4
theorem wJ : cK Tryz.prog 70 5 9 := cD runUnderlying70 rfl rfl sizeOf25
theorem vY : SliceTy Tryz.prog 106 25 1 24 (.slice none 0 0) := ⟨underlying106, ⟨Tryz.t25, by kernel_rfl, rfl, rfl, rfl⟩, rfl, by decide⟩
theorem aXv : tG Tryz.prog 110 (.agg #[.int .i64 0, .int .i64 0, .int .i64 0, .int .i64 0]) [(0, 1), (1, 1), (2, 1), (3, 1)] := ⟨zeroValue110, _, runUnderlying110, fun w => by simp [sizeOf3]⟩
theorem xW : SliceTy Tryz.prog 112 110 4 32 (.agg #[.int .i64 0, .int .i64 0, .int .i64 0, .int .i64 0]) := ⟨underlying112, ⟨Tryz.t110, by kernel_rfl, rfl, rfl, rfl⟩, rfl, by decide⟩
theorem lZ : oF Tryz.prog 110 4 := ⟨isAgg110, sizeOf110⟩
theorem rA : cK Tryz.prog 110 1 1 := cD runUnderlying110 rfl rfl sizeOf3
theorem tO : cK Tryz.prog 110 0 0 := cD runUnderlying110 rfl rfl sizeOf3
theorem aXd : aLf Tryz.prog 110 aY := by
  rintro ⟨a0, a1, a2, a3⟩ ⟨b0, b1, b2, b3⟩ w
  simp [aY, cY, go_sem, Op.eqFields, Program.fieldsOf] <;> (repeat' split) <;> simp_all
theorem aWu (b : Bool) (a : aX) (w : World) : (Instr.checkKey b 10000 110 (.agg ((aY a).map cY).toArray)).run Tryz.prog w = .ok () w := by
  obtain ⟨a1, a2, a3, a4⟩ := a;rw [show (10000 : Nat) = 9990 + 10 from rfl]
  generalize (9990 : Nat) = m
  simp [Instr.checkKey, aY, cY, go_sem, Std.Legacy.Range.forIn_eq_forIn_range', Std.Legacy.Range.size]
theorem yY : vL Tryz.prog 110 (fun a : aX => Value.agg ((aY a).map cY).toArray) :=
  aMs underlying110 aXd aWu (fun a w => aUn _ rfl _ _) (by
    rintro ⟨a1, a2, a3, a4⟩ ⟨b1, b2, b3, b4⟩ h
    simp [aY] at h ⊢
    simp_all) (fun _ => rfl)
theorem aEc : cK Tryz.prog 110 3 3 := cD runUnderlying110 rfl rfl sizeOf3
theorem aEb : cK Tryz.prog 110 2 2 := cD runUnderlying110 rfl rfl sizeOf3
theorem aCd : cK Tryz.prog 54 0 0 := cD runUnderlying54 rfl rfl sizeOf3
theorem aCe : cK Tryz.prog 54 1 1 := cD runUnderlying54 rfl rfl sizeOf3
theorem bX : oF Tryz.prog 84 4 := ⟨isAgg84, sizeOf84⟩
theorem kI : cK Tryz.prog 84 3 3 := cD runUnderlying84 rfl rfl sizeOf25
theorem cC : SliceTy Tryz.prog 82 97 7 24 (.agg #[.int .i64 0, .int .i64 0, .bool false, .bool false, .bool false, .bool false, .bool false]) := ⟨underlying82, ⟨Tryz.t97, by kernel_rfl, rfl, rfl, rfl⟩, rfl, by decide⟩
theorem cV : cK Tryz.prog 84 0 0 := cD runUnderlying84 rfl rfl sizeOf82
theorem eR : lP Tryz.prog 82 := ⟨isAgg82, sizeOf82⟩
theorem dJ : cK Tryz.prog 84 1 1 := cD runUnderlying84 rfl rfl sizeOf25
theorem oW : cK Tryz.prog 84 2 2 := cD runUnderlying84 rfl rfl sizeOf3
theorem aZb : tG Tryz.prog 84 (.agg #[.slice none 0 0, .slice none 0 0, .int .i64 0, .slice none 0 0]) [(0, 1), (1, 1), (2, 1), (3, 1)] := ⟨zeroValue84, _, runUnderlying84, fun w => by simp [sizeOf25, sizeOf3, sizeOf82]⟩
theorem aZc : tG Tryz.prog 97 (.agg #[.int .i64 0, .int .i64 0, .bool false, .bool false, .bool false, .bool false, .bool false]) [(0, 1), (1, 1), (2, 1), (3, 1), (4, 1), (5, 1), (6, 1)] := ⟨zeroValue97, _, runUnderlying97, fun w => by simp [sizeOf3, sizeOf4]⟩
theorem gS : oF Tryz.prog 97 7 := ⟨isAgg97, sizeOf97⟩
theorem rO : cK Tryz.prog 97 3 3 := cD runUnderlying97 rfl rfl sizeOf4
theorem nY : cK Tryz.prog 97 1 1 := cD runUnderlying97 rfl rfl sizeOf3
theorem oX : cK Tryz.prog 97 2 2 := cD runUnderlying97 rfl rfl sizeOf4
theorem nA : cK Tryz.prog 97 4 4 := cD runUnderlying97 rfl rfl sizeOf4
theorem zL : cK Tryz.prog 97 6 6 := cD runUnderlying97 rfl rfl sizeOf4
theorem zK : cK Tryz.prog 97 5 5 := cD runUnderlying97 rfl rfl sizeOf4
theorem qI : cK Tryz.prog 97 0 0 := cD runUnderlying97 rfl rfl sizeOf3
theorem aNe : lP Tryz.prog 35 := ⟨isAgg35, sizeOf35⟩
theorem tF : SliceTy Tryz.prog 98 84 4 80 (.agg #[.slice none 0 0, .slice none 0 0, .int .i64 0, .slice none 0 0]) := ⟨underlying98, ⟨Tryz.t84, by kernel_rfl, rfl, rfl, rfl⟩, rfl, by decide⟩

theorem aGp (a : List aO) {r : Bool} (h : qN a = some r) : Fn Tryz.prog 20 [.d (Z15 a)] (.b r) := by
 unfold qN at h;refine oT [.tmp 2] func20 results20 ntmps20 ?_;refine aF (aC (ta Z21 (aE (aF (aC (tm (Z45 a) (to (sle rfl cU.of) (to (scm rfl rfl rfl) (tm (.b (decide (20 < (a.length : Int)))) ?_)))))))));obtain ⟨b1, h2, h⟩ := bns h;refine bG 4 [0] 10 b1 ?_ ?_
 ·refine bch h2 (fun c6 h2 => ?_) (fun c6 h2 => ?_)
  ·refine tk c6 (sm (Z45 a)) (tk c6 (sle rfl cU.of) (tk c6 (scm rfl rfl rfl) (to (spt (.b (decide ((a.length : Int) ≤ 60))) c6) ?_)));obtain rfl := sIn h2;refine aE (aV rfl ⟨rfl, trivial⟩ rfl)
  ·refine tp c6 (tp c6 (tp c6 (to (spf Z21 c6) ?_)));obtain rfl := sIn h2;refine aE (aV rfl ⟨rfl, trivial⟩ rfl)
 ·refine tm (.b b1) ?_;obtain ⟨b3, h4, h⟩ := bns h;refine bG 4 [] 15 b3 ?_ ?_
  ·refine bch h4 (fun c5 h4 => ?_) (fun c5 h4 => ?_)
   ·refine tp c5 (tp c5 (tp c5 (to (spt Z48 c5) ?_)));obtain rfl := sIn h4;refine aE (aV rfl trivial rfl)
   ·refine tk c5 (sm (Z45 a)) (tk c5 (sle rfl cU.of) (tk c5 (scm rfl rfl rfl) (to (spf (.b (decide (100 < (a.length : Int)))) c5) ?_)));obtain rfl := sIn h4;refine aE (aV rfl trivial rfl)
  ·refine ta (.b b3) (aE ?_);obtain rfl := sIn h;exact rt

theorem eF (d : Int) (c : Int) (a : Int) {r : Bool} (h : cS d c a = some r) : Fn Tryz.prog 42 [.i d, .i c, .i a] (.b r) := by
 unfold cS at h;refine oT [.tmp 6] func42 results42 ntmps42 ?_;refine aF (aC (ta Z21 (aE (aF (aC (tm (.i d) (tm (.i c) (to (scm rfl rfl rfl) (tm (.b (decide (c ≤ d))) ?_)))))))));obtain ⟨b1, h2, h⟩ := bns h;refine bG 4 [] 14 b1 ?_ ?_
 ·refine bch h2 (fun c3 h2 => ?_) (fun c3 h2 => ?_)
  ·refine tk c3 (sm (.i d)) (tk c3 (sm (.i a)) (tk c3 (scm rfl rfl rfl) (to (spt (.b (decide (d ≤ a))) c3) ?_)));obtain rfl := sIn h2;refine aE (aV rfl trivial rfl)
  ·refine tp c3 (tp c3 (tp c3 (to (spf Z21 c3) ?_)));obtain rfl := sIn h2;refine aE (aV rfl trivial rfl)
 ·refine ta (.b b1) (aE ?_);obtain rfl := sIn h;exact rt

theorem aBe (a : aO) {r : Bool} (h : mQ a = some r) : Fn Tryz.prog 43 [.agg (aJ a)] (.b r) := by
 unfold mQ at h;refine oT [.tmp 2] func43 results43 ntmps43 ?_;refine aF (aC ?_);refine bE rfl (eB (v := .agg (aJ a)) (aM rfl) rfl rfl rfl) ?_;rintro _ ⟨b1, rfl⟩;refine ta Z21 (aE (aF (aF (aC (tfl 0 rfl rfl kF rfl aW ?_)))));obtain ⟨r2, h3, h⟩ := bns h;refine to (scr call42 (eF _ _ _ h3)) (to (sn rfl) (tm (.b (!r2)) ?_));obtain ⟨b4, h5, h⟩ := bns h;refine bG 5 [1] 12 b4 ?_ ?_
 ·refine bch h5 (fun c h5 => ?_) (fun c h5 => ?_)
  ·refine tp c (tp c (tp c (tp c (to (spt Z48 c) ?_))));obtain rfl := sIn h5;refine aE (aV rfl ⟨rfl, trivial⟩ rfl)
  ·refine tkl 0 c rfl rfl cN rfl aW ?_;obtain ⟨e, f, h5⟩ := bns h5;refine tk c (scr call42 (eF _ _ _ f)) (tk c (sn rfl) (to (spf (.b (!e)) c) ?_));obtain rfl := sIn h5;refine aE (aV rfl ⟨rfl, trivial⟩ rfl)
 ·refine tm (.b b4) ?_;obtain ⟨b6, h7, h⟩ := bns h;refine bG 5 [1] 18 b6 ?_ ?_
  ·refine bch h7 (fun d h7 => ?_) (fun d h7 => ?_)
   ·refine tp d (tp d (tp d (tp d (to (spt Z48 d) ?_))));obtain rfl := sIn h7;refine aE (aV rfl ⟨rfl, trivial⟩ rfl)
   ·refine tkl 0 d rfl rfl cL rfl aW ?_;obtain ⟨g, i, h7⟩ := bns h7;refine tk d (scr call42 (eF _ _ _ i)) (tk d (sn rfl) (to (spf (.b (!g)) d) ?_));obtain rfl := sIn h7;refine aE (aV rfl ⟨rfl, trivial⟩ rfl)
  ·refine aE ?_;refine tih h (fun c8 h => ?_) (fun c8 h => ?_)
   ·refine aF (aC (ta Z21 (aE ?_)));obtain rfl := sIn h;refine bQ (bL (bR (l := [2]) ⟨rfl, trivial⟩)) ?_;exact rt
   ·refine bA (aF (aF (aC (tfl 0 rfl rfl oV rfl aW (aE (bH (aF (aC (to (scm rfl rfl rfl) (ta (Z70 a) (aE ?_)))))))))));refine tih h (fun c9 h => ?_) (fun c9 h => ?_)
    ·refine aF (aC (tfl 0 rfl rfl kG rfl aW ?_));obtain ⟨j, k, h⟩ := bns h;refine to (scr call42 (eF _ _ _ k)) (ta (.b j) (aE ?_));obtain rfl := sIn h;refine bQ (bL (bR (l := [2]) ⟨rfl, trivial⟩)) ?_;exact rt
    ·refine aF (aC (to (scm rfl rfl rfl) (ta (.b (Z14 a)) (aE ?_))));refine tih h (fun m h => ?_) (fun m h => ?_)
     ·refine aF (aC (tfl 0 rfl rfl kG rfl aW ?_));obtain ⟨n, o, h⟩ := bns h;refine to (scr call42 (eF _ _ _ o)) (ta (.b n) (aE ?_));obtain rfl := sIn h;refine bQ (bL (bR (l := [2]) ⟨rfl, trivial⟩)) ?_;exact rt
     ·refine aF (aF (aC (to (scm rfl rfl rfl) (ta (Z50 a) (aE ?_)))));refine tih h (fun p h => ?_) (fun p h => ?_)
      ·refine bA ?_;refine tih h (fun q h => ?_) (fun q h => ?_)
       ·refine aF (aC (tfl 0 rfl rfl kG rfl aW (to (scm rfl rfl rfl) (ta (.b (decide (a.Rank = 0))) (aE ?_)))));obtain rfl := sIn h;refine bQ (bL (bR (l := [2]) ⟨rfl, trivial⟩)) ?_;exact rt
       ·refine bZ ?_;refine aF (aC (ta Z21 (aE ?_)));obtain rfl := sIn h;refine bQ (bL (bR (l := [2]) ⟨rfl, trivial⟩)) ?_;exact rt
      ·refine aF (aC (to (scm rfl rfl rfl) (ta (Z51 a) (aE ?_))));refine tih h (fun s h => ?_) (fun s h => ?_)
       ·refine bA ?_;refine tih h (fun t h => ?_) (fun t h => ?_)
        ·refine aF (aC (tfl 0 rfl rfl kG rfl aW (to (scm rfl rfl rfl) (ta (.b (decide (a.Rank = 0))) (aE ?_)))));obtain rfl := sIn h;refine bQ (bL (bR (l := [2]) ⟨rfl, trivial⟩)) ?_;exact rt
        ·refine bZ ?_;refine aF (aC (ta Z21 (aE ?_)));obtain rfl := sIn h;refine bQ (bL (bR (l := [2]) ⟨rfl, trivial⟩)) ?_;exact rt
       ·refine aC (to (scm rfl rfl rfl) (ta (Z52 a) (aE ?_)));refine tih h (fun u h => ?_) (fun u h => ?_)
        ·refine aF (aC (tfl 0 rfl rfl kG rfl aW (to (scm rfl rfl rfl) (ta (.b (decide (a.Rank = 0))) (aE ?_)))));obtain rfl := sIn h;refine bQ (bL (bR (l := [2]) ⟨rfl, trivial⟩)) ?_;exact rt
        ·refine bZ ?_;refine aF (aC (ta Z21 (aE ?_)));obtain rfl := sIn h;refine bQ (bL (bR (l := [2]) ⟨rfl, trivial⟩)) ?_;exact rt

theorem aDs (z : aT) (m : List aO) {r : Int} (h : oQ z m = some r) : Fn Tryz.prog 22 [.agg (aQ z), .d (Z15 m)] (.i r) := by
 unfold oQ at h;refine oT [.tmp 4] func22 results22 ntmps22 ?_;refine aF (aC ?_);refine bE rfl (eB (v := .agg (aQ z)) (aM rfl) rfl rfl rfl) ?_;rintro _ ⟨b1, rfl⟩;refine ta (.i 0) (aE (aF (aF (aC (tfl 0 rfl rfl wI rfl aW ?_)))));obtain ⟨r2, h3, h⟩ := bns h;refine to (scr call42 (eF _ _ _ h3)) (to (sn rfl) (tm (.b (!r2)) ?_));obtain ⟨b4, h5, h⟩ := bns h;refine bG 5 [1, 2] 16 b4 ?_ ?_
 ·refine bch h5 (fun q h5 => ?_) (fun q h5 => ?_)
  ·refine tp q (tp q (tp q (tp q (to (spt Z48 q) ?_))));obtain rfl := sIn h5;refine aE (aV rfl ⟨rfl, rfl, trivial⟩ rfl)
  ·refine tkl 0 q rfl rfl tP rfl aW ?_;obtain ⟨C, E, h5⟩ := bns h5;refine tk q (scr call42 (eF _ _ _ E)) (tk q (sn rfl) (to (spf (.b (!C)) q) ?_));obtain rfl := sIn h5;refine aE (aV rfl ⟨rfl, rfl, trivial⟩ rfl)
 ·refine tm (.b b4) ?_;obtain ⟨b6, h7, h⟩ := bns h;refine bG 5 [1, 2] 22 b6 ?_ ?_
  ·refine bch h7 (fun s h7 => ?_) (fun s h7 => ?_)
   ·refine tp s (tp s (tp s (tp s (to (spt Z48 s) ?_))));obtain rfl := sIn h7;refine aE (aV rfl ⟨rfl, rfl, trivial⟩ rfl)
   ·refine tkl 0 s rfl rfl oU rfl aW ?_;obtain ⟨F, G, h7⟩ := bns h7;refine tk s (scr call42 (eF _ _ _ G)) (tk s (sn rfl) (to (spf (.b (!F)) s) ?_));obtain rfl := sIn h7;refine aE (aV rfl ⟨rfl, rfl, trivial⟩ rfl)
  ·refine tm (.b b6) ?_;obtain ⟨b8, h9, h⟩ := bns h;refine bG 5 [1, 2] 28 b8 ?_ ?_
   ·refine bch h9 (fun t h9 => ?_) (fun t h9 => ?_)
    ·refine tp t (tp t (tp t (tp t (to (spt Z48 t) ?_))));obtain rfl := sIn h9;refine aE (aV rfl ⟨rfl, rfl, trivial⟩ rfl)
    ·refine tkl 0 t rfl rfl qH rfl aW ?_;obtain ⟨H, I, h9⟩ := bns h9;refine tk t (scr call42 (eF _ _ _ I)) (tk t (sn rfl) (to (spf (.b (!H)) t) ?_));obtain rfl := sIn h9;refine aE (aV rfl ⟨rfl, rfl, trivial⟩ rfl)
   ·refine tm (.b b8) ?_;obtain ⟨J, w, h⟩ := bns h;refine bG 7 [1] 36 J ?_ ?_
    ·refine bch w (fun n w => ?_) (fun n w => ?_)
     ·refine tp n (tp n (tp n (tp n (tp n (tp n (to (spt Z48 n) ?_))))));obtain rfl := sIn w;refine aE (aV rfl ⟨rfl, trivial⟩ rfl)
     ·refine tkl 0 n rfl rfl fY rfl aW (tkl 0 n rfl rfl qH rfl aW ?_);obtain ⟨K, L, w⟩ := bns w;refine tk n (scr call42 (eF _ _ _ L)) (tk n (sn rfl) (to (spf (.b (!K)) n) ?_));obtain rfl := sIn w;refine aE (aV rfl ⟨rfl, trivial⟩ rfl)
    ·refine aE ?_;refine tih h (fun M h => ?_) (fun M h => ?_)
     ·refine aF (aC (ta (.i 50) (aE ?_)));obtain rfl := sIn h;refine bQ (bL (bR (l := [4]) ⟨rfl, trivial⟩)) ?_;exact rt
     ·refine bA (aF (aF (aC (tm (Z45 m) (to (sle rfl cU.of) (to (scm rfl rfl rfl) (aE ?_)))))));refine tih h (fun N h => ?_) (fun N h => ?_)
      ·refine aF (aC (ta (.i 51) (aE ?_)));obtain rfl := sIn h;refine bQ (bL (bR (l := [4]) ⟨rfl, trivial⟩)) ?_;exact rt
      ·refine bA (aF (aF (aC (ta (.i 0) (aE (bH ?_))))));refine cB (S := Int) [1] (fun x => [(5, .i x)]) (fun x => []) (fun k x => iM m k x) (fun _ => rfl) (0) h (aS [] rfl rfl (aP rfl (aR ⟨rfl, trivial⟩))) ?_;rintro O c h;simp only [iM] at h;refine aF (aF (aC (tm (.i c) (tm (Z45 m) (to (sle rfl cU.of) (to (scm rfl rfl rfl) (aE ?_)))))));refine tih h (fun P h => ?_) (fun P h => ?_)
       ·refine bA (aF (bH (aF (aF (aC (tm (Z45 m) (tm (.i c) ?_)))))));obtain ⟨Q, T, h⟩ := bns h;refine to (six rfl rfl cU.of (bB aJ T)) (to (aHb (aJ Q) rfl iL) ?_);obtain ⟨a1, U, h⟩ := bns h;refine to (scr call43 (aBe _ U)) (to (sn rfl) (aE ?_));refine tih h (fun V h => ?_) (fun V h => ?_)
        ·refine aF (aC (ta (.i 51) (aE ?_)));obtain rfl := sIn h;exact rt
        ·refine bA (aF (aC (ta (.i 0) (aE ?_))));refine vH ?_;refine cB (S := Int) [1, 5] (fun y => [(6, .i y)]) (fun y => []) (fun k y => iN (iM m O) m c k y) (fun _ => rfl) (0) h (aS [] rfl rfl (aP rfl (aR ⟨rfl, rfl, trivial⟩))) ?_;rintro a2 g h;simp only [iN] at h;refine aF (aF (aC (tm (.i g) (tm (.i c) (to (scm rfl rfl rfl) (aE ?_))))));refine tih h (fun W h => ?_) (fun W h => ?_)
         ·refine bA (aF (bH (aF ?_)));obtain ⟨e, A, h⟩ := bns h;obtain ⟨f, B, h⟩ := bns h;obtain ⟨X, u, h⟩ := bns h;refine cI mix 22 [1, 5, 6] [(78, .b X)] ?_ ?_
          ·refine bch u (fun j u => ?_) (fun j u => ?_)
           ·obtain ⟨o, Y, u⟩ := bns u;obtain ⟨p, Z, u⟩ := bns u;obtain rfl := sIn u;refine ⟨[(57, 0, .d (Z15 m)), (58, 1, .i g), (59, 2, .cp [.j e.Id, .j e.Hour, .j e.Kind, .j e.Player, .j e.Rank]), (60, 3, .cp [.j e.Id]), (61, 4, .i e.Id), (62, 5, .d (Z15 m)), (63, 6, .i c), (64, 7, .cp [.j f.Id, .j f.Hour, .j f.Kind, .j f.Player, .j f.Rank]), (65, 8, .cp [.j f.Id]), (66, 9, .i f.Id), (67, 10, .b (decide (e.Id = f.Id))), (68, 11, .b (decide (e.Id = f.Id))), (69, 12, .d (Z15 m)), (70, 13, .i g), (71, 14, .cp [.j o.Id, .j o.Hour, .j o.Kind, .j o.Player, .j o.Rank]), (72, 15, .agg (aJ o)), (73, 16, .d (Z15 m)), (74, 17, .i c), (75, 18, .cp [.j p.Id, .j p.Hour, .j p.Kind, .j p.Player, .j p.Rank]), (76, 19, .agg (aJ p)), (77, 20, .b (!decide (o = p))), (78, 21, .b (!decide (o = p)))], ?_, ?_⟩
            · exact dk [0, 0, 102, 3, 4, 0, 0, 607, 8, 9, 510, 11, 12, 12, 121314, 1215, 12, 12, 121718, 1219, 121620, 1221] ⟨go (zm (Z45 m)),
 go (zm (.i g)),
 go (zix rfl rfl cU.of (bB aJ A)),
 go (zfc [.j e.Id] rfl kF),
 go (zlc rfl aW),
 go (zm (Z45 m)),
 go (zm (.i c)),
 go (zix rfl rfl cU.of (bB aJ B)),
 go (zfc [.j f.Id] rfl kF),
 go (zlc rfl aW),
 go (zcm rfl rfl rfl),
 go (zm (.b (decide (e.Id = f.Id)))),
 gt j (zm (Z45 m)),
 gt j (zm (.i g)),
 gt j (zix rfl rfl cU.of (bB aJ Y)),
 gt j (aJi (aJ o) rfl iL),
 gt j (zm (Z45 m)),
 gt j (zm (.i c)),
 gt j (zix rfl rfl cU.of (bB aJ Z)),
 gt j (aJi (aJ p) rfl iL),
 gt j fun S hS => aQx (a := o) (b := p) (aM rfl) (aU hS rfl) (aU hS rfl) rfl rfl Tryz.eqGuardType32 aDz,
 go (zpt (.b (!decide (o = p))) j), trivial⟩
            · exact bS (aP rfl (aR ⟨rfl, rfl, rfl, trivial⟩))
           ·obtain rfl := sIn u;refine ⟨[(57, 0, .d (Z15 m)), (58, 1, .i g), (59, 2, .cp [.j e.Id, .j e.Hour, .j e.Kind, .j e.Player, .j e.Rank]), (60, 3, .cp [.j e.Id]), (61, 4, .i e.Id), (62, 5, .d (Z15 m)), (63, 6, .i c), (64, 7, .cp [.j f.Id, .j f.Hour, .j f.Kind, .j f.Player, .j f.Rank]), (65, 8, .cp [.j f.Id]), (66, 9, .i f.Id), (67, 10, .b (decide (e.Id = f.Id))), (68, 11, .b (decide (e.Id = f.Id))), (69, 12, .tup []), (70, 13, .tup []), (71, 14, .tup []), (72, 15, .tup []), (73, 16, .tup []), (74, 17, .tup []), (75, 18, .tup []), (76, 19, .tup []), (77, 20, .tup []), (78, 21, .b false)], ?_, ?_⟩
            · exact dk [0, 0, 102, 3, 4, 0, 0, 607, 8, 9, 510, 11, 12, 12, 121314, 1215, 12, 12, 121718, 1219, 121620, 1221] ⟨go (zm (Z45 m)),
 go (zm (.i g)),
 go (zix rfl rfl cU.of (bB aJ A)),
 go (zfc [.j e.Id] rfl kF),
 go (zlc rfl aW),
 go (zm (Z45 m)),
 go (zm (.i c)),
 go (zix rfl rfl cU.of (bB aJ B)),
 go (zfc [.j f.Id] rfl kF),
 go (zlc rfl aW),
 go (zcm rfl rfl rfl),
 go (zm (.b (decide (e.Id = f.Id)))),
 gp j,
 gp j,
 gp j,
 gp j,
 gp j,
 gp j,
 gp j,
 gp j,
 gp j,
 go (zpf Z21 j), trivial⟩
            · exact bS (aP rfl (aR ⟨rfl, rfl, rfl, trivial⟩))
          ·refine aE ?_;refine tih h (fun a0 h => ?_) (fun a0 h => ?_)
           ·refine aF (aC (ta (.i 51) (aE ?_)));obtain rfl := sIn h;exact rt
           ·refine bZ ?_;refine aC (tm (.i g) (to (sar rfl rfl rfl) (ta (.i (w64 (g + 1))) (aE ?_))));exact ⟨(w64 (g + 1)), h, aS [] rfl rfl (aP rfl (aR ⟨rfl, rfl, trivial⟩))⟩
         ·refine bY ?_;refine .inl ⟨rfl, ?_⟩;simp only [sL] at h;simp only [sK] at h;refine aC (tm (.i c) (to (sar rfl rfl rfl) (ta (.i (w64 (c + 1))) (aE ?_))));exact ⟨(w64 (c + 1)), h, aS [] rfl rfl (aP rfl (aR ⟨rfl, trivial⟩))⟩
       ·refine bY ?_;refine .inl ⟨rfl, ?_⟩;simp only [sJ] at h;refine aF (aC (ta (.i 0) (aE ?_)));obtain rfl := sIn h;exact rt

theorem eV (e : Int) (b : Int) (c : Int) (a : Int) (d : Int) {r : aO} (h : eN e b c a d = some r) : Fn Tryz.prog 60 [.i e, .i b, .i c, .i a, .i d] (.agg (aJ r)) := by
 unfold eN at h;refine gX func60 rfl (rs := [.cell 10 32]) results60 ntmps60 (Nat.le_of_ble_eq_true rfl) ?_;refine aF (aC ?_);refine bE rfl (dI (zs := [.j 0, .j 0, .j 0, .j 0, .j 0]) (aM rfl) zeroValue32 rfl rfl) ?_;rintro _ ⟨b1, rfl⟩;refine aE (aF (aC (tm (.i e) (tm (.i b) (tm (.i c) (tm (.i a) (tm (.i d) (to (sF (aM rfl) aTm (zs := [.j 0, .j 0, .j 0, .j 0, .j 0]) rfl rfl rfl rfl (es := [.j e, .j b, .j c, .j a, .j d]) rfl) ?_))))))));refine to (sst 0 rfl rfl sizeOf32 (aJ (aO.mk e b c a d))) (aE ?_);obtain rfl := sIn h;exact bM ⟨rfl, _, [.box b1 0 (aJ (aO.mk e b c a d))], .one (.cell 10 32 rfl (i := 0) rfl iL (es := (aJ (aO.mk e b c a d))) rfl rfl), .refl _, .same _⟩

theorem aBw {r : aT × (List aO)} (h : lG = some r) : Fn Tryz.prog 31 [] (.tup [.agg (aQ r.1), .d (.sl 5 (r.2.map aJ))]) := by
 unfold lG at h;refine gX func31 rfl (rs := [.cell 0 23, .tmp 1]) results31 ntmps31 (Nat.le_of_ble_eq_true rfl) ?_;refine aF (aC ?_);refine bE rfl (dI (zs := [.j 0, .j 0, .j 0, .j 0, .j 0]) (aM rfl) zeroValue23 rfl rfl) ?_;rintro _ ⟨b1, rfl⟩;refine to (aAt 5 (aM rfl)) ?_;refine aE (aF (aC (to (sF (aM rfl) aYz (zs := [.j 0, .j 0, .j 0, .j 0, .j 0]) rfl rfl rfl rfl (es := [.j 3, .j 1, .j 1, .j 10, .j 20]) rfl) ?_)));refine bE rfl (dI (zs := [.j 0, .j 0, .j 0, .j 0, .j 0]) (aM rfl) zeroValue23 rfl rfl) ?_;rintro _ ⟨b2, rfl⟩;refine to (sst 1 rfl rfl sizeOf23 Z39) (aE (aF ?_));obtain ⟨r4, h5, h⟩ := bns h;obtain ⟨r6, h7, h⟩ := bns h;obtain ⟨r8, h9, h⟩ := bns h;obtain ⟨a, n, h⟩ := bns h;obtain ⟨b, o, h⟩ := bns h;obtain ⟨c, p, h⟩ := bns h;obtain ⟨e, q, h⟩ := bns h;obtain ⟨g, s, h⟩ := bns h;obtain ⟨j, t, h⟩ := bns h;obtain ⟨l, u, h⟩ := bns h;obtain ⟨m, x, h⟩ := bns h;refine eD mix 14 [0] (fun X3 => [(16, .d (.sl 5 ((([r4, r6, r8, a, b, c, e, g, j, l, m])).map aJ)))]) (fun X3 => [.box b1 0 Z39, .box b2 0 Z39]) ?_ ?_
 ·refine ⟨0, fun X3 => [(4, 0, .agg Z39), (5, 1, .agg (aJ r4)), (6, 2, .agg (aJ r6)), (7, 3, .agg (aJ r8)), (8, 4, .agg (aJ a)), (9, 5, .agg (aJ b)), (10, 6, .agg (aJ c)), (11, 7, .agg (aJ e)), (12, 8, .agg (aJ g)), (13, 9, .agg (aJ j)), (14, 10, .agg (aJ l)), (15, 11, .agg (aJ m)), (16, 12, .d (.sl 5 ((([r4, r6, r8, a, b, c, e, g, j, l, m])).map aJ)))], fun X3 => [([(13, .box b1 0 Z39)], .box b1 0 (aQ (aT.mk 0 0 0 0 0))), ([], .box b2 0 Z39)], ?_, ?_⟩
  · exact xok [(0, 14), (0, 14), (0, 14), (0, 14), (0, 14), (0, 14), (0, 14), (0, 14), (0, 14), (0, 14), (0, 14), (0, 14), (203040506070809101112, 0), (1, 0)] ⟨fun _ _ w _ k => xp w (yla k 1 Z39 rfl (og k rfl rfl) fF),
 fun _ _ w _ _ => xp w (cJ (aM rfl) (.func _ _ call60) (ev2 rfl (ev2 rfl (ev2 rfl (ev2 rfl (ev2 rfl evn))))) rfl (eV _ _ _ _ _ h5)),
 fun _ _ w _ _ => xp w (cJ (aM rfl) (.func _ _ call60) (ev2 rfl (ev2 rfl (ev2 rfl (ev2 rfl (ev2 rfl evn))))) rfl (eV _ _ _ _ _ h7)),
 fun _ _ w _ _ => xp w (cJ (aM rfl) (.func _ _ call60) (ev2 rfl (ev2 rfl (ev2 rfl (ev2 rfl (ev2 rfl evn))))) rfl (eV _ _ _ _ _ h9)),
 fun _ _ w _ _ => xp w (cJ (aM rfl) (.func _ _ call60) (ev2 rfl (ev2 rfl (ev2 rfl (ev2 rfl (ev2 rfl evn))))) rfl (eV _ _ _ _ _ n)),
 fun _ _ w _ _ => xp w (cJ (aM rfl) (.func _ _ call60) (ev2 rfl (ev2 rfl (ev2 rfl (ev2 rfl (ev2 rfl evn))))) rfl (eV _ _ _ _ _ o)),
 fun _ _ w _ _ => xp w (cJ (aM rfl) (.func _ _ call60) (ev2 rfl (ev2 rfl (ev2 rfl (ev2 rfl (ev2 rfl evn))))) rfl (eV _ _ _ _ _ p)),
 fun _ _ w _ _ => xp w (cJ (aM rfl) (.func _ _ call60) (ev2 rfl (ev2 rfl (ev2 rfl (ev2 rfl (ev2 rfl evn))))) rfl (eV _ _ _ _ _ q)),
 fun _ _ w _ _ => xp w (cJ (aM rfl) (.func _ _ call60) (ev2 rfl (ev2 rfl (ev2 rfl (ev2 rfl (ev2 rfl evn))))) rfl (eV _ _ _ _ _ s)),
 fun _ _ w _ _ => xp w (cJ (aM rfl) (.func _ _ call60) (ev2 rfl (ev2 rfl (ev2 rfl (ev2 rfl (ev2 rfl evn))))) rfl (eV _ _ _ _ _ t)),
 fun _ _ w _ _ => xp w (cJ (aM rfl) (.func _ _ call60) (ev2 rfl (ev2 rfl (ev2 rfl (ev2 rfl (ev2 rfl evn))))) rfl (eV _ _ _ _ _ u)),
 fun _ _ w _ _ => xp w (cJ (aM rfl) (.func _ _ call60) (ev2 rfl (ev2 rfl (ev2 rfl (ev2 rfl (ev2 rfl evn))))) rfl (eV _ _ _ _ _ x)),
 fun _ _ w _ k => xp w (dM (aM rfl) cU rfl (pa2 (aU k rfl) (pa2 (aU k rfl) (pa2 (aU k rfl) (pa2 (aU k rfl) (pa2 (aU k rfl) (pa2 (aU k rfl) (pa2 (aU k rfl) (pa2 (aU k rfl) (pa2 (aU k rfl) (pa2 (aU k rfl) (pa2 (aU k rfl) pan))))))))))) (rows := ([r4, r6, r8, a, b, c, e, g, j, l, m]).map aJ) rfl (aZ (f := aJ) fun _ => rfl) rfl (by decide)),
 fun _ _ _ _ k => xs 0 k rfl rfl (gM (i := 0) (aU k rfl) (og k rfl rfl) (aU k rfl) rfl rfl sizeOf23 rfl (aM rfl) (Nat.le_of_ble_eq_true rfl) (ds' := Z39) rfl), trivial⟩
  · exact fun X3 => bS (aP rfl (aR ⟨rfl, trivial⟩))
 ·intro X3;refine ta (.d (.sl 5 ((([r4, r6, r8, a, b, c, e, g, j, l, m])).map aJ))) (aE ?_);obtain rfl := sIn h;exact bM ⟨rfl, _, [.box b1 0 Z39, .box b2 0 Z39], .two (.cell 0 23 rfl (i := 0) rfl fF (es := Z39) rfl rfl) (.tmp 1 (v := .d (.sl 5 ((([r4, r6, r8, a, b, c, e, g, j, l, m])).map aJ))) rfl), .refl _, .same _⟩

theorem cM (d : Int) (c : Int) (a : Int) {r : Bool} (h : cP d c a = some r) : Fn Tryz.prog 61 [.i d, .i c, .i a] (.b r) := by
 unfold cP at h;refine oT [.tmp 6] func61 results61 ntmps61 ?_;refine aF (aC (ta Z21 (aE (aF (aC (tm (.i c) (tm (.i d) (to (scm rfl rfl rfl) (tm (.b (decide (c ≤ d))) ?_)))))))));obtain ⟨b1, h2, h⟩ := bns h;refine bG 4 [] 14 b1 ?_ ?_
 ·refine bch h2 (fun c3 h2 => ?_) (fun c3 h2 => ?_)
  ·refine tk c3 (sm (.i d)) (tk c3 (sm (.i a)) (tk c3 (scm rfl rfl rfl) (to (spt (.b (decide (d ≤ a))) c3) ?_)));obtain rfl := sIn h2;refine aE (aV rfl trivial rfl)
  ·refine tp c3 (tp c3 (tp c3 (to (spf Z21 c3) ?_)));obtain rfl := sIn h2;refine aE (aV rfl trivial rfl)
 ·refine ta (.b b1) (aE ?_);obtain rfl := sIn h;exact rt

theorem aHn (g : aT) {r : Bool} (h : rX g = some r) : Fn Tryz.prog 40 [.agg (aQ g)] (.b r) := by
 unfold rX at h;refine oT [.tmp 2] func40 results40 ntmps40 ?_;refine aF (aC ?_);refine bE rfl (eB (v := .agg (aQ g)) (aM rfl) rfl rfl rfl) ?_;rintro _ ⟨b1, rfl⟩;refine ta Z21 (aE (aF (aC (tfl 0 rfl rfl wI rfl aW ?_))));obtain ⟨r2, h3, h⟩ := bns h;refine to (scr call61 (cM _ _ _ h3)) (tm (.b r2) ?_);obtain ⟨b4, h5, h⟩ := bns h;refine bG 4 [1] 10 b4 ?_ ?_
 ·refine bch h5 (fun c h5 => ?_) (fun c h5 => ?_)
  ·refine tkl 0 c rfl rfl tP rfl aW ?_;obtain ⟨j, k, h5⟩ := bns h5;refine tk c (scr call61 (cM _ _ _ k)) (to (spt (.b j) c) ?_);obtain rfl := sIn h5;refine aE (aV rfl ⟨rfl, trivial⟩ rfl)
  ·refine tp c (tp c (tp c (to (spf Z21 c) ?_)));obtain rfl := sIn h5;refine aE (aV rfl ⟨rfl, trivial⟩ rfl)
 ·refine tm (.b b4) ?_;obtain ⟨b6, h7, h⟩ := bns h;refine bG 4 [1] 15 b6 ?_ ?_
  ·refine bch h7 (fun d h7 => ?_) (fun d h7 => ?_)
   ·refine tkl 0 d rfl rfl oU rfl aW ?_;obtain ⟨m, n, h7⟩ := bns h7;refine tk d (scr call61 (cM _ _ _ n)) (to (spt (.b m) d) ?_);obtain rfl := sIn h7;refine aE (aV rfl ⟨rfl, trivial⟩ rfl)
   ·refine tp d (tp d (tp d (to (spf Z21 d) ?_)));obtain rfl := sIn h7;refine aE (aV rfl ⟨rfl, trivial⟩ rfl)
  ·refine tm (.b b6) ?_;obtain ⟨b8, h9, h⟩ := bns h;refine bG 4 [1] 20 b8 ?_ ?_
   ·refine bch h9 (fun e h9 => ?_) (fun e h9 => ?_)
    ·refine tkl 0 e rfl rfl qH rfl aW ?_;obtain ⟨o, p, h9⟩ := bns h9;refine tk e (scr call61 (cM _ _ _ p)) (to (spt (.b o) e) ?_);obtain rfl := sIn h9;refine aE (aV rfl ⟨rfl, trivial⟩ rfl)
    ·refine tp e (tp e (tp e (to (spf Z21 e) ?_)));obtain rfl := sIn h9;refine aE (aV rfl ⟨rfl, trivial⟩ rfl)
   ·refine tm (.b b8) ?_;obtain ⟨i, f, h⟩ := bns h;refine bG 6 [] 27 i ?_ ?_
    ·refine bch f (fun a f => ?_) (fun a f => ?_)
     ·refine tkl 0 a rfl rfl fY rfl aW (tkl 0 a rfl rfl qH rfl aW ?_);obtain ⟨q, s, f⟩ := bns f;refine tk a (scr call61 (cM _ _ _ s)) (to (spt (.b q) a) ?_);obtain rfl := sIn f;refine aE (aV rfl trivial rfl)
     ·refine tp a (tp a (tp a (tp a (tp a (to (spf Z21 a) ?_)))));obtain rfl := sIn f;refine aE (aV rfl trivial rfl)
    ·refine ta (.b i) (aE ?_);obtain rfl := sIn h;refine bQ (bL (bR (l := [2]) ⟨rfl, trivial⟩)) ?_;exact rt

theorem aGt (g : aO) {r : Bool} (h : qR g = some r) : Fn Tryz.prog 41 [.agg (aJ g)] (.b r) := by
 unfold qR at h;refine oT [.tmp 2] func41 results41 ntmps41 ?_;refine aF (aC ?_);refine bE rfl (eB (v := .agg (aJ g)) (aM rfl) rfl rfl rfl) ?_;rintro _ ⟨b1, rfl⟩;refine ta Z21 (aE (aF (aC (ta (.i 0) (ta (.i 0) (aE (aF (aF (aC (tfl 0 rfl rfl oV rfl aW (aE (bH ?_))))))))))));refine aF (aC (to (scm rfl rfl rfl) (ta (Z70 g) (aE ?_))));refine tih h (fun c2 h => ?_) (fun c2 h => ?_)
 ·refine aC (ta (.i 9999) ?_);refine cG ?_;refine aF (aC (tfl 0 rfl rfl kF rfl aW ?_));obtain ⟨r3, h4, h⟩ := bns h;refine to (scr call61 (cM _ _ _ h4)) (tm (.b r3) ?_);obtain ⟨b5, h6, h⟩ := bns h;refine bG 4 [1, 3, 4] 22 b5 ?_ ?_
  ·refine bch h6 (fun j h6 => ?_) (fun j h6 => ?_)
   ·refine tkl 0 j rfl rfl cN rfl aW ?_;obtain ⟨X, Y, h6⟩ := bns h6;refine tk j (scr call61 (cM _ _ _ Y)) (to (spt (.b X) j) ?_);obtain rfl := sIn h6;refine aE (aV rfl ⟨rfl, rfl, rfl, trivial⟩ rfl)
   ·refine tp j (tp j (tp j (to (spf Z21 j) ?_)));obtain rfl := sIn h6;refine aE (aV rfl ⟨rfl, rfl, rfl, trivial⟩ rfl)
  ·refine tm (.b b5) ?_;obtain ⟨b7, h8, h⟩ := bns h;refine bG 4 [1, 3, 4] 27 b7 ?_ ?_
   ·refine bch h8 (fun k h8 => ?_) (fun k h8 => ?_)
    ·refine tkl 0 k rfl rfl cL rfl aW ?_;obtain ⟨Z, a0, h8⟩ := bns h8;refine tk k (scr call61 (cM _ _ _ a0)) (to (spt (.b Z) k) ?_);obtain rfl := sIn h8;refine aE (aV rfl ⟨rfl, rfl, rfl, trivial⟩ rfl)
    ·refine tp k (tp k (tp k (to (spf Z21 k) ?_)));obtain rfl := sIn h8;refine aE (aV rfl ⟨rfl, rfl, rfl, trivial⟩ rfl)
   ·refine tm (.b b7) ?_;obtain ⟨b9, w, h⟩ := bns h;refine bG 6 [] 34 b9 ?_ ?_
    ·refine bch w (fun a w => ?_) (fun a w => ?_)
     ·refine tkl 0 a rfl rfl kG rfl aW (tk a (sm (.i 0)) (tk a (sm (.i 9999)) ?_));obtain ⟨a1, a2, w⟩ := bns w;refine tk a (scr call61 (cM _ _ _ a2)) (to (spt (.b a1) a) ?_);obtain rfl := sIn w;refine aE (aV rfl trivial rfl)
     ·refine tp a (tp a (tp a (tp a (tp a (to (spf Z21 a) ?_)))));obtain rfl := sIn w;refine aE (aV rfl trivial rfl)
    ·refine ta (.b b9) (aE ?_);obtain rfl := sIn h;refine bQ (bL (bR (l := [2]) ⟨rfl, trivial⟩)) ?_;exact rt
 ·refine aF (aC (to (scm rfl rfl rfl) (ta (.b (Z14 g)) (aE ?_))));refine tih h (fun a3 h => ?_) (fun a3 h => ?_)
  ·refine aC (ta (.i 1) (ta (.i 9999) ?_));refine cG ?_;refine aF (aC (tfl 0 rfl rfl kF rfl aW ?_));obtain ⟨a4, a5, h⟩ := bns h;refine to (scr call61 (cM _ _ _ a5)) (tm (.b a4) ?_);obtain ⟨K, x, h⟩ := bns h;refine bG 4 [1, 3, 4] 22 K ?_ ?_
   ·refine bch x (fun m x => ?_) (fun m x => ?_)
    ·refine tkl 0 m rfl rfl cN rfl aW ?_;obtain ⟨a6, a7, x⟩ := bns x;refine tk m (scr call61 (cM _ _ _ a7)) (to (spt (.b a6) m) ?_);obtain rfl := sIn x;refine aE (aV rfl ⟨rfl, rfl, rfl, trivial⟩ rfl)
    ·refine tp m (tp m (tp m (to (spf Z21 m) ?_)));obtain rfl := sIn x;refine aE (aV rfl ⟨rfl, rfl, rfl, trivial⟩ rfl)
   ·refine tm (.b K) ?_;obtain ⟨L, y, h⟩ := bns h;refine bG 4 [1, 3, 4] 27 L ?_ ?_
    ·refine bch y (fun n y => ?_) (fun n y => ?_)
     ·refine tkl 0 n rfl rfl cL rfl aW ?_;obtain ⟨a8, a9, y⟩ := bns y;refine tk n (scr call61 (cM _ _ _ a9)) (to (spt (.b a8) n) ?_);obtain rfl := sIn y;refine aE (aV rfl ⟨rfl, rfl, rfl, trivial⟩ rfl)
     ·refine tp n (tp n (tp n (to (spf Z21 n) ?_)));obtain rfl := sIn y;refine aE (aV rfl ⟨rfl, rfl, rfl, trivial⟩ rfl)
    ·refine tm (.b L) ?_;obtain ⟨M, z, h⟩ := bns h;refine bG 6 [] 34 M ?_ ?_
     ·refine bch z (fun c z => ?_) (fun c z => ?_)
      ·refine tkl 0 c rfl rfl kG rfl aW (tk c (sm (.i 1)) (tk c (sm (.i 9999)) ?_));obtain ⟨b0, b2, z⟩ := bns z;refine tk c (scr call61 (cM _ _ _ b2)) (to (spt (.b b0) c) ?_);obtain rfl := sIn z;refine aE (aV rfl trivial rfl)
      ·refine tp c (tp c (tp c (tp c (tp c (to (spf Z21 c) ?_)))));obtain rfl := sIn z;refine aE (aV rfl trivial rfl)
     ·refine ta (.b M) (aE ?_);obtain rfl := sIn h;refine bQ (bL (bR (l := [2]) ⟨rfl, trivial⟩)) ?_;exact rt
  ·refine aF (aF (aC (to (scm rfl rfl rfl) (ta (Z50 g) (aE ?_)))));refine tih h (fun b3 h => ?_) (fun b3 h => ?_)
   ·refine bA ?_;refine tih h (fun b4 h => ?_) (fun b4 h => ?_)
    ·refine bZ ?_;refine aF (aC (tfl 0 rfl rfl kF rfl aW ?_));obtain ⟨b6, b8, h⟩ := bns h;refine to (scr call61 (cM _ _ _ b8)) (tm (.b b6) ?_);obtain ⟨N, A, h⟩ := bns h;refine bG 4 [1, 3, 4] 22 N ?_ ?_
     ·refine bch A (fun o A => ?_) (fun o A => ?_)
      ·refine tkl 0 o rfl rfl cN rfl aW ?_;obtain ⟨c0, c1, A⟩ := bns A;refine tk o (scr call61 (cM _ _ _ c1)) (to (spt (.b c0) o) ?_);obtain rfl := sIn A;refine aE (aV rfl ⟨rfl, rfl, rfl, trivial⟩ rfl)
      ·refine tp o (tp o (tp o (to (spf Z21 o) ?_)));obtain rfl := sIn A;refine aE (aV rfl ⟨rfl, rfl, rfl, trivial⟩ rfl)
     ·refine tm (.b N) ?_;obtain ⟨O, B, h⟩ := bns h;refine bG 4 [1, 3, 4] 27 O ?_ ?_
      ·refine bch B (fun p B => ?_) (fun p B => ?_)
       ·refine tkl 0 p rfl rfl cL rfl aW ?_;obtain ⟨c3, c4, B⟩ := bns B;refine tk p (scr call61 (cM _ _ _ c4)) (to (spt (.b c3) p) ?_);obtain rfl := sIn B;refine aE (aV rfl ⟨rfl, rfl, rfl, trivial⟩ rfl)
       ·refine tp p (tp p (tp p (to (spf Z21 p) ?_)));obtain rfl := sIn B;refine aE (aV rfl ⟨rfl, rfl, rfl, trivial⟩ rfl)
      ·refine tm (.b O) ?_;obtain ⟨P, C, h⟩ := bns h;refine bG 6 [] 34 P ?_ ?_
       ·refine bch C (fun d C => ?_) (fun d C => ?_)
        ·refine tkl 0 d rfl rfl kG rfl aW (tk d (sm (.i 0)) (tk d (sm (.i 0)) ?_));obtain ⟨c5, c6, C⟩ := bns C;refine tk d (scr call61 (cM _ _ _ c6)) (to (spt (.b c5) d) ?_);obtain rfl := sIn C;refine aE (aV rfl trivial rfl)
        ·refine tp d (tp d (tp d (tp d (tp d (to (spf Z21 d) ?_)))));obtain rfl := sIn C;refine aE (aV rfl trivial rfl)
       ·refine ta (.b P) (aE ?_);obtain rfl := sIn h;refine bQ (bL (bR (l := [2]) ⟨rfl, trivial⟩)) ?_;exact rt
    ·refine aF (aC (ta Z21 (aE ?_)));obtain rfl := sIn h;refine bQ (bL (bR (l := [2]) ⟨rfl, trivial⟩)) ?_;exact rt
   ·refine aF (aC (to (scm rfl rfl rfl) (ta (Z51 g) (aE ?_))));refine tih h (fun c7 h => ?_) (fun c7 h => ?_)
    ·refine bA ?_;refine tih h (fun c8 h => ?_) (fun c8 h => ?_)
     ·refine bZ ?_;refine aF (aC (tfl 0 rfl rfl kF rfl aW ?_));obtain ⟨c9, d0, h⟩ := bns h;refine to (scr call61 (cM _ _ _ d0)) (tm (.b c9) ?_);obtain ⟨Q, E, h⟩ := bns h;refine bG 4 [1, 3, 4] 22 Q ?_ ?_
      ·refine bch E (fun q E => ?_) (fun q E => ?_)
       ·refine tkl 0 q rfl rfl cN rfl aW ?_;obtain ⟨d1, d2, E⟩ := bns E;refine tk q (scr call61 (cM _ _ _ d2)) (to (spt (.b d1) q) ?_);obtain rfl := sIn E;refine aE (aV rfl ⟨rfl, rfl, rfl, trivial⟩ rfl)
       ·refine tp q (tp q (tp q (to (spf Z21 q) ?_)));obtain rfl := sIn E;refine aE (aV rfl ⟨rfl, rfl, rfl, trivial⟩ rfl)
      ·refine tm (.b Q) ?_;obtain ⟨S, F, h⟩ := bns h;refine bG 4 [1, 3, 4] 27 S ?_ ?_
       ·refine bch F (fun s F => ?_) (fun s F => ?_)
        ·refine tkl 0 s rfl rfl cL rfl aW ?_;obtain ⟨d3, d4, F⟩ := bns F;refine tk s (scr call61 (cM _ _ _ d4)) (to (spt (.b d3) s) ?_);obtain rfl := sIn F;refine aE (aV rfl ⟨rfl, rfl, rfl, trivial⟩ rfl)
        ·refine tp s (tp s (tp s (to (spf Z21 s) ?_)));obtain rfl := sIn F;refine aE (aV rfl ⟨rfl, rfl, rfl, trivial⟩ rfl)
       ·refine tm (.b S) ?_;obtain ⟨T, G, h⟩ := bns h;refine bG 6 [] 34 T ?_ ?_
        ·refine bch G (fun e G => ?_) (fun e G => ?_)
         ·refine tkl 0 e rfl rfl kG rfl aW (tk e (sm (.i 0)) (tk e (sm (.i 0)) ?_));obtain ⟨d5, d6, G⟩ := bns G;refine tk e (scr call61 (cM _ _ _ d6)) (to (spt (.b d5) e) ?_);obtain rfl := sIn G;refine aE (aV rfl trivial rfl)
         ·refine tp e (tp e (tp e (tp e (tp e (to (spf Z21 e) ?_)))));obtain rfl := sIn G;refine aE (aV rfl trivial rfl)
        ·refine ta (.b T) (aE ?_);obtain rfl := sIn h;refine bQ (bL (bR (l := [2]) ⟨rfl, trivial⟩)) ?_;exact rt
     ·refine aF (aC (ta Z21 (aE ?_)));obtain rfl := sIn h;refine bQ (bL (bR (l := [2]) ⟨rfl, trivial⟩)) ?_;exact rt
    ·refine aC (to (scm rfl rfl rfl) (ta (Z52 g) (aE ?_)));refine tih h (fun d7 h => ?_) (fun d7 h => ?_)
     ·refine bZ ?_;refine aF (aC (tfl 0 rfl rfl kF rfl aW ?_));obtain ⟨d8, d9, h⟩ := bns h;refine to (scr call61 (cM _ _ _ d9)) (tm (.b d8) ?_);obtain ⟨U, H, h⟩ := bns h;refine bG 4 [1, 3, 4] 22 U ?_ ?_
      ·refine bch H (fun t H => ?_) (fun t H => ?_)
       ·refine tkl 0 t rfl rfl cN rfl aW ?_;obtain ⟨e0, e1, H⟩ := bns H;refine tk t (scr call61 (cM _ _ _ e1)) (to (spt (.b e0) t) ?_);obtain rfl := sIn H;refine aE (aV rfl ⟨rfl, rfl, rfl, trivial⟩ rfl)
       ·refine tp t (tp t (tp t (to (spf Z21 t) ?_)));obtain rfl := sIn H;refine aE (aV rfl ⟨rfl, rfl, rfl, trivial⟩ rfl)
      ·refine tm (.b U) ?_;obtain ⟨V, I, h⟩ := bns h;refine bG 4 [1, 3, 4] 27 V ?_ ?_
       ·refine bch I (fun u I => ?_) (fun u I => ?_)
        ·refine tkl 0 u rfl rfl cL rfl aW ?_;obtain ⟨e2, e3, I⟩ := bns I;refine tk u (scr call61 (cM _ _ _ e3)) (to (spt (.b e2) u) ?_);obtain rfl := sIn I;refine aE (aV rfl ⟨rfl, rfl, rfl, trivial⟩ rfl)
        ·refine tp u (tp u (tp u (to (spf Z21 u) ?_)));obtain rfl := sIn I;refine aE (aV rfl ⟨rfl, rfl, rfl, trivial⟩ rfl)
       ·refine tm (.b V) ?_;obtain ⟨W, J, h⟩ := bns h;refine bG 6 [] 34 W ?_ ?_
        ·refine bch J (fun f J => ?_) (fun f J => ?_)
         ·refine tkl 0 f rfl rfl kG rfl aW (tk f (sm (.i 0)) (tk f (sm (.i 0)) ?_));obtain ⟨e4, e5, J⟩ := bns J;refine tk f (scr call61 (cM _ _ _ e5)) (to (spt (.b e4) f) ?_);obtain rfl := sIn J;refine aE (aV rfl trivial rfl)
         ·refine tp f (tp f (tp f (tp f (tp f (to (spf Z21 f) ?_)))));obtain rfl := sIn J;refine aE (aV rfl trivial rfl)
        ·refine ta (.b W) (aE ?_);obtain rfl := sIn h;refine bQ (bL (bR (l := [2]) ⟨rfl, trivial⟩)) ?_;exact rt
     ·refine aF (aC (ta Z21 (aE ?_)));obtain rfl := sIn h;refine bQ (bL (bR (l := [2]) ⟨rfl, trivial⟩)) ?_;exact rt

theorem aKw (t : aT) (o : List aO) {r : Int} (h : uM t o = some r) : Fn Tryz.prog 21 [.agg (aQ t), .d (Z15 o)] (.i r) := by
 unfold uM at h;refine oT [.tmp 4] func21 results21 ntmps21 ?_;refine aF (aC ?_);refine bE rfl (eB (v := .agg (aQ t)) (aM rfl) rfl rfl rfl) ?_;rintro _ ⟨b1, rfl⟩;refine ta (.i 0) (aE (aF (aF (aC (to (sla 0 (aQ t) rfl rfl fF) ?_)))));obtain ⟨r2, h3, h⟩ := bns h;refine to (scr call40 (aHn _ h3)) (to (sn rfl) (aE ?_));refine tih h (fun c4 h => ?_) (fun c4 h => ?_)
 ·refine aF (aC (ta (.i 50) (aE ?_)));obtain rfl := sIn h;refine bQ (bL (bR (l := [4]) ⟨rfl, trivial⟩)) ?_;exact rt
 ·refine bA (aF (aF (aC (tm (Z45 o) (to (sle rfl cU.of) (to (scm rfl rfl rfl) (aE ?_)))))));refine tih h (fun c5 h => ?_) (fun c5 h => ?_)
  ·refine aF (aC (ta (.i 51) (aE ?_)));obtain rfl := sIn h;refine bQ (bL (bR (l := [4]) ⟨rfl, trivial⟩)) ?_;exact rt
  ·refine bA (aF (aC ?_));refine bE rfl (aEt (aM rfl)) ?_;rintro _ ⟨r6, rfl⟩;refine ta (.d (.lit (.map (some r6)))) (aE (aF (aF (aC (tm (Z45 o) (to (sle rfl cU.of) (tm (.i 0) (aE (bH ?_)))))))));refine cB (S := Int × (List (Int × aO)) × (List Nat) × Nat) [5, 17, 18] (fun s7 => [(19, .i s7.1)]) (fun s7 => [.map r6 (s7.2.1.map fun p : Int × aO => (VI p.1, (fun v : aO => AV.agg (aJ v)) p.2)) s7.2.2.1 s7.2.2.2]) (fun k s7 => lI o (o.length : Int) k s7.1 s7.2.1) (fun _ => rfl) (0, ([] : List (Int × aO)), [], 0) h (aS [1] rfl rfl (aP rfl (aR ⟨rfl, rfl, rfl, trivial⟩))) ?_;rintro G ⟨q, c, x, u⟩ h;simp only [lI] at h;refine aF (aC (to (scm rfl rfl rfl) (aE (aF ?_))));refine tih h (fun y h => ?_) (fun y h => ?_)
   ·refine bA (aF (bH (aF (aC ?_))));obtain ⟨e, A, h⟩ := bns h;refine to (six rfl rfl cU.of (bB aJ A)) (to (aHb (aJ e) rfl iL) ?_);refine bE rfl (dI (zs := [.j 0, .j 0, .j 0, .j 0, .j 0]) (aM rfl) zeroValue32 rfl rfl) ?_;rintro _ ⟨H, rfl⟩;refine to (sst 1 rfl rfl sizeOf32 (aJ e)) (aE (aF (aF (aC (tm (.d (.lit (.map (some r6)))) (tfl 1 rfl rfl kF rfl aW (to (aQw (av := (fun v : aO => AV.agg (aJ v))) (l := c) (z := Z73) (a := e.Id) (m := 0) (aM rfl) iW underlying76 zeroValue32 (fun _ _ => .agg (jY rfl)) rfl rfl rfl rfl (dO (kv := VI) e.Id)) ?_)))))));refine tm (.tup [.agg (aJ (aL e.Id Z73 c)), .b (iX e.Id c)]) (to (sex rfl rfl) (to (sex rfl rfl) ?_));refine bE rfl (dI (zs := [.j 0, .j 0, .j 0, .j 0, .j 0]) (aM rfl) zeroValue32 rfl rfl) ?_;rintro _ ⟨I, rfl⟩;refine to (sst 2 rfl rfl sizeOf32 (aJ (aL e.Id Z73 c))) (ta (.b (iX e.Id c)) (aE (aF (aC (to (sla 1 (aJ e) rfl rfl iL) ?_)))));obtain ⟨B, C, h⟩ := bns h;refine to (scr call41 (aGt _ C)) (to (sn rfl) (tm (.b (!B)) ?_));obtain ⟨E, j, h⟩ := bns h;refine bG 7 [5, 7, 17, 18, 19] 40 E ?_ ?_
    ·refine bch j (fun f j => ?_) (fun f j => ?_)
     ·refine tp f (tp f (tq (tq (tq (tp f (to (spt Z48 f) ?_))))));obtain rfl := sIn j;refine aE (aV rfl ⟨rfl, rfl, rfl, rfl, rfl, trivial⟩ rfl)
     ·refine tk f (sm (.b (iX e.Id c))) (tk f (sm (.b (iX e.Id c))) ?_);obtain ⟨w, s, j⟩ := bns j;refine bG 4 [5, 7, 17, 18, 19, 33, 34, 35] 39 w ?_ ?_
      ·refine bch s (fun g s => ?_) (fun g s => ?_)
       ·refine tk g (sla 2 (aJ (aL e.Id Z73 c)) rfl rfl iL) (tk g (sla 1 (aJ e) rfl rfl iL) (tk g (aQx (a := (aL e.Id Z73 c)) (b := e) (aM rfl) rfl rfl rfl rfl Tryz.eqGuardType32 aDz) ?_));refine tk f (spt (.b (!decide ((aL e.Id Z73 c) = e))) g) ?_;obtain rfl := sIn s;refine aE (aV rfl ⟨rfl, rfl, rfl, rfl, rfl, rfl, rfl, rfl, trivial⟩ rfl)
       ·refine tp g (tp g (tp g (tk f (spf Z21 g) ?_)));obtain rfl := sIn s;refine aE (aV rfl ⟨rfl, rfl, rfl, rfl, rfl, rfl, rfl, rfl, trivial⟩ rfl)
      ·refine to (spf (.b w) f) ?_;obtain rfl := sIn j;refine aE (aV rfl ⟨rfl, rfl, rfl, rfl, rfl, trivial⟩ rfl)
    ·refine aE ?_;refine tih h (fun F h => ?_) (fun F h => ?_)
     ·refine aF (aC (ta (.i 51) (aE ?_)));obtain rfl := sIn h;refine bQ (bL (bR (l := [4]) ⟨rfl, trivial⟩)) ?_;exact rt
     ·refine bA (aC (tm (.d (.lit (.map (some r6)))) (tfl 1 rfl rfl kF rfl aW (to (sla 1 (aJ e) rfl rfl iL) (to (fZ (av := (fun v : aO => AV.agg (aJ v))) (l := c) (v := e) (a := e.Id) (m := 0) iW underlying76 rfl rfl rfl rfl (dO (kv := VI) e.Id) rfl rfl) ?_)))));refine cG ?_;refine aC (to (sar rfl rfl rfl) (tm (.i (w64 (q + 1))) (aE ?_)));exact ⟨(w64 (q + 1), (cR e.Id e c), (mbs e.Id c x u), (mck e.Id c u)), h, aS [0] rfl rfl (aP rfl (aR ⟨rfl, rfl, rfl, trivial⟩))⟩
   ·refine bY ?_;refine .inl ⟨rfl, ?_⟩;simp only [wH] at h;refine aF (aC (ta (.i 0) (aE ?_)));obtain rfl := sIn h;refine bQ (bL (bR (l := [4]) ⟨rfl, trivial⟩)) ?_;exact rt

theorem yG (a : List aO) {r : Unit} (_ : pC a = some r) : Fn Tryz.prog 75 [.d (Z15 a)] (.fn 107 (Z63 a)) := by
 refine gX func75 rfl (rs := [.tmp 2]) results75 ntmps75 (Nat.le_of_ble_eq_true rfl) ?_;refine aF (aC ?_);refine bE rfl (eB (v := .d (Z15 a)) (aM rfl) rfl rfl rfl) ?_;rintro _ ⟨b1, rfl⟩;refine ta (.d (.lit .nilFunc)) (aE (aF (aC (to (qT (aM rfl) rfl rfl) ?_))));refine ta (.fn 107 [.bp b1 0 0]) (aE ?_);exact bM ⟨rfl, _, [.box b1 0 [.sl 5 (a.map aJ)]], .one (.tmp 2 (v := .fn 107 [.bp b1 0 0]) rfl), .refl _, (rC (.cons (eH 0 rfl rfl (dvc (.same _) dvn)) .nil))⟩

theorem sB {S : Type} (J K : S → MO → Prop) (ly : Nat) (a : S → aO → Option (S × Bool)) (hy : ∀ (s : S) (m : MO) (x0 : aO) (s' : S × Bool), J s m → a s x0 = some s' → yW Tryz.prog ly [.agg (aJ x0)] m (fun b m' => b = s'.2 ∧ JK J K s' m')) (e : List aO) (sy : S) (m0 : MO) (hj : J sy m0) {r : S × Bool} (h : gT a e sy = some r) : dW Tryz.prog 107 [.d (.lit (yv ly)), .cp [.sl 5 (e.map aJ)]] [m0] (fun _ o' => ∃ m', JK J K r m' ∧ o' = [m']) := by
 unfold gT at h;refine uI func107 rfl (rs := []) results107 ntmps107 (Nat.le_of_ble_eq_true rfl) ?_;refine aF (aC (to (slc rfl aNd) (to (sle rfl cU.of) (tm (.i 0) (aE (bH ?_))))));refine cB (S := Int × ({x : S × MO // J x.1 x.2})) [0, 5, 6] (fun s1 => [(7, .i s1.1)]) (fun s1 => [s1.2.1.2]) (fun k s1 => dH a e (e.length : Int) k s1.1 s1.2.1.1) (fun _ => rfl) (0, ⟨(sy, m0), hj⟩) h (aS [0] rfl rfl (aP rfl (aR ⟨rfl, rfl, rfl, trivial⟩))) ?_;rintro k3 ⟨c, y2⟩ h;simp only [dH] at h;refine aF (aC (to (scm rfl rfl rfl) (aE (aF ?_))));refine tih h (fun c4 h => ?_) (fun c4 h => ?_)
 ·refine bA (aF (bH (aF (aC ?_))));obtain ⟨x5, h6, h⟩ := bns h;refine to (six rfl rfl cU.of (bB aJ h6)) (to (aHb (aJ x5) rfl iL) ?_);refine bE rfl (dI (zs := [.j 0, .j 0, .j 0, .j 0, .j 0]) (aM rfl) zeroValue32 rfl rfl) ?_;rintro _ ⟨b7, rfl⟩;refine to (sst 1 rfl rfl sizeOf32 (aJ x5)) (aE (aF (aC (tm (.d (.lit (yv ly))) (to (sla 1 (aJ x5) rfl rfl iL) ?_)))));obtain ⟨y8, h9, h⟩ := bns h;refine aOa rfl (aNt (aM rfl) rfl rfl rfl rfl (hy _ _ _ _ y2.2 h9)) ?_;rintro _ ⟨_, f, ⟨rfl, g⟩, rfl⟩;refine to (sn rfl) (aE ?_);refine tih h (fun j h => ?_) (fun j h => ?_)
  ·obtain rfl := sIn h;exact bM ⟨rfl, _, [f], [.box b7 0 (aJ x5)], _, .none, .refl _, .same _, f, g, rfl⟩
  ·refine bZ ?_;refine aC (to (sar rfl rfl rfl) (tm (.i (w64 (c + 1))) (aE ?_)));exact ⟨(w64 (c + 1), ⟨(y8.1, f), (aYu g (bnf j))⟩), h, aS [0] rfl rfl (aP rfl (aR ⟨rfl, rfl, rfl, trivial⟩))⟩
 ·refine bY ?_;refine .inl ⟨rfl, ?_⟩;simp only [jC] at h;obtain rfl := sIn h;exact ⟨_, [y2.1.2], [], _, .none, .refl _, .same _, y2.1.2, y2.2, rfl⟩

theorem vZ (a : List aO) {r : (List aO)} (h : kM a = some r) : dW Tryz.prog 119 [.d Z40, .fn 107 (Z63 a)] [] (fun r' o' => ∃ (w0 : Value), r' = .d (.lit w0) ∧ o' = [.arr w0 32 5 (r.map aJ)]) := by
 unfold kM at h;refine jN func119 rfl (rs := [.tmp 4]) results119 ntmps119 (Nat.le_of_ble_eq_true rfl) ?_;refine bQ (rE 32 5) ?_;refine aF (aC ?_);refine bE rfl (eB (v := .d Z40) (aM rfl) rfl rfl rfl) ?_;rintro _ ⟨b1, rfl⟩;refine to (fQ 32 5 (.inl rfl) (aM rfl)) ?_;refine aE (aF (aF (aC (tm (.fn 107 (Z63 a)) (aE (bH ?_))))));obtain ⟨⟨s3, b9⟩, h4, h⟩ := bns h;refine aKu (S := (List aO) × Value) (S0 := (List aO)) (f := 107) (ps := [7]) (fun z7 => z7.1) (fun z7 => [.arr z7.2 32 5 (z7.1.map aJ), .box b1 0 [.lit z7.2], .arr (.slice none 0 0) 32 5 (([] : List aO).map aJ)]) (aZg (fun x8 : aO => .agg (aJ x8)) _) (([] : List aO), (.slice none 0 0)) ([] : List aO) (s3, b9) (aS [0, 1, 2] rfl rfl (le_refl _)) rfl call107 rfl (by decide) rfl rfl (fun l J K hy m0 h0 => sB (S := (List aO)) J K l _ (fun _ _ _ _ hJ hq => hy _ _ _ _ hJ ⟨_, rfl, hq⟩) a _ m0 h0 h4) ?_ ?_ ?_
 ·rintro ⟨e5, w6⟩ _ _ ⟨x8, rfl, h⟩;refine ⟨rfl, ?_⟩;refine aC ?_;refine bE rfl (dI (zs := [.j 0, .j 0, .j 0, .j 0, .j 0]) (aM rfl) zeroValue32 rfl rfl) ?_;rintro _ ⟨k, rfl⟩;refine to (sst 3 rfl rfl sizeOf32 (aJ x8)) (aE (bH (aC (to (sl 1 rfl rfl rfl aNd) (to (sla 3 (aJ x8) rfl rfl iL) (to (dM (aM rfl) cU rfl rfl (rows := ([x8]).map aJ) rfl (aZ (f := aJ) fun _ => rfl) rfl (by decide)) ?_))))));obtain ⟨g, j, h⟩ := bns h;refine bE rfl (cO (i := 0) (aM rfl) cU rfl rfl rfl (fun _ => rfl) j rfl) ?_;rintro _ ⟨e, rfl⟩;refine to (sst 1 rfl rfl sizeOf24 [.lit e]) ?_;refine cG ?_;obtain rfl := sIn h;exact ⟨rfl, (g, e), rfl, aS [0, 1, 2] rfl rfl aMt⟩
 ·rintro ⟨e5, w6⟩ b c;subst c;have h := aFg b h;refine aWc ?_;refine aF (aC (to (sl 1 rfl rfl rfl aNd) (ta (.d (.lit w6)) (aE ?_))));obtain rfl := sIn h;exact bM ⟨rfl, _, [.arr w6 32 5 (e5.map aJ)], [.box b1 0 [.lit w6], .arr (.slice none 0 0) 32 5 (([] : List aO).map aJ)], _, .one (.tmp 4 (v := .d (.lit w6)) rfl), .refl _, .same _, w6, rfl, rfl⟩
 ·rintro ⟨e5, w6⟩ b c;subst c;have h := qM b h;cases h

theorem wY (a : List aO) {r : (List aO)} (h : jP a = some r) : dW Tryz.prog 105 [.fn 107 (Z63 a)] [] (fun r' o' => ∃ (w0 : Value), r' = .d (.lit w0) ∧ o' = [.arr w0 32 5 (r.map aJ)]) := by
 unfold jP at h;refine jN func105 rfl (rs := [.tmp 2]) results105 ntmps105 (Nat.le_of_ble_eq_true rfl) ?_;refine aF (aC (to (fQ 32 5 (.inl rfl) (aM rfl)) ?_));refine aE (aF (aC (tm (.fn 107 (Z63 a)) ?_)));obtain ⟨r2, h3, h⟩ := bns h;refine bE rfl (lX (aM rfl) (.func _ _ call119) rfl rfl (vZ _ h3)) ?_;rintro _ ⟨v4, rfl⟩;refine ta (.d (.lit v4)) (aE ?_);obtain rfl := sIn h;refine bQ (aS [1, 0] rfl rfl (le_refl _)) ?_;exact bM ⟨rfl, _, [.arr v4 32 5 (r2.map aJ)], Z55, _, .one (.tmp 2 (v := .d (.lit v4)) rfl), .refl _, .same _, v4, rfl, rfl⟩

theorem wZ (x : List aO) (cmp : aO → aO → Option Int) {r : List aO} {x_v : Value} {e : TypeId} (f : Nat) (v : List AV) (he : ∀ args w, (callFunc f args).run Tryz.prog w = .ok (.enter f args) w) (hh : ∀ x0 x1 r, cmp x0 x1 = some r → Fn Tryz.prog f ([.agg (aJ x0), .agg (aJ x1)] ++ v) (.i r)) (h : nZ x cmp = some r) : dW Tryz.prog 106 [.d (.lit x_v), .fn f v] [.arr x_v e 5 (x.map aJ)] (fun r' o' => r' = .tup [] ∧ o' = [.arr x_v e 5 (r.map aJ)]) := aXu (k := 5) (enc := aJ) (fun _ => rfl) (fun _ => rfl) (by intro x v hv; simp [aJ, cY] at hv; rcases hv with h | h | h | h | h <;> subst h <;> rfl) (fun enc hk h1 cf hO g cb blk off cap d w => Tryz.slices_SortFunc_total_k enc hk h1 cf hO g cb blk off cap d w) (fun p cap fv w => Tryz.slices_SortFunc_none_k p cap fv w) he hh h

theorem vJ (c : List aO) (e : aO → aO → Option Int) {r : (List aO)} (a : Nat) (b : List AV) (f : ∀ args w, (callFunc a args).run Tryz.prog w = .ok (.enter a args) w) (g : ∀ (x0 : aO) (x1 : aO) r, e x0 x1 = some r → Fn Tryz.prog a ([.agg (aJ x0), .agg (aJ x1)] ++ b) (.i r)) (h : iV c e = some r) : dW Tryz.prog 74 [.fn 107 (Z63 c), .fn a b] [] (fun r' o' => ∃ (w0 : Value), r' = .d (.lit w0) ∧ o' = [.arr w0 32 5 (r.map aJ)]) := by
 unfold iV at h;refine jN func74 rfl (rs := [.tmp 4]) results74 ntmps74 (Nat.le_of_ble_eq_true rfl) ?_;refine aF (aC (to (fQ 32 5 (.inl rfl) (aM rfl)) ?_));refine aE (aF (aC (tm (.fn 107 (Z63 c)) ?_)));obtain ⟨r2, h3, h⟩ := bns h;refine bE rfl (lX (aM rfl) (.func _ _ call105) rfl rfl (wY _ h3)) ?_;rintro _ ⟨v4, rfl⟩;refine ta (.d (.lit v4)) (aE (aF (aC (tm (.d (.lit v4)) (tm (.fn a b) ?_)))));obtain ⟨r5, h6, h⟩ := bns h;refine dF (aS [1, 0] rfl rfl (le_refl _)) ?_;refine bE rfl (jQ (passed := [.arr v4 32 5 (r2.map aJ)]) (aM rfl) rfl (.func _ _ call106) rfl rfl (wZ r2 e a b f g h6)) ?_;rintro _ ⟨_, _, ⟨rfl, rfl⟩, rfl⟩;refine aE (aF (aC (tm (.d (.lit v4)) (ta (.d (.lit v4)) (aE ?_)))));obtain rfl := sIn h;exact bM ⟨rfl, _, [.arr v4 32 5 (r5.map aJ)], Z55, _, .one (.tmp 4 (v := .d (.lit v4)) rfl), .refl _, .same _, v4, rfl, rfl⟩

theorem aDp (a : List Int) {r : Int} (h : pQ a = some r) : Fn Tryz.prog 77 [.d (Z22 a)] (.i r) := by
 unfold pQ at h;refine oT [.tmp 2] func77 results77 ntmps77 ?_;refine aF (aC (ta (.i 0) (aE (aF (aC (ta (.i 0) (aE (aF (aF (aC (tm (Z60 a) (to (sle rfl bP.of) (tm (.i 0) ?_)))))))))))));refine aE (bH ?_);refine cB (S := Int) [3, 6, 7] (fun s1 => [(8, .i s1)]) (fun s1 => []) (fun k s1 => pN 0 a (a.length : Int) k s1) (fun _ => rfl) (0) h (aS [] rfl rfl (aP rfl (aR ⟨rfl, rfl, rfl, trivial⟩))) ?_;rintro k2 b h;simp only [pN] at h;refine aF (aC (to (scm rfl rfl rfl) (aE (aF ?_))));refine tih h (fun c3 h => ?_) (fun c3 h => ?_)
 ·refine bA (aF (bH (aF (aC ?_))));obtain ⟨x4, h5, h⟩ := bns h;refine to (six rfl rfl bP.of (bB aH h5)) (to (slc rfl aW) (ta (.i x4) (aE (aF (aC (tm (.i x4) (tm (.i 0) (to (scm rfl rfl rfl) (aE ?_)))))))));refine tih h (fun c6 h => ?_) (fun c6 h => ?_)
  ·refine aF (aC (tm (.i x4) (ta (.i x4) (aE ?_))));obtain rfl := sIn h;exact rt
  ·refine bZ ?_;refine aC (to (sar rfl rfl rfl) (tm (.i (w64 (b + 1))) (aE ?_)));exact ⟨(w64 (b + 1)), h, aS [] rfl rfl (aP rfl (aR ⟨rfl, rfl, rfl, trivial⟩))⟩
 ·refine bY ?_;refine .inl ⟨rfl, ?_⟩;simp only [uR] at h;refine aF (aC (tm (.i 0) (ta (.i 0) (aE ?_))));obtain rfl := sIn h;exact rt

theorem aHm (a : aO) (b : aO) {r : Int} (h : eZ a b = some r) : Fn Tryz.prog 76 [.agg (aJ a), .agg (aJ b)] (.i r) := by
 unfold eZ at h;refine oT [.tmp 4] func76 results76 ntmps76 ?_;refine aF (aC ?_);refine bE rfl (eB (v := .agg (aJ a)) (aM rfl) rfl rfl rfl) ?_;rintro _ ⟨b1, rfl⟩;refine bE rfl (eB (v := .agg (aJ b)) (aM rfl) rfl rfl rfl) ?_;rintro _ ⟨b2, rfl⟩;refine ta (.i 0) (aE (aF (aC (tfl 0 rfl rfl cL rfl aW (tfl 1 rfl rfl cL rfl aW (to (sar rfl rfl rfl) (tfl 0 rfl rfl kF rfl aW (tfl 1 rfl rfl kF rfl aW (to (sar rfl rfl rfl) ?_)))))))));refine to (dM (aM rfl) bP rfl rfl (rows := ([w64 (a.Hour - b.Hour), w64 (a.Id - b.Id)]).map aH) rfl (aZ (f := aH) fun _ => rfl) rfl (by decide)) ?_;obtain ⟨r3, h4, h⟩ := bns h;refine to (scr call77 (aDp _ h4)) (ta (.i r3) (aE ?_));obtain rfl := sIn h;refine bQ (bL (bR (l := [4]) ⟨rfl, trivial⟩)) ?_;exact rt

theorem xY (s : List aO) {r : (List aO)} {j : Value} (h : iK s = some r) : dW Tryz.prog 78 [.d (.lit j)] [.arr j 32 5 (s.map aJ)] (fun r' o' => ∃ w0 : Value, r' = .d (.lit w0) ∧ o' = [.arr w0 32 5 (r.map aJ)]) := by
 unfold iK at h;refine jN func78 rfl (rs := [.tmp 2]) results78 ntmps78 (Nat.le_of_ble_eq_true rfl) ?_;refine aF (aC (to (fQ 32 5 (.inl rfl) (aM rfl)) ?_));refine aE (aF (aF (aC (tm (Z64 j) (to (fJ (m := 0) (aM rfl) rfl rfl cU.of) ?_)))));refine to (scm rfl rfl rfl) (aE ?_);refine tih h (fun c2 h => ?_) (fun c2 h => ?_)
 ·refine aF (aC (tm (Z64 j) (ta (Z64 j) (aE ?_))));obtain rfl := sIn h;exact bM ⟨rfl, _, [.arr j 32 5 (s.map aJ)], Z55, _, .one (.tmp 2 (v := .d (.lit j)) rfl), .refl _, .same _, j, rfl, rfl⟩
 ·refine bA (aF (aF (aC (ta (.i 1) (aE (bH ?_))))));refine cB (S := Int × (List aO) × Value) [] (fun s3 => [(0, .d (.lit s3.2.2)), (3, .i s3.1)]) (fun s3 => [.arr s3.2.2 32 5 (s3.2.1.map aJ)]) (fun k s3 => dL k s3.1 s3.2.1) (fun _ => rfl) (1, s, j) h (aS [0] rfl rfl (aP rfl (aP rfl (aR trivial)))) ?_;rintro k5 ⟨c, p, w4⟩ h;simp only [dL] at h;refine aF (aF (aC (tm (.i c) (tm (.d (.lit w4)) (to (fJ (m := 0) (aM rfl) rfl rfl cU.of) ?_)))));refine to (scm rfl rfl rfl) (aE ?_);refine tih h (fun c6 h => ?_) (fun c6 h => ?_)
  ·refine bA (aF (bH (aF ?_)));obtain ⟨x7, h8, h⟩ := bns h;obtain ⟨x9, x, h⟩ := bns h;refine cI mix 9 [0, 3] [(19, .agg (aJ x7)), (24, .agg (aJ x9))] ?_ ?_
   ·refine ⟨[(16, 0, .d (.lit w4)), (17, 1, .i c), (18, 2, .ep w4 5 c.toNat 0), (19, 3, .agg (aJ x7)), (20, 4, .d (.lit w4)), (21, 5, .i c), (22, 6, .i (w64 (c - 1))), (23, 7, .ep w4 5 (w64 (c - 1)).toNat 0), (24, 8, .agg (aJ x9))], ?_, ?_⟩
    · exact dk [0, 0, 102, 3, 0, 0, 6, 507, 8] ⟨go (zm (.d (.lit w4))),
 go (zm (.i c)),
 go (zia 0 rfl rfl rfl cU.of (bB aJ h8)),
 go fun S hS => lY (aM rfl) (aU hS rfl) (l := 0) rfl (dV aJ h8) iL (es := (aJ x7)) rfl rfl,
 go (zm (.d (.lit w4))),
 go (zm (.i c)),
 go (zar rfl rfl rfl),
 go (zia 0 rfl rfl rfl cU.of (bB aJ x)),
 go fun S hS => lY (aM rfl) (aU hS rfl) (l := 0) rfl (dV aJ x) iL (es := (aJ x9)) rfl rfl, trivial⟩
    · exact bS (aP rfl (aP rfl (aR ⟨rfl, rfl, trivial⟩)))
   ·refine to (aWg (a := x7) (b := x9) (aM rfl) rfl rfl rfl rfl Tryz.eqGuardType32 aDz) ?_;refine aE ?_;refine tih h (fun C h => ?_) (fun C h => ?_)
    ·refine aF (aC (tm (.d (.lit w4)) (tm (.i c) ?_)));obtain ⟨K, E, h⟩ := bns h;refine to (tX (m := 0) (aM rfl) rfl rfl rfl cU.of E) ?_;refine ta (.d (.lit (kD w4 c.toNat 5))) (aE (aF (aF (aC (ta (.i 1) (aE (bH ?_)))))));refine cB (S := Int × Int × (List aO)) [] (fun o => [(0, .d (.lit w4)), (3, .i o.1), (4, .d (.lit (kD w4 c.toNat 5))), (5, .i o.2.1)]) (fun o => [.arr w4 32 5 (o.2.2.map aJ)]) (fun k o => eC (dL k5) c k o.1 o.2.1 o.2.2) (fun _ => rfl) (c, 1, p) h (aS [0] rfl rfl (aP rfl (aP rfl (aP rfl (aP rfl (aR trivial)))))) ?_;rintro L ⟨g, e, n⟩ h;simp only [eC] at h;refine aF (aF (aC (tm (.i e) (tm (.d (.lit (kD w4 c.toNat 5))) (to (aIk (m := 0) (aM rfl) rfl rfl cU.of) ?_)))));refine to (scm rfl rfl rfl) (aE ?_);refine tih h (fun F h => ?_) (fun F h => ?_)
     ·refine bA (aF (bH (aF ?_)));obtain ⟨t, y, h⟩ := bns h;obtain ⟨u, z, h⟩ := bns h;refine cI mix 9 [0, 3, 4, 5] [(38, .agg (aJ t)), (43, .agg (aJ u))] ?_ ?_
      ·refine ⟨[(35, 0, .d (.lit (kD w4 c.toNat 5))), (36, 1, .i e), (37, 2, .ep w4 5 (c.toNat + e.toNat) 0), (38, 3, .agg (aJ t)), (39, 4, .d (.lit (kD w4 c.toNat 5))), (40, 5, .i e), (41, 6, .i (w64 (e - 1))), (42, 7, .ep w4 5 (c.toNat + (w64 (e - 1)).toNat) 0), (43, 8, .agg (aJ u))], ?_, ?_⟩
       · exact dk [0, 0, 102, 3, 0, 0, 6, 507, 8] ⟨go (zm (.d (.lit (kD w4 c.toNat 5)))),
 go (zm (.i e)),
 go fun S hS => sH (m := 0) (aM rfl) (aU hS rfl) rfl (aU hS rfl) cU.of (qY (f := aJ) y),
 go fun S hS => lY (aM rfl) (aU hS rfl) (l := 0) rfl (zB aJ y) iL (es := (aJ t)) rfl rfl,
 go (zm (.d (.lit (kD w4 c.toNat 5)))),
 go (zm (.i e)),
 go (zar rfl rfl rfl),
 go fun S hS => sH (m := 0) (aM rfl) (aU hS rfl) rfl (aU hS rfl) cU.of (qY (f := aJ) z),
 go fun S hS => lY (aM rfl) (aU hS rfl) (l := 0) rfl (zB aJ z) iL (es := (aJ u)) rfl rfl, trivial⟩
       · exact bS (aP rfl (aP rfl (aR ⟨rfl, rfl, rfl, rfl, trivial⟩)))
      ·refine to (aQx (a := t) (b := u) (aM rfl) rfl rfl rfl rfl Tryz.eqGuardType32 aDz) ?_;refine aE ?_;refine tih h (fun G h => ?_) (fun G h => ?_)
       ·refine aF (aC (tm (.d (.lit w4)) (tm (.i g) (tm (.d (.lit (kD w4 c.toNat 5))) (tm (.i e) ?_)))));obtain ⟨w, A, h⟩ := bns h;refine to (sH (m := 0) (aM rfl) rfl rfl rfl cU.of (qY (f := aJ) A)) ?_;refine to (lY (aM rfl) rfl (l := 0) rfl (zB aJ A) iL (es := (aJ w)) rfl rfl) ?_;obtain ⟨M, B, h⟩ := bns h;refine to (cW (m := 0) (aM rfl) rfl rfl rfl cU.of (bB aJ B)) ?_;refine to (dY (l := 0) rfl rfl (dV aJ B) rfl rfl rfl sizeOf32 rfl (aM rfl) (Nat.le_of_ble_eq_true rfl) (rows' := ((n.set g.toNat w)).map aJ) (gZ _ _ _ _ rfl)) ?_;refine aE (aC (tm (.i g) (to (sar rfl rfl rfl) (ta (.i (w64 (g + 1))) ?_))));refine cG ?_;refine aC (tm (.i e) (to (sar rfl rfl rfl) (ta (.i (w64 (e + 1))) (aE ?_))));exact ⟨(w64 (g + 1), w64 (e + 1), (n.set g.toNat w)), h, aS [0] rfl rfl (aP rfl (aP rfl (aP rfl (aP rfl (aR trivial)))))⟩
       ·refine bZ ?_;refine aC (tm (.i e) (to (sar rfl rfl rfl) (ta (.i (w64 (e + 1))) (aE ?_))));exact ⟨(g, w64 (e + 1), n), h, aS [0] rfl rfl (aP rfl (aP rfl (aP rfl (aP rfl (aR trivial)))))⟩
     ·refine bY ?_;refine .inl ⟨rfl, ?_⟩;simp only [nD] at h;refine aF (aC (tm (.d (.lit w4)) (tm (.i g) ?_)));obtain ⟨N, H, h⟩ := bns h;refine to (tX (m := 0) (aM rfl) rfl rfl rfl cU.of H) ?_;obtain ⟨O, I, h⟩ := bns h;refine to (aHa (f := aJ) (m := 0) cU rfl rfl I (by decide)) ?_;refine aE (aF (aC (tm (.d (.lit w4)) (tm (.i g) ?_))));obtain ⟨P, J, h⟩ := bns h;refine to (tW (m := 0) (q := g.toNat) (v := w4) (aM rfl) rfl rfl rfl rfl (aDo J) cU.of) ?_;refine ta (.d (.lit (gL w4 g.toNat))) (aE ?_);obtain rfl := sIn h;exact bM ⟨rfl, _, [.arr (gL w4 g.toNat) 32 5 ((n.take g.toNat).map aJ)], [], _, .one (.tmp 2 (v := .d (.lit (gL w4 g.toNat))) rfl), .refl _, .same _, (gL w4 g.toNat), rfl, rfl⟩
    ·refine bZ ?_;simp only [nC] at h;refine aC (tm (.i c) (to (sar rfl rfl rfl) (ta (.i (w64 (c + 1))) (aE ?_))));exact ⟨(w64 (c + 1), p, w4), h, aS [0] rfl rfl (aP rfl (aP rfl (aR trivial)))⟩
  ·refine bY ?_;refine .inl ⟨rfl, ?_⟩;simp only [nB] at h;refine aF (aC (tm (.d (.lit w4)) (ta (.d (.lit w4)) (aE ?_))));obtain rfl := sIn h;exact bM ⟨rfl, _, [.arr w4 32 5 (p.map aJ)], [], _, .one (.tmp 2 (v := .d (.lit w4)) rfl), .refl _, .same _, w4, rfl, rfl⟩

theorem iR (a : aN) {r : Int} (h : fS a = some r) : Fn Tryz.prog 36 [.cp (bC a)] (.i r) := by
 unfold fS at h;refine oT [.tmp 2] func36 results36 ntmps36 ?_;refine aF (aC (ta (.i 0) (aE (aF ?_))));refine cI mix 9 [] [(7, .i a.Field.Places), (11, .i a.more)] ?_ ?_
 ·refine ⟨[(3, 0, .cp [.j a.Field.Places, .j a.Field.Wilds, .j a.Field.Guards, .j a.Field.Close, .j a.Field.Freeze, .mp true (a.players.map fun p : Int × aA => (VI p.1, aG p.2)), .sl 1 (Z17 a), .k a.frozen, .sl 1 (Z16 a), .sl 1 (Z19 a), .j a.more, .j a.entered]), (4, 1, .cp [.j a.Field.Places, .j a.Field.Wilds, .j a.Field.Guards, .j a.Field.Close, .j a.Field.Freeze, .mp true (a.players.map fun p : Int × aA => (VI p.1, aG p.2)), .sl 1 (Z17 a), .k a.frozen, .sl 1 (Z16 a), .sl 1 (Z19 a), .j a.more, .j a.entered]), (5, 2, .cp [.j a.Field.Places, .j a.Field.Wilds, .j a.Field.Guards, .j a.Field.Close, .j a.Field.Freeze]), (6, 3, .cp [.j a.Field.Places]), (7, 4, .i a.Field.Places), (8, 5, .cp [.j a.Field.Places, .j a.Field.Wilds, .j a.Field.Guards, .j a.Field.Close, .j a.Field.Freeze, .mp true (a.players.map fun p : Int × aA => (VI p.1, aG p.2)), .sl 1 (Z17 a), .k a.frozen, .sl 1 (Z16 a), .sl 1 (Z19 a), .j a.more, .j a.entered]), (9, 6, .cp [.j a.Field.Places, .j a.Field.Wilds, .j a.Field.Guards, .j a.Field.Close, .j a.Field.Freeze, .mp true (a.players.map fun p : Int × aA => (VI p.1, aG p.2)), .sl 1 (Z17 a), .k a.frozen, .sl 1 (Z16 a), .sl 1 (Z19 a), .j a.more, .j a.entered]), (10, 7, .cp [.j a.more]), (11, 8, .i a.more)], ?_, ?_⟩
  · exact dk [0, 1, 2, 3, 4, 0, 6, 7, 8] ⟨go (zm (Z1 a)),
 go fun S hS => dG (aM rfl) (aU hS rfl),
 go (zfc [.j a.Field.Places, .j a.Field.Wilds, .j a.Field.Guards, .j a.Field.Close, .j a.Field.Freeze] rfl gU),
 go (zfc [.j a.Field.Places] rfl wI),
 go (zlc rfl aW),
 go (zm (Z1 a)),
 go fun S hS => dG (aM rfl) (aU hS rfl),
 go (zfc [.j a.more] rfl zH),
 go (zlc rfl aW), trivial⟩
  · exact bS (aP rfl (aP rfl (aR trivial)))
 ·refine to (sar rfl rfl rfl) (ta (.i (w64 (a.Field.Places + a.more))) (aE ?_));obtain rfl := sIn h;exact rt

theorem sX (c : aN) (f : List Int) {r : Int} (h : kE c f = some r) : Fn Tryz.prog 67 [.cp (bC c), .d (Z22 f)] (.i r) := by
 unfold kE at h;refine oT [.tmp 4] func67 results67 ntmps67 ?_;refine aF (aC (ta (.i 0) (aE (aF (aF (aC (tm (Z60 f) (to (sle rfl bP.of) (tm (.i 0) (aE (bH ?_)))))))))));refine cB (S := Int × Int) [0, 7, 8] (fun s1 => [(4, .i s1.1), (9, .i s1.2)]) (fun s1 => []) (fun k s1 => iA c f (f.length : Int) k s1.1 s1.2) (fun _ => rfl) (0, 0) h (aS [] rfl rfl (aP rfl (aP rfl (aR ⟨rfl, rfl, rfl, trivial⟩)))) ?_;rintro k2 ⟨b, e⟩ h;simp only [iA] at h;refine aF (aC (to (scm rfl rfl rfl) (aE (aF ?_))));refine tih h (fun c3 h => ?_) (fun c3 h => ?_)
 ·refine bA (aF (bH (aF (aC ?_))));obtain ⟨x4, h5, h⟩ := bns h;refine to (six rfl rfl bP.of (bB aH h5)) (to (slc rfl aW) (ta (.i x4) (aE (aF (aC (tm (Z1 c) (to (dG (aM rfl) rfl) ?_)))))));refine to (sfc [.mp true (c.players.map fun p : Int × aA => (VI p.1, aG p.2))] rfl dZ) (to (slc rfl gF) (tm (.i x4) (to (jH (enc := aG) (agg := true) (l := c.players) (z := Z2) (a := x4) (aM rfl) iW underlying68 zeroValue94 (fun _ _ => .agg (jY rfl)) rfl rfl rfl rfl (dO (kv := VI) x4)) ?_)));refine to (oM (aM rfl) rfl runUnderlying94 rfl dN rfl) ?_;refine aE ?_;refine tih h (fun c6 h => ?_) (fun c6 h => ?_)
  ·refine aC (tm (.i b) (to (sar rfl rfl rfl) (ta (.i (w64 (b + 1))) ?_)));refine cG ?_;refine aC (to (sar rfl rfl rfl) (tm (.i (w64 (e + 1))) (aE ?_)));exact ⟨(w64 (b + 1), w64 (e + 1)), h, aS [] rfl rfl (aP rfl (aP rfl (aR ⟨rfl, rfl, rfl, trivial⟩)))⟩
  ·refine bZ ?_;refine aC (to (sar rfl rfl rfl) (tm (.i (w64 (e + 1))) (aE ?_)));exact ⟨(b, w64 (e + 1)), h, aS [] rfl rfl (aP rfl (aP rfl (aR ⟨rfl, rfl, rfl, trivial⟩)))⟩
 ·refine bY ?_;refine .inl ⟨rfl, ?_⟩;simp only [rK] at h;refine aF (aC (tm (.i b) (ta (.i b) (aE ?_))));obtain rfl := sIn h;exact rt

theorem vR (c : List (Int × aA)) (d : Int) {r : Bool} {f g j k m o q s t u e : D} (h : iB c d = some r) : Fn Tryz.prog 83 [.cp [f, g, j, k, m, .mp true (c.map fun p : Int × aA => (VI p.1, aG p.2)), o, q, s, t, u, e], .i d] (.b r) := by
 unfold iB at h;refine oT [.tmp 4] func83 results83 ntmps83 ?_;refine aF (aC (ta Z21 (aE (aF (aC (tm (.cp [f, g, j, k, m, .mp true (c.map fun p : Int × aA => (VI p.1, aG p.2)), o, q, s, t, u, e]) (to (dG (aM rfl) rfl) ?_)))))));refine to (sfc [.mp true (c.map fun p : Int × aA => (VI p.1, aG p.2))] rfl dZ) (to (slc rfl gF) (tm (.i d) (to (jH (enc := aG) (agg := true) (l := c) (z := Z2) (a := d) (aM rfl) iW underlying68 zeroValue94 (fun _ _ => .agg (jY rfl)) rfl rfl rfl rfl (dO (kv := VI) d)) ?_)));refine bE rfl (dI (zs := [.k false, .k false, .j 0, .j 0, .k false, .k false, .k false, .k false]) (aM rfl) zeroValue94 rfl rfl) ?_;rintro _ ⟨b1, rfl⟩;refine to (sst 0 rfl rfl sizeOf94 (aG (aL d Z2 c))) (aE (aF (aC (tfl 0 rfl rfl zI rfl dN (tm (.b ((aL d Z2 c).entered)) ?_)))));obtain ⟨b2, h3, h⟩ := bns h;refine bG 4 [5] 18 b2 ?_ ?_
 ·refine bch h3 (fun c7 h3 => ?_) (fun c7 h3 => ?_)
  ·refine tkl 0 c7 rfl rfl rN rfl dN (tk c7 (sn rfl) (to (spt (.b (!((aL d Z2 c).quit))) c7) ?_));obtain rfl := sIn h3;refine aE (aV rfl ⟨rfl, trivial⟩ rfl)
  ·refine tp c7 (tp c7 (tp c7 (to (spf Z21 c7) ?_)));obtain rfl := sIn h3;refine aE (aV rfl ⟨rfl, trivial⟩ rfl)
 ·refine tm (.b b2) ?_;obtain ⟨b4, h5, h⟩ := bns h;refine bG 4 [] 23 b4 ?_ ?_
  ·refine bch h5 (fun c6 h5 => ?_) (fun c6 h5 => ?_)
   ·refine tkl 0 c6 rfl rfl aGu rfl dN (tk c6 (sn rfl) (to (spt (.b (!((aL d Z2 c).had))) c6) ?_));obtain rfl := sIn h5;refine aE (aV rfl trivial rfl)
   ·refine tp c6 (tp c6 (tp c6 (to (spf Z21 c6) ?_)));obtain rfl := sIn h5;refine aE (aV rfl trivial rfl)
  ·refine ta (.b b4) (aE ?_);obtain rfl := sIn h;refine bQ (bL (bR (l := [4]) ⟨rfl, trivial⟩)) ?_;exact rt

theorem aBr (x : List Int) (cmp : Int → Int → Option Int) {r : List Int} {x_v : Value} {e : TypeId} (f : Nat) (v : List AV) (he : ∀ args w, (callFunc f args).run Tryz.prog w = .ok (.enter f args) w) (hh : ∀ x0 x1 r, cmp x0 x1 = some r → Fn Tryz.prog f ([.i x0, .i x1] ++ v) (.i r)) (h : tD x cmp = some r) : dW Tryz.prog 84 [.d (.lit x_v), .fn f v] [.arr x_v e 1 (x.map aH)] (fun r' o' => r' = .tup [] ∧ o' = [.arr x_v e 1 (r.map aH)]) := aTj (fun enc h1 cf hO g cb blk off cap d w => Tryz.slices_SortFunc_total enc h1 cf hO g cb blk off cap d w) (fun p cap fv w => Tryz.slices_SortFunc_none (α := Int) p cap fv w) he hh h

theorem tN (a : aA) {r : Int} (h : jG a = some r) : Fn Tryz.prog 86 [.agg (aG a)] (.i r) := by
 unfold jG at h;refine oT [.tmp 2] func86 results86 ntmps86 ?_;refine aF (aC ?_);refine bE rfl (eB (v := .agg (aG a)) (aM rfl) rfl rfl rfl) ?_;rintro _ ⟨b1, rfl⟩;refine ta (.i 0) (aE (aF (aF (aC (tfl 0 rfl rfl wL rfl aW (to (scm rfl rfl rfl) (aE ?_)))))));refine tih h (fun c2 h => ?_) (fun c2 h => ?_)
 ·refine aF (aC (ta (.i 1) (aE ?_)));obtain rfl := sIn h;refine bQ (bL (bR (l := [2]) ⟨rfl, trivial⟩)) ?_;exact rt
 ·refine bA (aF (aC (ta (.i 0) (aE ?_))));obtain rfl := sIn h;refine bQ (bL (bR (l := [2]) ⟨rfl, trivial⟩)) ?_;exact rt

theorem aAx (e : Int) (g : Int) (c : aN) {r : Int} (h : fD e g c = some r) : Fn Tryz.prog 85 [.i e, .i g, .cp [.pt (bC c)]] (.i r) := by
 unfold fD at h;refine oT [.tmp 5] func85 results85 ntmps85 ?_;refine aF (aC (ta (.i 0) (aE (aF ?_))));refine eD mix 15 [] (fun X1 => [(6, .bp (X1 12).b 0 0), (7, .bp (X1 13).b 0 0), (20, .agg (aG (Z24 g c)))]) (fun X1 => [.box (X1 12).b 0 (aG (Z24 e c)), .box (X1 13).b 0 (aG Z2)]) ?_ ?_
 ·refine ⟨2, fun X1 => [(9, 0, .cp [.j c.Field.Places, .j c.Field.Wilds, .j c.Field.Guards, .j c.Field.Close, .j c.Field.Freeze, .mp true (c.players.map fun p : Int × aA => (VI p.1, aG p.2)), .sl 1 (Z17 c), .k c.frozen, .sl 1 (Z16 c), .sl 1 (Z19 c), .j c.more, .j c.entered]), (10, 1, .cp [.j c.Field.Places, .j c.Field.Wilds, .j c.Field.Guards, .j c.Field.Close, .j c.Field.Freeze, .mp true (c.players.map fun p : Int × aA => (VI p.1, aG p.2)), .sl 1 (Z17 c), .k c.frozen, .sl 1 (Z16 c), .sl 1 (Z19 c), .j c.more, .j c.entered]), (11, 2, .cp [.mp true (c.players.map fun p : Int × aA => (VI p.1, aG p.2))]), (12, 3, .d (.mp true (c.players.map fun p : Int × aA => (VI p.1, aG p.2)))), (13, 4, .i e), (14, 5, .agg (aG (Z24 e c))), (15, 6, .cp [.j c.Field.Places, .j c.Field.Wilds, .j c.Field.Guards, .j c.Field.Close, .j c.Field.Freeze, .mp true (c.players.map fun p : Int × aA => (VI p.1, aG p.2)), .sl 1 (Z17 c), .k c.frozen, .sl 1 (Z16 c), .sl 1 (Z19 c), .j c.more, .j c.entered]), (16, 7, .cp [.j c.Field.Places, .j c.Field.Wilds, .j c.Field.Guards, .j c.Field.Close, .j c.Field.Freeze, .mp true (c.players.map fun p : Int × aA => (VI p.1, aG p.2)), .sl 1 (Z17 c), .k c.frozen, .sl 1 (Z16 c), .sl 1 (Z19 c), .j c.more, .j c.entered]), (17, 8, .cp [.mp true (c.players.map fun p : Int × aA => (VI p.1, aG p.2))]), (18, 9, .d (.mp true (c.players.map fun p : Int × aA => (VI p.1, aG p.2)))), (19, 10, .i g), (20, 11, .agg (aG (Z24 g c))), (6, 12, .bp (X1 12).b 0 0), (7, 13, .bp (X1 13).b 0 0)], fun X1 => [([(14, .box (X1 12).b 0 (aG (Z24 e c))), (12, .box (X1 12).b 0 (aG Z2))], nob), ([(13, .box (X1 13).b 0 (aG Z2))], nob)], ?_, ?_⟩
  · exact xok [(0, 15), (1, 15), (2, 15), (3, 15), (0, 15), (405, 15), (0, 0), (7, 0), (8, 0), (9, 0), (0, 0), (1011, 0), (0, 15), (0, 15), (61314, 0)] ⟨fun _ _ w _ k => xp w (oD (.ptc _) (lM (aM rfl) (aU k rfl) iD)),
 fun _ _ w _ k => xp w (dG (aM rfl) (aU k rfl)),
 fun _ _ w _ k => xp w (yfc k [.mp true (c.players.map fun p : Int × aA => (VI p.1, aG p.2))] rfl dZ),
 fun _ _ w _ k => xp w (ylc k rfl gF),
 fun _ _ w _ k => xp w (ym k (.i e)),
 fun _ _ w _ k => xp w (jH (enc := aG) (agg := true) (l := c.players) (z := Z2) (a := e) (aM rfl) iW underlying68 zeroValue94 (fun _ _ => .agg (jY rfl)) (aU k rfl) rfl rfl (aU k rfl) (dO (kv := VI) e)),
 fun _ _ w _ k => xp w (oD (.ptc _) (lM (aM rfl) (aU k rfl) iD)),
 fun _ _ w _ k => xp w (dG (aM rfl) (aU k rfl)),
 fun _ _ w _ k => xp w (yfc k [.mp true (c.players.map fun p : Int × aA => (VI p.1, aG p.2))] rfl dZ),
 fun _ _ w _ k => xp w (ylc k rfl gF),
 fun _ _ w _ k => xp w (ym k (.i g)),
 fun _ _ w _ k => xp w (jH (enc := aG) (agg := true) (l := c.players) (z := Z2) (a := g) (aM rfl) iW underlying68 zeroValue94 (fun _ _ => .agg (jY rfl)) (aU k rfl) rfl rfl (aU k rfl) (dO (kv := VI) g)),
 fun X1 S hw hi hS => eY (X := X1) (p := 0) (v := fun x => .bp x.b 0 0) (mo := fun x => .box x.b 0 (aG Z2)) hS hi rfl rfl (fun _ => rfl) hw (fun _ => rfl) (fun _ => rfl) (fun _ => rfl) (fun _ => ⟨rfl, rfl, .inr rfl, ⟨rfl, rfl, .inr rfl, ⟨rfl, rfl, .inr rfl, ⟨rfl, rfl, .inr rfl, ⟨rfl, rfl, .inr rfl, ⟨rfl, rfl, .inr rfl, ⟨rfl, rfl, .inr rfl, ⟨rfl, rfl, .inr rfl, ⟨rfl, rfl, .inr rfl, ⟨rfl, rfl, .inr rfl, ⟨rfl, rfl, .inr rfl, ⟨rfl, rfl, .inr rfl, ⟨rfl, rfl, .inl rfl, ⟨rfl, rfl, .inr rfl, trivial⟩⟩⟩⟩⟩⟩⟩⟩⟩⟩⟩⟩⟩⟩) (fun _ => ⟨⟨rfl, .inl rfl, ⟨rfl, .inl rfl, trivial⟩⟩, rfl, ⟨⟨rfl, .inr rfl, trivial⟩, rfl, trivial⟩⟩) (cX (dI (zs := [.k false, .k false, .j 0, .j 0, .k false, .k false, .k false, .k false]) (aM rfl) zeroValue94 rfl rfl) (by rintro _ ⟨w, rfl⟩; exact ⟨⟨w, undef⟩, aS [2, 1] rfl rfl (le_refl _)⟩)),
 fun X1 S hw hi hS => eY (X := X1) (p := 1) (v := fun x => .bp x.b 0 0) (mo := fun x => .box x.b 0 (aG Z2)) hS hi rfl rfl (fun _ => rfl) hw (fun _ => rfl) (fun _ => rfl) (fun _ => rfl) (fun _ => ⟨rfl, rfl, .inr rfl, ⟨rfl, rfl, .inr rfl, ⟨rfl, rfl, .inr rfl, ⟨rfl, rfl, .inr rfl, ⟨rfl, rfl, .inr rfl, ⟨rfl, rfl, .inr rfl, ⟨rfl, rfl, .inr rfl, ⟨rfl, rfl, .inr rfl, ⟨rfl, rfl, .inr rfl, ⟨rfl, rfl, .inr rfl, ⟨rfl, rfl, .inr rfl, ⟨rfl, rfl, .inr rfl, ⟨rfl, rfl, .inr rfl, ⟨rfl, rfl, .inl rfl, trivial⟩⟩⟩⟩⟩⟩⟩⟩⟩⟩⟩⟩⟩⟩) (fun _ => ⟨⟨rfl, .inr rfl, ⟨rfl, .inr rfl, trivial⟩⟩, rfl, ⟨⟨rfl, .inl rfl, trivial⟩, rfl, trivial⟩⟩) (cX (dI (zs := [.k false, .k false, .j 0, .j 0, .k false, .k false, .k false, .k false]) (aM rfl) zeroValue94 rfl rfl) (by rintro _ ⟨w, rfl⟩; exact ⟨⟨w, undef⟩, aS [0, 2] rfl rfl (le_refl _)⟩)),
 fun _ _ _ _ k => xs 0 k rfl rfl (gM (i := 0) (aU k rfl) (og k rfl rfl) (aU k rfl) rfl rfl sizeOf94 rfl (aM rfl) (Nat.le_of_ble_eq_true rfl) (ds' := (aG (Z24 e c))) rfl), trivial⟩
  · exact fun X1 => bS (aP rfl (aP rfl (aP rfl (aR trivial))))
 ·intro X1;refine to (sst 1 rfl rfl sizeOf94 (aG (Z24 g c))) (aE (aF (aC (ta (.fn 86 []) (aE (aF ?_))))));obtain ⟨r2, h3, h⟩ := bns h;obtain ⟨r4, h5, h⟩ := bns h;refine cI mix 17 [] [(27, .i (w64 (r2 - r4))), (32, .i (w64 (((Z24 e c).rank) - ((Z24 g c).rank)))), (37, .i (w64 (((Z24 e c).turn) - ((Z24 g c).turn))))] ?_ ?_
  ·refine ⟨[(21, 0, .fn 86 []), (22, 1, .agg (aG (Z24 e c))), (23, 2, .i r2), (24, 3, .fn 86 []), (25, 4, .agg (aG (Z24 g c))), (26, 5, .i r4), (27, 6, .i (w64 (r2 - r4))), (28, 7, .bp (X1 12).b 0 2), (29, 8, .i ((Z24 e c).rank)), (30, 9, .bp (X1 13).b 0 2), (31, 10, .i ((Z24 g c).rank)), (32, 11, .i (w64 (((Z24 e c).rank) - ((Z24 g c).rank)))), (33, 12, .bp (X1 12).b 0 3), (34, 13, .i ((Z24 e c).turn)), (35, 14, .bp (X1 13).b 0 3), (36, 15, .i ((Z24 g c).turn)), (37, 16, .i (w64 (((Z24 e c).turn) - ((Z24 g c).turn))))], ?_, ?_⟩
   · exact dk [0, 0, 102, 0, 0, 405, 306, 0, 8, 0, 10, 911, 0, 13, 0, 15, 1416] ⟨go (zm (.fn 86 [])),
 go (zla 0 (aG (Z24 e c)) rfl rfl mM),
 go fun S hS => kU (aM rfl) (.clo _ _ _ _ call86 (aIg hS rfl)) (aIr (ev2 (aU hS rfl) evn)) rfl (BVs.refl _ _) (tN _ h3) rfl,
 go (zm (.fn 86 [])),
 go (zla 1 (aG (Z24 g c)) rfl rfl mM),
 go fun S hS => kU (aM rfl) (.clo _ _ _ _ call86 (aIg hS rfl)) (aIr (ev2 (aU hS rfl) evn)) rfl (BVs.refl _ _) (tN _ h5) rfl,
 go (zar rfl rfl rfl),
 go (zf rfl wL),
 go (zl 0 rfl rfl rfl aW),
 go (zf rfl wL),
 go (zl 1 rfl rfl rfl aW),
 go (zar rfl rfl rfl),
 go (zf rfl aCf),
 go (zl 0 rfl rfl rfl aW),
 go (zf rfl aCf),
 go (zl 1 rfl rfl rfl aW),
 go (zar rfl rfl rfl), trivial⟩
   · exact bS (aP rfl (aP rfl (aP rfl (aR trivial))))
  ·refine to (dM (aM rfl) bP rfl rfl (rows := ([w64 (r2 - r4), w64 (((Z24 e c).rank) - ((Z24 g c).rank)), w64 (((Z24 e c).turn) - ((Z24 g c).turn))]).map aH) rfl (aZ (f := aH) fun _ => rfl) rfl (by decide)) ?_;obtain ⟨r6, h7, h⟩ := bns h;refine to (scr call77 (aDp _ h7)) (ta (.i r6) (aE ?_));obtain rfl := sIn h;refine bQ (bL (bR (l := [5]) ⟨rfl, trivial⟩)) ?_;exact rt

theorem aBi (a : aN) {Q : (List Int) → Prop} (h : pV a Q) : dW Tryz.prog 52 [.cp (bC a)] [] (fun r' o' => ∃ (r : (List Int)) (w0 : Value), Q r ∧ r' = .d (.lit w0) ∧ o' = [.arr w0 3 1 (r.map aH)]) := by
 unfold pV at h;refine jN func52 rfl (rs := [.tmp 2]) results52 ntmps52 (Nat.le_of_ble_eq_true rfl) ?_;refine aF (aC ?_);refine dF (aSb 0 rfl (.cpt _)) ?_;refine bE rfl (eB (v := .d (.pt (bC a))) (aM rfl) rfl rfl rfl) ?_;rintro _ ⟨b1, rfl⟩;refine to (fQ 3 1 (.inl rfl) (aM rfl)) ?_;refine aE (aF (aC (to (fQ 3 1 (.inl rfl) (aM rfl)) ?_)));refine aE (aF (aF (aC (to (oD (.ptc _) (nO (aM rfl) rfl (i := 0) rfl rfl iD)) ?_))));refine to (dG (aM rfl) rfl) ?_;refine to (sfc [.mp true (a.players.map fun p : Int × aA => (VI p.1, aG p.2))] rfl dZ) (to (slc rfl gF) ?_);refine bE rfl (aQz (kv := VI) (enc := aG) (agg := true) (l := a.players) (av := (fun v : aA => AV.agg (aG v))) (fun _ => rfl) (aM rfl) underlying68 rfl rfl) ?_;rintro _ ⟨q4, r5, o, e, h8, rfl⟩;have h := aNc h h8;refine aE (bH ?_);refine aVv [1, 9] (fun (j : (List Int) × Value × (List Nat)) => [(3, .d (.lit j.2.1))]) (fun (j : (List Int) × Value × (List Nat)) => [.box b1 0 [.pt (bC a)], .arr j.2.1 3 1 (j.1.map aH), xE VI (fun v : aA => AV.agg (aG v)) a.players r5 o e, .iter q4 r5 e j.2.2 e]) (fun (k : Nat) (j : (List Int) × Value × (List Nat)) => iU Q a k j.1 (oK a.players o j.2.2)) (fun _ h => h) (([] : List Int), (.slice none 0 0), []) h (aS [0, 2, 3, 4] rfl rfl (aP rfl (aR ⟨rfl, rfl, trivial⟩))) ?_;rintro H ⟨b, c, g⟩ h;simp only [iU] at h;refine aF (aC ?_);refine bE rfl (aTc (kv := VI) (av := (fun v : aA => AV.agg (aG v))) (l := a.players) (mi := 3) (mm := 2) (aM rfl) rfl rfl rfl) ?_;rintro _ (⟨y, rfl⟩ | ⟨I, q, m, s, rfl⟩)
 ·have h := h.1 y;refine to (sex rfl rfl) (aE (aF ?_));refine aFn rfl (fun t => ?_) (fun t => ?_)
  ·exact absurd t (by decide)
  ·refine bY ?_;refine .inl ⟨rfl, ?_⟩;simp only [nT] at h;refine aF (aC (tm (.d (.lit c)) (to (qT (aM rfl) rfl rfl) ?_)));refine dF (aS [1, 2, 3, 0] rfl rfl (le_refl _)) ?_;apply vI [.arr c 3 1 (b.map aH), xE VI (fun v : aA => AV.agg (aG v)) a.players r5 o e, .iter q4 r5 e g e] [.box b1 0 [.pt (bC a)]] rfl;exact cZ (k := 22) (v := .fn 85 [.cp [.pt (bC a)]]) (rC (.cons (eH 0 rfl rfl (dvc (.same _) dvn)) .nil)) (cZ (k := 1) (v := .cp [.pt (bC a)]) (eH 0 rfl rfl (dvc (.same _) dvn)) (fU _ _));obtain ⟨u, z, h⟩ := aJa h;refine bE rfl (jQ (passed := [.arr c 3 1 (b.map aH)]) (aM rfl) rfl (.func _ _ call84) rfl rfl (aBr b (fun A B => fD A B a) 85 [.cp [.pt (bC a)]] call85 (fun _ _ _ h => aAx _ _ a h) z)) ?_;rintro _ ⟨_, _, ⟨rfl, rfl⟩, rfl⟩;refine aE (aF (aC (tm (.d (.lit c)) (ta (.d (.lit c)) (aE ?_)))));exact bM ⟨rfl, _, [.arr c 3 1 (u.map aH)], [xE VI (fun v : aA => AV.agg (aG v)) a.players r5 o e, .iter q4 r5 e g e], _, .one (.tmp 2 (v := .d (.lit c)) rfl), .refl _, .same _, u, c, h, rfl, rfl⟩
 ·have h := aOn h s;refine to (sex rfl rfl) (aE (aF ?_));refine aFn rfl (fun w => ?_) (fun w => ?_)
  ·refine bA (bH (aF (aC (to (aQv (kv := VI) (av := (fun v : aA => AV.agg (aG v))) (l := a.players) (mi := 3) (mm := 2) (ka := .i m.1) (aM rfl) rfl rfl rfl s (fun _ _ => .d (.lit _ rfl))) ?_))));refine to (sex rfl rfl) (ta (.i m.1) (aE (aF (aC (to (oD (.ptc _) (nO (aM rfl) rfl (i := 0) rfl rfl iD)) ?_)))));refine tm (.i m.1) ?_;obtain ⟨J, C, h⟩ := aJa h;refine to (scr call83 (vR _ _ C)) (aE ?_);refine tip h (fun E h => ?_) (fun E h => ?_)
   ·refine aC (tm (.d (.lit c)) (tm (.i m.1) (to (dM (aM rfl) bP rfl rfl (rows := ([m.1]).map aH) rfl (aZ (f := aH) fun _ => rfl) rfl (by decide)) ?_)));obtain ⟨F, G, h⟩ := aJa h;refine bE rfl (cO (i := 1) (aM rfl) bP rfl rfl rfl (fun _ => rfl) G rfl) ?_;rintro _ ⟨x, rfl⟩;refine ta (.d (.lit x)) ?_;refine cG ?_;exact ⟨(F, x, (g ++ [q])), h, aS [0, 1, 2, 3] rfl rfl (aP rfl (aR ⟨rfl, rfl, trivial⟩))⟩
   ·refine bZ ?_;exact ⟨(b, c, (g ++ [q])), h, aS [0, 1, 2, 3] rfl rfl (aP rfl (aR ⟨rfl, rfl, trivial⟩))⟩
  ·exact absurd w (by decide)

theorem lJ (a0 : aN) {r : List Int} (h : fH a0 = some r) : dW Tryz.prog 52 (Z34 a0) [] (fun r' o' => ∃ w0, r' = .d (.lit w0) ∧ o' = [.arr w0 3 1 (r.map aH)]) := aSs (enc := fun x : List Int => x.map aH) (aBi a0 (aAy a0 h (fun x => x = r) rfl))
theorem rJ (a0 : aN) {r : List Int} (h : fH a0 = some r) : Fn Tryz.prog 52 (Z34 a0) (Z60 r) := aSf (lJ a0 h)

theorem rM (c : aN) {r : (List Int)} (h : mE c = some r) : dW Tryz.prog 62 [.cp (bC c)] [] (fun r' o' => ∃ (w0 : Value), r' = .d (.lit w0) ∧ o' = [.arr w0 3 1 (r.map aH)]) := by
 unfold mE at h;refine jN func62 rfl (rs := [.tmp 2]) results62 ntmps62 (Nat.le_of_ble_eq_true rfl) ?_;refine aF (aC (to (fQ 3 1 (.inl rfl) (aM rfl)) ?_));refine aE (aF (aC (to (fQ 3 1 (.inl rfl) (aM rfl)) ?_)));refine aE (aF (aF (aC (tm (Z1 c) ?_))));obtain ⟨r3, h4, h⟩ := bns h;refine to (cJ (aM rfl) (.func _ _ call52) rfl rfl (rJ _ h4)) ?_;refine to (sle rfl bP.of) (tm (.i 0) (aE (bH ?_)));refine cB (S := Int × Z66 × Value) [0, 7, 8] (fun s5 => [(3, .d (.lit s5.2.2)), (9, .i s5.1)]) (fun s5 => [.arr s5.2.2 3 1 (s5.2.1.map aH)]) (fun k s5 => iC c r3 (r3.length : Int) k s5.1 s5.2.1) (fun _ => rfl) (0, ([] : List Int), (.slice none 0 0)) h (aS [1] rfl rfl (aP rfl (aP rfl (aR ⟨rfl, rfl, rfl, trivial⟩)))) ?_;rintro k7 ⟨q, e, w6⟩ h;simp only [iC] at h;refine aF (aC (to (scm rfl rfl rfl) (aE (aF ?_))));refine tih h (fun c8 h => ?_) (fun c8 h => ?_)
 ·refine bA (aF (bH (aF (aC ?_))));obtain ⟨x9, y, h⟩ := bns h;refine to (six rfl rfl bP.of (bB aH y)) (to (slc rfl aW) (ta (.i x9) (aE (aF ?_))));obtain ⟨o, w, h⟩ := bns h;obtain ⟨A, s, h⟩ := bns h;refine cI mix 26 [0, 3, 5, 7, 8, 9] [(38, .b A)] ?_ ?_
  ·refine bch s (fun g s => ?_) (fun g s => ?_)
   ·obtain ⟨G, t, s⟩ := bns s;refine bch t (fun j t => ?_) (fun j t => ?_)
    ·obtain rfl := sIn t;obtain rfl := sIn s;refine ⟨[(13, 0, .d (.lit w6)), (14, 1, .i (e.length : Int)), (15, 2, .cp [.j c.Field.Places, .j c.Field.Wilds, .j c.Field.Guards, .j c.Field.Close, .j c.Field.Freeze, .mp true (c.players.map fun p : Int × aA => (VI p.1, aG p.2)), .sl 1 (Z17 c), .k c.frozen, .sl 1 (Z16 c), .sl 1 (Z19 c), .j c.more, .j c.entered]), (16, 3, .i o), (17, 4, .b (decide ((e.length : Int) < o))), (18, 5, .b (decide ((e.length : Int) < o))), (19, 6, .cp [.j c.Field.Places, .j c.Field.Wilds, .j c.Field.Guards, .j c.Field.Close, .j c.Field.Freeze, .mp true (c.players.map fun p : Int × aA => (VI p.1, aG p.2)), .sl 1 (Z17 c), .k c.frozen, .sl 1 (Z16 c), .sl 1 (Z19 c), .j c.more, .j c.entered]), (20, 7, .cp [.j c.Field.Places, .j c.Field.Wilds, .j c.Field.Guards, .j c.Field.Close, .j c.Field.Freeze, .mp true (c.players.map fun p : Int × aA => (VI p.1, aG p.2)), .sl 1 (Z17 c), .k c.frozen, .sl 1 (Z16 c), .sl 1 (Z19 c), .j c.more, .j c.entered]), (21, 8, .cp [.mp true (c.players.map fun p : Int × aA => (VI p.1, aG p.2))]), (22, 9, .d (.mp true (c.players.map fun p : Int × aA => (VI p.1, aG p.2)))), (23, 10, .i x9), (24, 11, .agg (aG (aL x9 Z2 c.players))), (25, 12, .b ((aL x9 Z2 c.players).guard)), (26, 13, .b (!((aL x9 Z2 c.players).guard))), (27, 14, .b (!((aL x9 Z2 c.players).guard))), (28, 15, .tup []), (29, 16, .tup []), (30, 17, .tup []), (31, 18, .tup []), (32, 19, .tup []), (33, 20, .tup []), (34, 21, .tup []), (35, 22, .tup []), (36, 23, .tup []), (37, 24, .b true), (38, 25, .b (true))], ?_, ?_⟩
     · exact dk [0, 1, 0, 3, 204, 5, 6, 607, 608, 609, 6, 61011, 612, 613, 614, 15, 15, 151617, 15, 1519, 1520, 1521, 1522, 151823, 61524, 625] ⟨go (zm (.d (.lit w6))),
 go fun S hS => fJ (m := 0) (aM rfl) (aU hS rfl) rfl bP.of,
 go (zm (Z1 c)),
 go fun S hS => kU (aM rfl) (.func _ _ call36) (ev2 (aU hS rfl) evn) rfl (BVs.refl _ _) (iR _ w) rfl,
 go (zcm rfl rfl rfl),
 go (zm (.b (decide ((e.length : Int) < o)))),
 gt g (zm (Z1 c)),
 gt g fun S hS => dG (aM rfl) (aU hS rfl),
 gt g (zfc [.mp true (c.players.map fun p : Int × aA => (VI p.1, aG p.2))] rfl dZ),
 gt g (zlc rfl gF),
 gt g (zm (.i x9)),
 gt g fun S hS => jH (enc := aG) (agg := true) (l := c.players) (z := Z2) (a := x9) (aM rfl) iW underlying68 zeroValue94 (fun _ _ => .agg (jY rfl)) (aU hS rfl) rfl rfl (aU hS rfl) (dO (kv := VI) x9),
 gt g fun S hS => oM (aM rfl) (aU hS rfl) runUnderlying94 rfl dN rfl,
 gt g (zn rfl),
 gt g (zm (.b (!((aL x9 Z2 c.players).guard)))),
 gp j,
 gp j,
 gp j,
 gp j,
 gp j,
 gp j,
 gp j,
 gp j,
 gp j,
 gt g (zpt Z48 j),
 go (zpt (.b (true)) g), trivial⟩
     · exact bS (aP rfl (aR ⟨rfl, rfl, rfl, rfl, rfl, rfl, trivial⟩))
    ·obtain ⟨u, B, t⟩ := bns t;obtain rfl := sIn t;obtain rfl := sIn s;refine ⟨[(13, 0, .d (.lit w6)), (14, 1, .i (e.length : Int)), (15, 2, .cp [.j c.Field.Places, .j c.Field.Wilds, .j c.Field.Guards, .j c.Field.Close, .j c.Field.Freeze, .mp true (c.players.map fun p : Int × aA => (VI p.1, aG p.2)), .sl 1 (Z17 c), .k c.frozen, .sl 1 (Z16 c), .sl 1 (Z19 c), .j c.more, .j c.entered]), (16, 3, .i o), (17, 4, .b (decide ((e.length : Int) < o))), (18, 5, .b (decide ((e.length : Int) < o))), (19, 6, .cp [.j c.Field.Places, .j c.Field.Wilds, .j c.Field.Guards, .j c.Field.Close, .j c.Field.Freeze, .mp true (c.players.map fun p : Int × aA => (VI p.1, aG p.2)), .sl 1 (Z17 c), .k c.frozen, .sl 1 (Z16 c), .sl 1 (Z19 c), .j c.more, .j c.entered]), (20, 7, .cp [.j c.Field.Places, .j c.Field.Wilds, .j c.Field.Guards, .j c.Field.Close, .j c.Field.Freeze, .mp true (c.players.map fun p : Int × aA => (VI p.1, aG p.2)), .sl 1 (Z17 c), .k c.frozen, .sl 1 (Z16 c), .sl 1 (Z19 c), .j c.more, .j c.entered]), (21, 8, .cp [.mp true (c.players.map fun p : Int × aA => (VI p.1, aG p.2))]), (22, 9, .d (.mp true (c.players.map fun p : Int × aA => (VI p.1, aG p.2)))), (23, 10, .i x9), (24, 11, .agg (aG (aL x9 Z2 c.players))), (25, 12, .b ((aL x9 Z2 c.players).guard)), (26, 13, .b (!((aL x9 Z2 c.players).guard))), (27, 14, .b (!((aL x9 Z2 c.players).guard))), (28, 15, .cp [.j c.Field.Places, .j c.Field.Wilds, .j c.Field.Guards, .j c.Field.Close, .j c.Field.Freeze, .mp true (c.players.map fun p : Int × aA => (VI p.1, aG p.2)), .sl 1 (Z17 c), .k c.frozen, .sl 1 (Z16 c), .sl 1 (Z19 c), .j c.more, .j c.entered]), (29, 16, .d (.lit w6)), (30, 17, .i u), (31, 18, .cp [.j c.Field.Places, .j c.Field.Wilds, .j c.Field.Guards, .j c.Field.Close, .j c.Field.Freeze, .mp true (c.players.map fun p : Int × aA => (VI p.1, aG p.2)), .sl 1 (Z17 c), .k c.frozen, .sl 1 (Z16 c), .sl 1 (Z19 c), .j c.more, .j c.entered]), (32, 19, .cp [.j c.Field.Places, .j c.Field.Wilds, .j c.Field.Guards, .j c.Field.Close, .j c.Field.Freeze, .mp true (c.players.map fun p : Int × aA => (VI p.1, aG p.2)), .sl 1 (Z17 c), .k c.frozen, .sl 1 (Z16 c), .sl 1 (Z19 c), .j c.more, .j c.entered]), (33, 20, .cp [.j c.Field.Places, .j c.Field.Wilds, .j c.Field.Guards, .j c.Field.Close, .j c.Field.Freeze]), (34, 21, .cp [.j c.Field.Guards]), (35, 22, .i c.Field.Guards), (36, 23, .b (decide (u < c.Field.Guards))), (37, 24, .b (decide (u < c.Field.Guards))), (38, 25, .b (decide (u < c.Field.Guards)))], ?_, ?_⟩
     · exact dk [0, 1, 0, 3, 204, 5, 6, 607, 608, 609, 6, 61011, 612, 613, 614, 15, 15, 151617, 15, 1519, 1520, 1521, 1522, 151823, 61524, 625] ⟨go (zm (.d (.lit w6))),
 go fun S hS => fJ (m := 0) (aM rfl) (aU hS rfl) rfl bP.of,
 go (zm (Z1 c)),
 go fun S hS => kU (aM rfl) (.func _ _ call36) (ev2 (aU hS rfl) evn) rfl (BVs.refl _ _) (iR _ w) rfl,
 go (zcm rfl rfl rfl),
 go (zm (.b (decide ((e.length : Int) < o)))),
 gt g (zm (Z1 c)),
 gt g fun S hS => dG (aM rfl) (aU hS rfl),
 gt g (zfc [.mp true (c.players.map fun p : Int × aA => (VI p.1, aG p.2))] rfl dZ),
 gt g (zlc rfl gF),
 gt g (zm (.i x9)),
 gt g fun S hS => jH (enc := aG) (agg := true) (l := c.players) (z := Z2) (a := x9) (aM rfl) iW underlying68 zeroValue94 (fun _ _ => .agg (jY rfl)) (aU hS rfl) rfl rfl (aU hS rfl) (dO (kv := VI) x9),
 gt g fun S hS => oM (aM rfl) (aU hS rfl) runUnderlying94 rfl dN rfl,
 gt g (zn rfl),
 gt g (zm (.b (!((aL x9 Z2 c.players).guard)))),
 gt j (zm (Z1 c)),
 gt j (zm (.d (.lit w6))),
 gt j fun S hS => kU (aM rfl) (.func _ _ call67) (ev2 (aU hS rfl) (ev2 (aU hS rfl) evn)) rfl (.cons (.same _) (.cons (.d (bI 0 rfl (aZ (f := aH) fun _ => rfl))) .nil)) (sX _ _ B) rfl,
 gt j (zm (Z1 c)),
 gt j fun S hS => dG (aM rfl) (aU hS rfl),
 gt j (zfc [.j c.Field.Places, .j c.Field.Wilds, .j c.Field.Guards, .j c.Field.Close, .j c.Field.Freeze] rfl gU),
 gt j (zfc [.j c.Field.Guards] rfl oU),
 gt j (zlc rfl aW),
 gt j (zcm rfl rfl rfl),
 gt g (zpf (.b (decide (u < c.Field.Guards))) j),
 go (zpt (.b (decide (u < c.Field.Guards))) g), trivial⟩
     · exact bS (aP rfl (aR ⟨rfl, rfl, rfl, rfl, rfl, rfl, trivial⟩))
   ·obtain rfl := sIn s;refine ⟨[(13, 0, .d (.lit w6)), (14, 1, .i (e.length : Int)), (15, 2, .cp [.j c.Field.Places, .j c.Field.Wilds, .j c.Field.Guards, .j c.Field.Close, .j c.Field.Freeze, .mp true (c.players.map fun p : Int × aA => (VI p.1, aG p.2)), .sl 1 (Z17 c), .k c.frozen, .sl 1 (Z16 c), .sl 1 (Z19 c), .j c.more, .j c.entered]), (16, 3, .i o), (17, 4, .b (decide ((e.length : Int) < o))), (18, 5, .b (decide ((e.length : Int) < o))), (19, 6, .tup []), (20, 7, .tup []), (21, 8, .tup []), (22, 9, .tup []), (23, 10, .tup []), (24, 11, .tup []), (25, 12, .tup []), (26, 13, .tup []), (27, 14, .tup []), (28, 15, .tup []), (29, 16, .tup []), (30, 17, .tup []), (31, 18, .tup []), (32, 19, .tup []), (33, 20, .tup []), (34, 21, .tup []), (35, 22, .tup []), (36, 23, .tup []), (37, 24, .tup []), (38, 25, .b false)], ?_, ?_⟩
    · exact dk [0, 1, 0, 3, 204, 5, 6, 607, 608, 609, 6, 61011, 612, 613, 614, 15, 15, 151617, 15, 1519, 1520, 1521, 1522, 151823, 61524, 625] ⟨go (zm (.d (.lit w6))),
 go fun S hS => fJ (m := 0) (aM rfl) (aU hS rfl) rfl bP.of,
 go (zm (Z1 c)),
 go fun S hS => kU (aM rfl) (.func _ _ call36) (ev2 (aU hS rfl) evn) rfl (BVs.refl _ _) (iR _ w) rfl,
 go (zcm rfl rfl rfl),
 go (zm (.b (decide ((e.length : Int) < o)))),
 gp g,
 gp g,
 gp g,
 gp g,
 gp g,
 gp g,
 gp g,
 gp g,
 gp g,
 gq,
 gq,
 gq,
 gq,
 gq,
 gq,
 gq,
 gq,
 gq,
 gp g,
 go (zpf Z21 g), trivial⟩
    · exact bS (aP rfl (aR ⟨rfl, rfl, rfl, rfl, rfl, rfl, trivial⟩))
  ·refine aE ?_;refine tih h (fun C h => ?_) (fun C h => ?_)
   ·refine aC (tm (.d (.lit w6)) (tm (.i x9) (to (dM (aM rfl) bP rfl rfl (rows := ([x9]).map aH) rfl (aZ (f := aH) fun _ => rfl) rfl (by decide)) ?_)));obtain ⟨E, F, h⟩ := bns h;refine bE rfl (cO (i := 0) (aM rfl) bP rfl rfl rfl (fun _ => rfl) F rfl) ?_;rintro _ ⟨x, rfl⟩;refine ta (.d (.lit x)) ?_;refine cG ?_;refine aC (to (sar rfl rfl rfl) (tm (.i (w64 (q + 1))) (aE ?_)));exact ⟨(w64 (q + 1), E, x), h, aS [0] rfl rfl (aP rfl (aP rfl (aR ⟨rfl, rfl, rfl, trivial⟩)))⟩
   ·refine bZ ?_;refine aC (to (sar rfl rfl rfl) (tm (.i (w64 (q + 1))) (aE ?_)));exact ⟨(w64 (q + 1), e, w6), h, aS [0] rfl rfl (aP rfl (aP rfl (aR ⟨rfl, rfl, rfl, trivial⟩)))⟩
 ·refine bY ?_;refine .inl ⟨rfl, ?_⟩;simp only [rL] at h;refine aF (aC (tm (.d (.lit w6)) (ta (.d (.lit w6)) (aE ?_))));obtain rfl := sIn h;exact bM ⟨rfl, _, [.arr w6 3 1 (e.map aH)], [], _, .one (.tmp 2 (v := .d (.lit w6)) rfl), .refl _, .same _, w6, rfl, rfl⟩

theorem sW (a : aN) {r : aN} {k m : Nat} {b : Nat} {e : List Nat} {g : Nat} {c : Value} {j : Value} {d : Value} (h : mD a = some r) : dW Tryz.prog 79 [.bp k m 0] (Z13 k m a b c j d e g) (fun r' o' => ∃ (o : List Nat) (q : Nat) (w2 : Value) (w4 : Value) (w5 : Value), r' = .tup [] ∧ o' = [.box k m [.j r.Field.Places, .j r.Field.Wilds, .j r.Field.Guards, .j r.Field.Close, .j r.Field.Freeze, .lit (.map (some b)), .lit w2, .k r.frozen, .lit w4, .lit w5, .j r.more, .j r.entered], .map b (r.players.map fun p : Int × aA => (VI p.1, (fun v : aA => AV.agg (aG v)) p.2)) o q, .arr w2 3 1 (Z17 r), .arr w4 3 1 (Z16 r), .arr w5 3 1 (Z19 r)]) := by
 unfold mD at h;refine uI func79 rfl (rs := []) results79 ntmps79 (Nat.le_of_ble_eq_true rfl) ?_;refine aF (aC (tm (.bp k m 0) (to (bJ (aM rfl) rfl) ?_)));refine tfl 0 rfl rfl vA rfl dN (to (sn rfl) (aE ?_));refine tih h (fun c1 h => ?_) (fun c1 h => ?_)
 ·refine aC (tm (.bp k m 0) (tm (.bp k m 0) (tm (.bp k m 0) ?_)));obtain ⟨r2, h3, h⟩ := bns h;refine bE rfl (uO (aM rfl) (.func _ _ call62) rfl rfl (.cons (eH 0 rfl rfl (dvc (.same _) (dvc (.same _) (dvc (.same _) (dvc (.same _) (dvc (.same _) (dvc (lS (kv := VI) (av := (fun v : aA => AV.agg (aG v))) (l := a.players) (enc := aG) (agg := true) 1 rfl (fun h => by cases h) (fun _ => rfl)) (dvc (bI 2 rfl (aZ (f := aH) fun _ => rfl)) (dvc (.same _) (dvc (bI 3 rfl (aZ (f := aH) fun _ => rfl)) (dvc (bI 4 rfl (aZ (f := aH) fun _ => rfl)) (dvc (.same _) (dvc (.same _) dvn))))))))))))) .nil) (rM _ h3) (mJ (fun _ => rfl) _)) ?_;rintro _ ⟨v4, rfl⟩;refine to (bJ (aM rfl) rfl) ?_;refine to (sf rfl zG) (to (sst 0 rfl rfl sizeOf25 [.j a.Field.Places, .j a.Field.Wilds, .j a.Field.Guards, .j a.Field.Close, .j a.Field.Freeze, .lit (.map (some b)), .lit c, .k a.frozen, .lit v4, .lit d, .j a.more, .j a.entered]) (to (bJ (aM rfl) rfl) ?_));refine to (sf rfl vA) (to (sst 0 rfl rfl sizeOf4 [.j a.Field.Places, .j a.Field.Wilds, .j a.Field.Guards, .j a.Field.Close, .j a.Field.Freeze, .lit (.map (some b)), .lit c, .k true, .lit v4, .lit d, .j a.more, .j a.entered]) (aE ?_));obtain rfl := sIn h;exact ⟨_, [.box k m [.j a.Field.Places, .j a.Field.Wilds, .j a.Field.Guards, .j a.Field.Close, .j a.Field.Freeze, .lit (.map (some b)), .lit c, .k true, .lit v4, .lit d, .j a.more, .j a.entered], .map b (a.players.map fun p : Int × aA => (VI p.1, (fun v : aA => AV.agg (aG v)) p.2)) e g, .arr c 3 1 (Z17 a), .arr v4 3 1 (r2.map aH), .arr d 3 1 (Z19 a)], [.arr j 3 1 (Z16 a)], _, .none, (dU (i := 0) rfl).trans (.cons _ ((dU (i := 0) rfl).trans (.cons _ ((dU (i := 0) rfl).trans (.cons _ ((dU (i := 2) rfl).trans (.cons _ ((dU (i := 1) rfl).trans (.cons _ ((dU (i := 0) rfl).trans (.cons _ (.refl _)))))))))))), .same _, e, g, c, v4, d, rfl, rfl⟩
 ·refine bA ?_;obtain rfl := sIn h;exact ⟨_, (Z13 k m a b c j d e g), [], _, .none, .refl _, .same _, e, g, c, j, d, rfl, rfl⟩

theorem uP (e : List Int) (g : Int → Option Bool) {r : Int} (c : Nat) (f : List AV) (j : ∀ args w, (callFunc c args).run Tryz.prog w = .ok (.enter c args) w) (l : ∀ (x0 : Int) r, g x0 = some r → Fn Tryz.prog c ([.i x0] ++ f) (.b r)) (h : jB e g = some r) : Fn Tryz.prog 90 [.d (Z22 e), .fn c f] (.i r) := by
 unfold jB at h;refine oT [.tmp 4] func90 results90 ntmps90 ?_;refine aF (aC (ta (.i 0) (aE (aF (aF (aC (tm (Z60 e) (to (sle rfl bP.of) (tm (.i 0) (aE (bH ?_)))))))))));refine cB (S := Int) [0, 1, 7] (fun s1 => [(8, .i s1)]) (fun s1 => []) (fun k s1 => gV e g (e.length : Int) k s1) (fun _ => rfl) (0) h (aS [] rfl rfl (aP rfl (aR ⟨rfl, rfl, rfl, trivial⟩))) ?_;rintro k2 a h;simp only [gV] at h;refine aF (aC (to (scm rfl rfl rfl) (aE (aF ?_))));refine tih h (fun c3 h => ?_) (fun c3 h => ?_)
 ·refine bA (aF (bH (aF (aC (tm (.i a) (ta (.i a) (aE (aF (aC (tm (.fn c f) (tm (Z60 e) (tm (.i a) ?_))))))))))));obtain ⟨x4, h5, h⟩ := bns h;refine to (six rfl rfl bP.of (bB aH h5)) (to (slc rfl aW) ?_);obtain ⟨r6, h7, h⟩ := bns h;refine to (kU (aM rfl) (.clo _ _ _ _ j rfl) (aIr rfl) rfl (BVs.refl _ _) (l _ _  h7) rfl) ?_;refine aE ?_;refine tih h (fun c8 h => ?_) (fun c8 h => ?_)
  ·refine aF (aC (tm (.i a) (ta (.i a) (aE ?_))));obtain rfl := sIn h;exact rt
  ·refine bZ ?_;refine aC (to (sar rfl rfl rfl) (tm (.i (w64 (a + 1))) (aE ?_)));exact ⟨(w64 (a + 1)), h, aS [] rfl rfl (aP rfl (aR ⟨rfl, rfl, rfl, trivial⟩))⟩
 ·refine bY ?_;refine .inl ⟨rfl, ?_⟩;simp only [pL] at h;refine aF (aC (ta (.i (-1)) (aE ?_)));obtain rfl := sIn h;exact rt

theorem eU (t : List Int) (s : Int → Option Bool) {r : (List Int)} {a : Value} (e : Nat) (j : List AV) (o : ∀ args w, (callFunc e args).run Tryz.prog w = .ok (.enter e args) w) (p : ∀ (x0 : Int) r, s x0 = some r → Fn Tryz.prog e ([.i x0] ++ j) (.b r)) (h : cT t s = some r) : dW Tryz.prog 64 [.d (.lit a), .fn e j] [.arr a 3 1 (t.map aH)] (fun r' o' => ∃ w0 : Value, r' = .d (.lit w0) ∧ o' = [.arr w0 3 1 (r.map aH)]) := by
 unfold cT at h;refine jN func64 rfl (rs := [.tmp 4]) results64 ntmps64 (Nat.le_of_ble_eq_true rfl) ?_;refine aF (aC (to (fQ 3 1 (.inl rfl) (aM rfl)) ?_));refine aE (aF (aC (tm (Z64 a) (tm (.fn e j) ?_))));obtain ⟨r2, h3, h⟩ := bns h;refine to (sc call90 (uP _ _ e j o p h3) (.cons (.d (bI 0 rfl (aZ (f := aH) fun _ => rfl))) (.cons (.same _) .nil))) (ta (.i r2) (aE (aF (aF (aC (tm (.i r2) (to (scm rfl rfl rfl) (aE ?_))))))));refine tih h (fun c4 h => ?_) (fun c4 h => ?_)
 ·refine aF (aC (tm (Z64 a) (ta (Z64 a) (aE ?_))));obtain rfl := sIn h;exact bM ⟨rfl, _, [.arr a 3 1 (t.map aH)], Z28, _, .one (.tmp 4 (v := .d (.lit a)) rfl), .refl _, .same _, a, rfl, rfl⟩
 ·refine bA (aF (aF (aC (tm (.i r2) (to (sar rfl rfl rfl) (ta (.i (w64 (r2 + 1))) (aE (bH ?_))))))));refine cB (S := Int × Int × Z66) [1] (fun s5 => [(0, .d (.lit a)), (5, .i s5.1), (6, .i s5.2.1)]) (fun s5 => [.arr a 3 1 (s5.2.2.map aH)]) (fun k s5 => fG s k s5.1 s5.2.1 s5.2.2) (fun _ => rfl) (r2, w64 (r2 + 1), t) h (aS [0] rfl rfl (aP rfl (aP rfl (aP rfl (aR ⟨rfl, trivial⟩))))) ?_;rintro k6 ⟨c, g, n⟩ h;simp only [fG] at h;refine aF (aF (aC (tm (.i g) (tm (Z64 a) (to (fJ (m := 0) (aM rfl) rfl rfl bP.of) ?_)))));refine to (scm rfl rfl rfl) (aE ?_);refine tih h (fun c7 h => ?_) (fun c7 h => ?_)
  ·refine bA (aF (bH (aF (aC (tm (Z64 a) (tm (.i g) ?_))))));obtain ⟨x8, h9, h⟩ := bns h;refine to (cW (m := 0) (aM rfl) rfl rfl rfl bP.of (bB aH h9)) ?_;refine to (jZ (aM rfl) rfl (m := 0) rfl (dV aH h9) rfl aW) ?_;refine ta (.i x8) (aE (aF (aC (tm (.fn e j) (tm (.i x8) ?_)))));obtain ⟨C, x, h⟩ := bns h;refine to (kU (aM rfl) (.clo _ _ _ _ o rfl) (aIr rfl) rfl (BVs.refl _ _) (p _ _  x) rfl) ?_;refine to (sn rfl) (aE ?_);refine tih h (fun y h => ?_) (fun y h => ?_)
   ·refine aF (aC (tm (Z64 a) (tm (.i c) (tm (.i x8) ?_))));obtain ⟨E, u, h⟩ := bns h;refine to (cW (m := 0) (aM rfl) rfl rfl rfl bP.of (bB aH u)) ?_;refine to (dY (l := 0) rfl rfl (dV aH u) rfl rfl rfl sizeOf3 rfl (aM rfl) (Nat.le_of_ble_eq_true rfl) (rows' := ((n.set c.toNat x8)).map aH) (gZ _ _ _ _ rfl)) ?_;refine aE (aC (tm (.i c) (to (sar rfl rfl rfl) (ta (.i (w64 (c + 1))) ?_))));refine cG ?_;refine aC (tm (.i g) (to (sar rfl rfl rfl) (ta (.i (w64 (g + 1))) (aE ?_))));exact ⟨(w64 (c + 1), w64 (g + 1), (n.set c.toNat x8)), h, aS [0] rfl rfl (aP rfl (aP rfl (aP rfl (aR ⟨rfl, trivial⟩))))⟩
   ·refine bZ ?_;refine aC (tm (.i g) (to (sar rfl rfl rfl) (ta (.i (w64 (g + 1))) (aE ?_))));exact ⟨(c, w64 (g + 1), n), h, aS [0] rfl rfl (aP rfl (aP rfl (aP rfl (aR ⟨rfl, trivial⟩))))⟩
  ·refine bY ?_;refine .inl ⟨rfl, ?_⟩;simp only [pB] at h;refine aF (aC (tm (Z64 a) (tm (.i c) ?_)));obtain ⟨F, z, h⟩ := bns h;refine to (tX (m := 0) (aM rfl) rfl rfl rfl bP.of z) ?_;obtain ⟨G, A, h⟩ := bns h;refine to (aHa (f := aH) (m := 0) bP rfl rfl A (by decide)) ?_;refine aE (aF (aC (tm (Z64 a) (tm (.i c) ?_))));obtain ⟨H, B, h⟩ := bns h;refine to (tW (m := 0) (q := c.toNat) (v := a) (aM rfl) rfl rfl rfl rfl (aDo B) bP.of) ?_;refine ta (.d (.lit (gL a c.toNat))) (aE ?_);obtain rfl := sIn h;exact bM ⟨rfl, _, [.arr (gL a c.toNat) 3 1 ((n.take c.toNat).map aH)], [], _, .one (.tmp 4 (v := .d (.lit (gL a c.toNat))) rfl), .refl _, .same _, (gL a c.toNat), rfl, rfl⟩

theorem pH (a : Int) (c : aO) {r : Bool} (h : fT a c = some r) : Fn Tryz.prog 108 [.i a, .cp (aJ c)] (.b r) := by
 unfold fT at h;refine oT [.tmp 3] func108 results108 ntmps108 ?_;refine aF (aC (ta Z21 (aE (aF (aC (tm (.i a) (to (sfc [.j c.Player] rfl cN) (to (slc rfl aW) (to (scm rfl rfl rfl) (ta (.b (decide (a = c.Player))) (aE ?_)))))))))));obtain rfl := sIn h;exact rt

end Go.Am
