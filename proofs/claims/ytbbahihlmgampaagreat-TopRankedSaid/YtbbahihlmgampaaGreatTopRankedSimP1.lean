/- The functions compute what the shallow ones say: printed by program. -/
import Derived.Test.YtbbahihlmgampaaGreatTrSh
import Derived.Test.YtbbahihlmgampaaGreatAmVal
import Derived.Test.YtbbahihlmgampaaGreatAmRange
import Derived.Test.YtbbahihlmgampaaGreatTrShelf
import Derived.Test.YtbbahihlmgampaaGreatAmEnt
import Derived.Test.YtbbahihlmgampaaGreatAmSortF
import Derived.Test.YtbbahihlmgampaaGreatAmRangeC
import Derived.Test.YtbbahihlmgampaaGreatAmPtr
import Derived.Test.YtbbahihlmgampaaGreatAmSub
import Derived.Test.YtbbahihlmgampaaGreatEnDet
import Derived.Test.YtbbahihlmgampaaGreatChecked
import Derived.Test.YtbbahihlmgampaaGreatAmShort
import Derived.KernelRfl
namespace Go.Am
open Go.Proofs
open Go.Proofs.Tryz
set_option maxRecDepth 100000
set_option maxHeartbeats 40000000

abbrev D.j (n : Int) : D := .lit (.int .i64 n)
abbrev D.k (b : Bool) : D := .lit (.bool b)
abbrev VI (n : Int) : Value := .int .i64 n
abbrev Z0 (p0 : aN) (p1 : aO) := aH p0.Player (aA.mk false false 0 0 false false false false) p1.players
abbrev Z1 (p0 : aO) : AV := .cp [.j p0.Field.Places, .j p0.Field.Wilds, .j p0.Field.Guards, .j p0.Field.Close, .j p0.Field.Freeze, .mp true (p0.players.map fun p : Int × aA => (VI p.1, aE p.2)), .sl 1 (p0.wilds.map aJ), .k p0.frozen, .sl 1 (p0.first.map aJ), .sl 1 (p0.late.map aJ), .j p0.more, .j p0.entered]
abbrev Z2 := aA.mk false false 0 0 false false false false
abbrev Z3 (p0 : aN) (p1 : aO) := aA.mk ((Z0 p0 p1).entered) ((Z0 p0 p1).guard) ((Z0 p0 p1).rank) ((Z0 p0 p1).turn) true ((Z0 p0 p1).signed) false ((Z0 p0 p1).had)
abbrev Z4 := min (1 : Int).toNat 64
abbrev Z5 (p0 : Nat) (p1 : Nat) (p2 : aO) (p3 : Nat) (p4 : Value) (p5 : Value) (p6 : Value) (p7 : aN) (p8 : List Nat) (p9 : Nat) : List MO := [.box p0 p1 [.j p2.Field.Places, .j p2.Field.Wilds, .j p2.Field.Guards, .j p2.Field.Close, .j p2.Field.Freeze, .lit (.map (some p3)), .lit p4, .k p2.frozen, .lit p5, .lit p6, .j p2.more, .j p2.entered], .map p3 ((dS p7.Player (Z0 p7 p2) p2.players).map fun p : Int × aA => (VI p.1, (fun v : aA => AV.agg (aE v)) p.2)) (mbs p7.Player p2.players p8 p9) (mck p7.Player p2.players p9), .arr p4 3 1 (p2.wilds.map aJ), .arr p5 3 1 (p2.first.map aJ), .arr p6 3 1 (p2.late.map aJ)]
abbrev Z6 (p0 : aN) (p1 : aO) := aA.mk ((Z0 p0 p1).entered) ((Z0 p0 p1).guard) ((Z0 p0 p1).rank) ((Z0 p0 p1).turn) ((Z0 p0 p1).quit) ((Z0 p0 p1).signed) true true
abbrev Z7 (p0 : aN) (p1 : aO) := aA.mk true (decide (p0.Kind = 2)) p0.Rank (w64 (p1.entered + 1)) ((Z0 p0 p1).quit) ((Z0 p0 p1).signed) ((Z0 p0 p1).wild) ((Z0 p0 p1).had)
abbrev Z8 (p0 : aN) (p1 : aO) := aA.mk ((Z0 p0 p1).entered) ((Z0 p0 p1).guard) ((Z0 p0 p1).rank) ((Z0 p0 p1).turn) ((Z0 p0 p1).quit) true ((Z0 p0 p1).wild) ((Z0 p0 p1).had)
abbrev Z9 (p0 : dF) : AV := .cp [.j p0.Ledger.Players, .j p0.Ledger.Counts, .sl 5 (p0.Ledger.Reports.map aF), .sl 3 (p0.Ledger.Bans.map aM), .sl 3 (p0.Ledger.Frozen.map aM)]
abbrev Z10 (p0 : Nat) (p1 : Nat) (p2 : aO) (p3 : Nat) (p4 : Value) (p5 : Value) (p6 : Value) (p7 : List Nat) (p8 : Nat) : List MO := [.box p0 p1 [.j p2.Field.Places, .j p2.Field.Wilds, .j p2.Field.Guards, .j p2.Field.Close, .j p2.Field.Freeze, .lit (.map (some p3)), .lit p4, .k p2.frozen, .lit p5, .lit p6, .j p2.more, .j p2.entered], .map p3 (p2.players.map fun p : Int × aA => (VI p.1, (fun v : aA => AV.agg (aE v)) p.2)) p7 p8, .arr p4 3 1 (p2.wilds.map aJ), .arr p5 3 1 (p2.first.map aJ), .arr p6 3 1 (p2.late.map aJ)]
abbrev Z11 := [(aG.mk 1 0 10 500 false), (aG.mk 2 0 20 300 false), (aG.mk 3 0 30 100 true), (aG.mk 4 1 12 400 false), (aG.mk 5 1 40 200 false), (aG.mk 6 2 15 600 false)]
abbrev Z12 : AV := .b false
abbrev Z13 (p0 : aN) (p1 : aO) := aE (aA.mk true (decide (p0.Kind = 2)) p0.Rank ((Z0 p0 p1).turn) ((Z0 p0 p1).quit) ((Z0 p0 p1).signed) ((Z0 p0 p1).wild) ((Z0 p0 p1).had))
abbrev Z14 (p0 : aO) := p0.first.map aJ
abbrev Z15 (p0 : aN) (p1 : aO) := decide (p0.Hour ≤ p1.Field.Freeze)
abbrev Z16 : List D := [.sl 1 ((([] : List Int)).map aJ), .sl 1 ((([] : List Int)).map aJ), .sl 1 ((([] : List Int)).map aJ), .j 0]
abbrev Z17 (p0 : aO) := p0.wilds.map aJ
abbrev Z18 (p0 : aO) := p0.late.map aJ
abbrev Z19 (p0 : Nat) : D := .lit (.map (some p0))
abbrev Z20 (p0 : Int) (p1 : aO) := aH p0 Z2 p1.players
abbrev Z21 (p0 : aN) : List AV := [.cp [.j p0.Id, .j p0.Hour, .j p0.Kind, .j p0.Player, .j p0.Rank]]
abbrev Z22 (p0 : List bB) : D := .sl 3 (p0.map aM)
abbrev Z23 (p0 : aN) (p1 : aO) := aE (aA.mk true (decide (p0.Kind = 2)) ((Z0 p0 p1).rank) ((Z0 p0 p1).turn) ((Z0 p0 p1).quit) ((Z0 p0 p1).signed) ((Z0 p0 p1).wild) ((Z0 p0 p1).had))
abbrev Z24 (p0 : aN) (p1 : aO) := aE (aA.mk ((Z0 p0 p1).entered) ((Z0 p0 p1).guard) ((Z0 p0 p1).rank) ((Z0 p0 p1).turn) true ((Z0 p0 p1).signed) ((Z0 p0 p1).wild) ((Z0 p0 p1).had))
abbrev Z25 (p0 : aN) (p1 : aO) := aE (aA.mk true ((Z0 p0 p1).guard) ((Z0 p0 p1).rank) ((Z0 p0 p1).turn) ((Z0 p0 p1).quit) ((Z0 p0 p1).signed) ((Z0 p0 p1).wild) ((Z0 p0 p1).had))
abbrev Z26 (p0 : aN) (p1 : aO) (p2 : Nat) := mck p0.Player p1.players p2
abbrev Z27 (p0 : aN) (p1 : aO) (p2 : List Nat) (p3 : Nat) := mbs p0.Player p1.players p2 p3
abbrev Z28 (p0 : List aN) : D := .sl 5 (p0.map aK)
abbrev Z29 (p0 : aO) : List AV := [.cp [.j p0.Field.Places, .j p0.Field.Wilds, .j p0.Field.Guards, .j p0.Field.Close, .j p0.Field.Freeze, .mp true (p0.players.map fun p : Int × aA => (VI p.1, aE p.2)), .sl 1 (Z17 p0), .k p0.frozen, .sl 1 (Z14 p0), .sl 1 (Z18 p0), .j p0.more, .j p0.entered]]
abbrev Z30 : List MO := [.arr (.slice none 0 0) 3 1 (([] : List Int).map aJ)]
abbrev Z31 : D := .lit (.slice none 0 0)
abbrev Z32 (p0 : aN) (p1 : aO) := (Z0 p0 p1).wild
abbrev Z33 (p0 : List aG) : D := .sl 5 (p0.map aF)
abbrev Z34 : D := .lit (.pointer none)
abbrev Z35 (p0 : List Int) : D := .sl 1 (p0.map aJ)
abbrev Z36 (p0 : Nat) (p1 : Nat) (p2 : aO) (p3 : Nat) (p4 : Value) (p5 : Value) (p6 : Value) (p7 : aN) (p8 : List Nat) (p9 : Nat) : List MO := [.box p0 p1 [.j p2.Field.Places, .j p2.Field.Wilds, .j p2.Field.Guards, .j p2.Field.Close, .j p2.Field.Freeze, .lit (.map (some p3)), .lit p4, .k p2.frozen, .lit p5, .lit p6, .j p2.more, .j (w64 (p2.entered + 1))], .map p3 ((dS p7.Player (Z7 p7 p2) p2.players).map fun p : Int × aA => (VI p.1, (fun v : aA => AV.agg (aE v)) p.2)) (Z27 p7 p2 p8 p9) (Z26 p7 p2 p9), .arr p4 3 1 (Z17 p2), .arr p5 3 1 (Z14 p2), .arr p6 3 1 (Z18 p2)]
abbrev Z37 (p0 : aO) := decide ((p0.wilds.length : Int) < p0.Field.Wilds)
abbrev Z38 : List MO := [.arr (.slice none 0 0) 51 5 (([] : List aG).map aF)]
abbrev Z39 (p0 : Value) : AV := .d (.lit p0)
abbrev Z40 (p0 : dF) := p0.Ledger.Bans.map aM
abbrev Z41 := bJ (bE.mk 3 1 1 10 20)
abbrev Z42 (p0 : Nat) (p1 : Nat) (p2 : aO) (p3 : Nat) (p4 : Value) (p5 : Value) (p6 : Value) (p7 : aN) (p8 : List Nat) (p9 : Nat) : List MO := [.box p0 p1 [.j p2.Field.Places, .j p2.Field.Wilds, .j p2.Field.Guards, .j p2.Field.Close, .j p2.Field.Freeze, .lit (.map (some p3)), .lit p4, .k p2.frozen, .lit p5, .lit p6, .j p2.more, .j p2.entered], .map p3 ((dS p7.Player (Z8 p7 p2) p2.players).map fun p : Int × aA => (VI p.1, (fun v : aA => AV.agg (aE v)) p.2)) (Z27 p7 p2 p8 p9) (Z26 p7 p2 p9), .arr p4 3 1 (Z17 p2), .arr p5 3 1 (Z14 p2), .arr p6 3 1 (Z18 p2)]
abbrev Z43 (p0 : dF) := p0.Ledger.Reports.map aF
abbrev Z44 : AV := .b true
abbrev Z45 (p0 : dF) := p0.Ledger.Frozen.map aM
abbrev Z46 (p0 : eJ) : D := .sl 1 (p0.Players.map aJ)
abbrev Z47 (p0 : aO) (p1 : Value) (p2 : Value) (p3 : Value) : List AV := [.cp [.pt [.j p0.Field.Places, .j p0.Field.Wilds, .j p0.Field.Guards, .j p0.Field.Close, .j p0.Field.Freeze, .mp true (p0.players.map fun p : Int × aA => (VI p.1, aE p.2)), .lit p1, .k p0.frozen, .lit p2, .lit p3, .j p0.more, .j p0.entered]]]
abbrev Z48 := jT gD (none : Option dF)
abbrev Z49 := eO (eR.mk ([] : List Int) ([] : List Int) ([] : List Int) 0)
abbrev Z50 := aY (aU.mk 3 2 Z11 ([(bB.mk 1 50 55)]) ([(bB.mk 2 20 29)]))
abbrev Z51 (p0 : aO) := w64 (p0.entered + 1)
abbrev Z52 (p0 : aN) (p1 : aO) := (Z0 p0 p1).quit
abbrev Z53 := (([] : List bB)).map aM
abbrev Z54 : List MO := [.arr (.slice none 0 0) 41 5 (([] : List aN).map aK)]
abbrev Z55 (p0 : aO) (p1 : aN) := decide (p0.Field.Freeze < p1.Hour)
abbrev Z56 (p0 : aN) (p1 : aO) := aE (aA.mk ((Z0 p0 p1).entered) ((Z0 p0 p1).guard) ((Z0 p0 p1).rank) ((Z0 p0 p1).turn) (Z52 p0 p1) ((Z0 p0 p1).signed) true ((Z0 p0 p1).had))
abbrev Z57 (p0 : List aN) : List AV := [.cp [.sl 5 (p0.map aK)]]
abbrev Z58 (p0 : Value) (p1 : List aG) : List MO := [.arr p0 51 5 (p1.map aF)]
abbrev Z59 := jT bX (none : Option aO)
abbrev Z60 (p0 : Int) (p1 : aO) := (Z20 p0 p1).signed
abbrev Z61 (p0 : aU) := p0.Frozen.map aM
abbrev Z62 (p0 : List bB) : AV := .d (Z22 p0)
abbrev Z63 (p0 : aN) (p1 : aO) := aE (Z0 p0 p1)
abbrev Z64 (p0 : aO) := w64 (p0.more + 1)
abbrev Z65 := aN.mk 0 0 0 0 0
abbrev Z66 : AV := .b (false)
abbrev Z67 (p0 : aN) (p1 : aO) : AV := .b (!(Z32 p0 p1))
abbrev Z68 := aM (bB.mk 0 0 0)
abbrev Z69 (p0 : Int) (p1 : Int) : AV := .b (decide (p0 ≤ p1))
abbrev Z70 (p0 : List aN) : AV := .d (Z28 p0)
abbrev Z71 (p0 : aN) (p1 : aO) := aE (Z3 p0 p1)
abbrev Z72 (p0 : aN) : AV := .b (decide (p0.Kind = 3))
abbrev Z73 (p0 : aN) : AV := .b (decide (p0.Kind = 4))
abbrev Z74 (p0 : aN) : AV := .b (decide (p0.Kind = 5))
abbrev Z75 := List Int
abbrev Z76 (p0 : aN) := decide (p0.Kind = 2)
abbrev Z77 := (([] : List aG)).map aF
abbrev Z78 := List aG
abbrev Z79 (p0 : aN) (p1 : aO) := dS p0.Player (Z3 p0 p1) p1.players
abbrev Z80 := ([] : List Int).map aJ
theorem mix : Tryz.prog.follows .mixedOrders = true := Checked.mixed Tryz.checked

theorem oF : nP Tryz.prog 25 5 := ⟨isAgg25, sizeOf25⟩
theorem yS : cC Tryz.prog 30 0 0 := bR runUnderlying30 rfl rfl sizeOf3
theorem aS : lC Tryz.prog 3 := ⟨isAgg3, sizeOf3⟩
theorem kQ : cC Tryz.prog 30 1 1 := bR runUnderlying30 rfl rfl sizeOf28
theorem dA : lC Tryz.prog 28 := ⟨isAgg28, sizeOf28⟩
theorem bZ : SliceTy Tryz.prog 28 3 1 8 (.int .i64 0) := ⟨underlying28, ⟨Tryz.t3, by kernel_rfl, rfl, rfl, rfl⟩, rfl, by decide⟩
theorem rI : nP Tryz.prog 27 5 := ⟨isAgg27, sizeOf27⟩
theorem lY : cC Tryz.prog 25 0 0 := bR runUnderlying25 rfl rfl sizeOf3
theorem aMk : qB Tryz.prog 41 (.agg #[.int .i64 0, .int .i64 0, .int .i64 0, .int .i64 0, .int .i64 0]) [(0, 1), (1, 1), (2, 1), (3, 1), (4, 1)] := ⟨zeroValue41, _, runUnderlying41, fun w => by simp [sizeOf3]⟩
theorem gS : SliceTy Tryz.prog 36 41 5 40 (.agg #[.int .i64 0, .int .i64 0, .int .i64 0, .int .i64 0, .int .i64 0]) := ⟨underlying36, ⟨Tryz.t41, by kernel_rfl, rfl, rfl, rfl⟩, rfl, by decide⟩
theorem sK : cC Tryz.prog 27 3 3 := bR runUnderlying27 rfl rfl sizeOf3
theorem sL : cC Tryz.prog 45 0 0 := bR runUnderlying45 rfl rfl sizeOf28
theorem aSb : cC Tryz.prog 45 2 2 := bR runUnderlying45 rfl rfl sizeOf28
theorem yR : cC Tryz.prog 27 0 0 := bR runUnderlying27 rfl rfl sizeOf3
theorem aSa : cC Tryz.prog 45 1 1 := bR runUnderlying45 rfl rfl sizeOf28
theorem aSc : cC Tryz.prog 45 3 3 := bR runUnderlying45 rfl rfl sizeOf3
theorem lZ : cC Tryz.prog 25 2 2 := bR runUnderlying25 rfl rfl sizeOf22
theorem qQ : lC Tryz.prog 22 := ⟨isAgg22, sizeOf22⟩
theorem cL : SliceTy Tryz.prog 22 51 5 40 (.agg #[.int .i64 0, .int .i64 0, .int .i64 0, .int .i64 0, .bool false]) := ⟨underlying22, ⟨Tryz.t51, by kernel_rfl, rfl, rfl, rfl⟩, rfl, by decide⟩
theorem yQ : cC Tryz.prog 25 3 3 := bR runUnderlying25 rfl rfl sizeOf23
theorem pQ : lC Tryz.prog 23 := ⟨isAgg23, sizeOf23⟩
theorem jU : SliceTy Tryz.prog 23 79 3 24 (.agg #[.int .i64 0, .int .i64 0, .int .i64 0]) := ⟨underlying23, ⟨Tryz.t79, by kernel_rfl, rfl, rfl, rfl⟩, rfl, by decide⟩
theorem rD : cC Tryz.prog 25 4 4 := bR runUnderlying25 rfl rfl sizeOf23
theorem rE : cC Tryz.prog 51 2 2 := bR runUnderlying51 rfl rfl sizeOf3
theorem aFw : cC Tryz.prog 25 1 1 := bR runUnderlying25 rfl rfl sizeOf3
theorem fF : nP Tryz.prog 51 5 := ⟨isAgg51, sizeOf51⟩
theorem aCz : nP Tryz.prog 79 3 := ⟨isAgg79, sizeOf79⟩
theorem oY : cC Tryz.prog 79 0 0 := bR runUnderlying79 rfl rfl sizeOf3
theorem nA : cC Tryz.prog 79 1 1 := bR runUnderlying79 rfl rfl sizeOf3
theorem oZ : cC Tryz.prog 79 2 2 := bR runUnderlying79 rfl rfl sizeOf3
theorem oB : cC Tryz.prog 51 0 0 := bR runUnderlying51 rfl rfl sizeOf3
theorem uD : cC Tryz.prog 51 1 1 := bR runUnderlying51 rfl rfl sizeOf3
theorem vR : cC Tryz.prog 51 3 3 := bR runUnderlying51 rfl rfl sizeOf3
theorem aKx : aOm Tryz.prog 51 aF := by
  rintro ⟨a0, a1, a2, a3, a4⟩ ⟨b0, b1, b2, b3, b4⟩ w
  simp [aF, gI, go_sem, Op.eqFields, Program.fieldsOf] <;> (repeat' split) <;> simp_all
theorem aBu : cC Tryz.prog 27 1 1 := bR runUnderlying27 rfl rfl sizeOf3
theorem aBv : cC Tryz.prog 27 2 2 := bR runUnderlying27 rfl rfl sizeOf3
theorem lI : cC Tryz.prog 27 4 4 := bR runUnderlying27 rfl rfl sizeOf3
theorem lL : nP Tryz.prog 41 5 := ⟨isAgg41, sizeOf41⟩
theorem mA : cC Tryz.prog 41 0 0 := bR runUnderlying41 rfl rfl sizeOf3
theorem aGu : aOm Tryz.prog 41 aK := by
  rintro ⟨a0, a1, a2, a3, a4⟩ ⟨b0, b1, b2, b3, b4⟩ w
  simp [aK, gI, go_sem, Op.eqFields, Program.fieldsOf] <;> (repeat' split) <;> simp_all
theorem fB : cC Tryz.prog 41 3 3 := bR runUnderlying41 rfl rfl sizeOf3
theorem gV : cC Tryz.prog 41 1 1 := bR runUnderlying41 rfl rfl sizeOf3
theorem yT : cC Tryz.prog 41 2 2 := bR runUnderlying41 rfl rfl sizeOf3
theorem oA : cC Tryz.prog 41 4 4 := bR runUnderlying41 rfl rfl sizeOf3
theorem aBf : qB Tryz.prog 51 (.agg #[.int .i64 0, .int .i64 0, .int .i64 0, .int .i64 0, .bool false]) [(0, 1), (1, 1), (2, 1), (3, 1), (4, 1)] := ⟨zeroValue51, _, runUnderlying51, fun w => by simp [sizeOf3, sizeOf4]⟩
theorem aRd : qB Tryz.prog 79 (.agg #[.int .i64 0, .int .i64 0, .int .i64 0]) [(0, 1), (1, 1), (2, 1)] := ⟨zeroValue79, _, runUnderlying79, fun w => by simp [sizeOf3]⟩
theorem aVx : qB Tryz.prog 25 (.agg #[.int .i64 0, .int .i64 0, .slice none 0 0, .slice none 0 0, .slice none 0 0]) [(0, 1), (1, 1), (2, 1), (3, 1), (4, 1)] := ⟨zeroValue25, _, runUnderlying25, fun w => by simp [sizeOf22, sizeOf23, sizeOf3]⟩
theorem aWa : qB Tryz.prog 85 (.agg #[.int .i64 0, .int .i64 0, .slice none 0 0, .slice none 0 0, .slice none 0 0]) [(0, 5)] := ⟨zeroValue85, _, runUnderlying85, fun w => by simp [sizeOf25]⟩
theorem vX : cC Tryz.prog 85 0 0 := bR runUnderlying85 rfl rfl sizeOf25
theorem aWb : qB Tryz.prog 91 (.agg #[.int .i64 0, .int .i64 0, .int .i64 0, .int .i64 0]) [(0, 1), (1, 1), (2, 1), (3, 1)] := ⟨zeroValue91, _, runUnderlying91, fun w => by simp [sizeOf3]⟩
theorem uE : cC Tryz.prog 51 4 4 := bR runUnderlying51 rfl rfl sizeOf4
theorem fI : lC Tryz.prog 4 := ⟨isAgg4, sizeOf4⟩
theorem aBx : cC Tryz.prog 91 2 2 := bR runUnderlying91 rfl rfl sizeOf3
theorem aAn : nP Tryz.prog 91 4 := ⟨isAgg91, sizeOf91⟩
theorem vF : SliceTy Tryz.prog 83 91 4 32 (.agg #[.int .i64 0, .int .i64 0, .int .i64 0, .int .i64 0]) := ⟨underlying83, ⟨Tryz.t91, by kernel_rfl, rfl, rfl, rfl⟩, rfl, by decide⟩
theorem aFy : cC Tryz.prog 91 0 0 := bR runUnderlying91 rfl rfl sizeOf3
theorem aLd : cC Tryz.prog 91 1 1 := bR runUnderlying91 rfl rfl sizeOf3
theorem aLe : cC Tryz.prog 91 3 3 := bR runUnderlying91 rfl rfl sizeOf3
theorem aVy : qB Tryz.prog 27 (.agg #[.int .i64 0, .int .i64 0, .int .i64 0, .int .i64 0, .int .i64 0]) [(0, 1), (1, 1), (2, 1), (3, 1), (4, 1)] := ⟨zeroValue27, _, runUnderlying27, fun w => by simp [sizeOf3]⟩
theorem aRc : qB Tryz.prog 45 (.agg #[.slice none 0 0, .slice none 0 0, .slice none 0 0, .int .i64 0]) [(0, 1), (1, 1), (2, 1), (3, 1)] := ⟨zeroValue45, _, runUnderlying45, fun w => by simp [sizeOf28, sizeOf3]⟩
theorem lJ : cC Tryz.prog 69 2 6 := bR runUnderlying69 rfl rfl sizeOf28
theorem aPy : nP Tryz.prog 45 4 := ⟨isAgg45, sizeOf45⟩
theorem kL : aBi Tryz.prog 3 VI := aQn underlying3
theorem aVz : qB Tryz.prog 69 (.agg #[.int .i64 0, .int .i64 0, .int .i64 0, .int .i64 0, .int .i64 0, .map none, .slice none 0 0, .bool false, .slice none 0 0, .slice none 0 0, .int .i64 0, .int .i64 0]) [(0, 5), (5, 1), (6, 1), (7, 1), (8, 1), (9, 1), (10, 1), (11, 1)] := ⟨zeroValue69, _, runUnderlying69, fun w => by simp [sizeOf27, sizeOf28, sizeOf3, sizeOf4, sizeOf67]⟩
theorem vS : cC Tryz.prog 69 3 7 := bR runUnderlying69 rfl rfl sizeOf4
theorem aLw : lC Tryz.prog 36 := ⟨isAgg36, sizeOf36⟩
theorem yU : cC Tryz.prog 69 4 8 := bR runUnderlying69 rfl rfl sizeOf28
theorem fC : cC Tryz.prog 69 1 5 := bR runUnderlying69 rfl rfl sizeOf67
theorem jA : lC Tryz.prog 67 := ⟨isAgg67, sizeOf67⟩
theorem kC : cC Tryz.prog 69 0 0 := bR runUnderlying69 rfl rfl sizeOf27
theorem yV : cC Tryz.prog 69 6 10 := bR runUnderlying69 rfl rfl sizeOf3
theorem kP : lC Tryz.prog 63 := ⟨isAgg63, sizeOf63⟩
theorem yW : cC Tryz.prog 75 0 0 := bR runUnderlying75 rfl rfl sizeOf4
theorem rF : cC Tryz.prog 75 4 4 := bR runUnderlying75 rfl rfl sizeOf4
theorem aFx : cC Tryz.prog 75 7 7 := bR runUnderlying75 rfl rfl sizeOf4
theorem mS : nP Tryz.prog 75 8 := ⟨isAgg75, sizeOf75⟩
theorem vV : cC Tryz.prog 75 2 2 := bR runUnderlying75 rfl rfl sizeOf3
theorem aBw : cC Tryz.prog 75 3 3 := bR runUnderlying75 rfl rfl sizeOf3
theorem vU : cC Tryz.prog 69 7 11 := bR runUnderlying69 rfl rfl sizeOf3
theorem yX : cC Tryz.prog 75 1 1 := bR runUnderlying75 rfl rfl sizeOf4
theorem kR : cC Tryz.prog 75 6 6 := bR runUnderlying75 rfl rfl sizeOf4
theorem vW : cC Tryz.prog 75 5 5 := bR runUnderlying75 rfl rfl sizeOf4
theorem vT : cC Tryz.prog 69 5 9 := bR runUnderlying69 rfl rfl sizeOf28
theorem aBc : SliceTy Tryz.prog 124 28 1 24 (.slice none 0 0) := ⟨underlying124, ⟨Tryz.t28, by kernel_rfl, rfl, rfl, rfl⟩, rfl, by decide⟩
theorem aLv : lC Tryz.prog 32 := ⟨isAgg32, sizeOf32⟩

theorem fL (d : Int) (c : Int) (a : Int) {r : Bool} (h : fU d c a = some r) : Fn Tryz.prog 29 [.i d, .i c, .i a] (.b r) := by
 unfold fU at h;refine oT [.tmp 6] func29 results29 ntmps29 ?_;refine aD (aB (ta Z12 (aC (aD (aB (tm (.i d) (tm (.i c) (to (scm rfl rfl rfl) (tm (Z69 c d) ?_)))))))));obtain ⟨b1, h2, h⟩ := bns h;refine aZ 4 [] 14 b1 ?_ ?_
 ·refine bch h2 (fun c3 h2 => ?_) (fun c3 h2 => ?_)
  ·refine tk c3 (sm (.i d)) (tk c3 (sm (.i a)) (tk c3 (scm rfl rfl rfl) (to (spt (Z69 d a) c3) ?_)));obtain rfl := sIn h2;refine aC (aQ rfl trivial rfl)
  ·refine tp c3 (tp c3 (tp c3 (to (spf Z12 c3) ?_)));obtain rfl := sIn h2;refine aC (aQ rfl trivial rfl)
 ·refine ta (.b b1) (aC ?_);obtain rfl := sIn h;exact rt

theorem tH (e : Int) (j : List bB) {r : Bool} (h : kK e j = some r) : Fn Tryz.prog 30 [.i e, .d (Z22 j)] (.b r) := by
 unfold kK at h;refine oT [.tmp 4] func30 results30 ntmps30 ?_;refine aD (aB (ta Z12 (aC (aD (aD (aB (ta (.i 0) (aC (bF ?_)))))))));refine bY (S := Int) [0, 1] (fun s1 => [(5, .i s1)]) (fun s1 => []) (fun k s1 => gU e j k s1) (fun _ => rfl) (0) h (aR [] rfl rfl (aL rfl (aP ⟨rfl, rfl, trivial⟩))) ?_;rintro k2 c h;simp only [gU] at h;refine aD (aD (aB (tm (.i c) (tm (Z62 j) (to (sle rfl jU.of) (to (scm rfl rfl rfl) (aC ?_)))))));refine tih h (fun c3 h => ?_) (fun c3 h => ?_)
 ·refine aV (aD (bF (aD ?_)));obtain ⟨x4, h5, h⟩ := bns h;obtain ⟨r6, h7, h⟩ := bns h;obtain ⟨b8, h9, h⟩ := bns h;obtain ⟨y, p, h⟩ := bns h;obtain ⟨v, o, h⟩ := bns h;refine cG mix 38 [0, 1, 5] [(49, .b v)] ?_ ?_
  ·refine bch h9 (fun l h9 => ?_) (fun l h9 => ?_)
   ·obtain rfl := sIn h9;have a : true = true := rfl;have p := uK a p;obtain rfl := sIn p;have f : true = true := rfl;have o := uK f o;obtain rfl := sIn o;refine ⟨[(12, 0, .d (Z22 j)), (13, 1, .i c), (14, 2, .cp [.j x4.Player, .j x4.From, .j x4.To]), (15, 3, .cp [.j x4.Player]), (16, 4, .i x4.Player), (17, 5, .i e), (18, 6, .i (w64 (e - 1))), (19, 7, .b r6), (20, 8, .b (!r6)), (21, 9, .b (!r6)), (22, 10, .tup []), (23, 11, .tup []), (24, 12, .tup []), (25, 13, .tup []), (26, 14, .tup []), (27, 15, .tup []), (28, 16, .b true), (29, 17, .b (true)), (30, 18, .tup []), (31, 19, .tup []), (32, 20, .tup []), (33, 21, .tup []), (34, 22, .tup []), (35, 23, .tup []), (36, 24, .tup []), (37, 25, .tup []), (38, 26, .tup []), (39, 27, .tup []), (40, 28, .tup []), (41, 29, .b true), (42, 30, .b (true)), (43, 31, .tup []), (44, 32, .tup []), (45, 33, .tup []), (46, 34, .tup []), (47, 35, .tup []), (48, 36, .tup []), (49, 37, .b true)], ?_, ?_⟩
    · exact dk [0, 0, 102, 3, 4, 0, 6, 507, 8, 9, 10, 10, 101112, 1013, 1014, 1015, 1016, 17, 18, 18, 181920, 1821, 1822, 18, 18, 182425, 1826, 1827, 182328, 1829, 30, 31, 31, 313233, 3134, 3135, 3136, 3137] ⟨go (zm (Z62 j)),
 go (zm (.i c)),
 go (zix rfl rfl jU.of (bC aM h5)),
 go (zfc [.j x4.Player] rfl oY),
 go (zlc rfl aS),
 go (zm (.i e)),
 go (zar rfl rfl rfl),
 go fun S hS => fX (aI rfl) (.func _ _ call29) (ev2 (aT hS rfl) (ev2 rfl (ev2 (aT hS rfl) evn))) rfl (BVs.refl _ _) (fL _ _ _ h7) rfl,
 go (zn rfl),
 go (zm (.b (!r6))),
 gp l,
 gp l,
 gp l,
 gp l,
 gp l,
 gp l,
 go (zpt Z44 l),
 go (zm (.b (true))),
 gp a,
 gp a,
 gp a,
 gp a,
 gp a,
 gp a,
 gp a,
 gp a,
 gp a,
 gp a,
 gp a,
 go (zpt Z44 a),
 go (zm (.b (true))),
 gp f,
 gp f,
 gp f,
 gp f,
 gp f,
 gp f,
 go (zpt Z44 f), trivial⟩
    · exact bP (aL rfl (aP ⟨rfl, rfl, rfl, trivial⟩))
   ·obtain ⟨g, s, h9⟩ := bns h9;obtain rfl := sIn h9;refine bch p (fun a p => ?_) (fun a p => ?_)
    ·obtain rfl := sIn p;have f : true = true := rfl;have o := uK f o;obtain rfl := sIn o;refine ⟨[(12, 0, .d (Z22 j)), (13, 1, .i c), (14, 2, .cp [.j x4.Player, .j x4.From, .j x4.To]), (15, 3, .cp [.j x4.Player]), (16, 4, .i x4.Player), (17, 5, .i e), (18, 6, .i (w64 (e - 1))), (19, 7, .b r6), (20, 8, .b (!r6)), (21, 9, .b (!r6)), (22, 10, .d (Z22 j)), (23, 11, .i c), (24, 12, .cp [.j g.Player, .j g.From, .j g.To]), (25, 13, .cp [.j g.From]), (26, 14, .i g.From), (27, 15, .b (decide (g.From < 0))), (28, 16, .b (decide (g.From < 0))), (29, 17, .b (decide (g.From < 0))), (30, 18, .tup []), (31, 19, .tup []), (32, 20, .tup []), (33, 21, .tup []), (34, 22, .tup []), (35, 23, .tup []), (36, 24, .tup []), (37, 25, .tup []), (38, 26, .tup []), (39, 27, .tup []), (40, 28, .tup []), (41, 29, .b true), (42, 30, .b (true)), (43, 31, .tup []), (44, 32, .tup []), (45, 33, .tup []), (46, 34, .tup []), (47, 35, .tup []), (48, 36, .tup []), (49, 37, .b true)], ?_, ?_⟩
     · exact dk [0, 0, 102, 3, 4, 0, 6, 507, 8, 9, 10, 10, 101112, 1013, 1014, 1015, 1016, 17, 18, 18, 181920, 1821, 1822, 18, 18, 182425, 1826, 1827, 182328, 1829, 30, 31, 31, 313233, 3134, 3135, 3136, 3137] ⟨go (zm (Z62 j)),
 go (zm (.i c)),
 go (zix rfl rfl jU.of (bC aM h5)),
 go (zfc [.j x4.Player] rfl oY),
 go (zlc rfl aS),
 go (zm (.i e)),
 go (zar rfl rfl rfl),
 go fun S hS => fX (aI rfl) (.func _ _ call29) (ev2 (aT hS rfl) (ev2 rfl (ev2 (aT hS rfl) evn))) rfl (BVs.refl _ _) (fL _ _ _ h7) rfl,
 go (zn rfl),
 go (zm (.b (!r6))),
 gt l (zm (Z62 j)),
 gt l (zm (.i c)),
 gt l (zix rfl rfl jU.of (bC aM s)),
 gt l (zfc [.j g.From] rfl nA),
 gt l (zlc rfl aS),
 gt l (zcm rfl rfl rfl),
 go (zpf (.b (decide (g.From < 0))) l),
 go (zm (.b (decide (g.From < 0)))),
 gp a,
 gp a,
 gp a,
 gp a,
 gp a,
 gp a,
 gp a,
 gp a,
 gp a,
 gp a,
 gp a,
 go (zpt Z44 a),
 go (zm (.b (true))),
 gp f,
 gp f,
 gp f,
 gp f,
 gp f,
 gp f,
 go (zpt Z44 f), trivial⟩
     · exact bP (aL rfl (aP ⟨rfl, rfl, rfl, trivial⟩))
    ·obtain ⟨m, t, p⟩ := bns p;obtain ⟨n, u, p⟩ := bns p;obtain rfl := sIn p;refine bch o (fun f o => ?_) (fun f o => ?_)
     ·obtain rfl := sIn o;refine ⟨[(12, 0, .d (Z22 j)), (13, 1, .i c), (14, 2, .cp [.j x4.Player, .j x4.From, .j x4.To]), (15, 3, .cp [.j x4.Player]), (16, 4, .i x4.Player), (17, 5, .i e), (18, 6, .i (w64 (e - 1))), (19, 7, .b r6), (20, 8, .b (!r6)), (21, 9, .b (!r6)), (22, 10, .d (Z22 j)), (23, 11, .i c), (24, 12, .cp [.j g.Player, .j g.From, .j g.To]), (25, 13, .cp [.j g.From]), (26, 14, .i g.From), (27, 15, .b (decide (g.From < 0))), (28, 16, .b (decide (g.From < 0))), (29, 17, .b (decide (g.From < 0))), (30, 18, .d (Z22 j)), (31, 19, .i c), (32, 20, .cp [.j m.Player, .j m.From, .j m.To]), (33, 21, .cp [.j m.From]), (34, 22, .i m.From), (35, 23, .d (Z22 j)), (36, 24, .i c), (37, 25, .cp [.j n.Player, .j n.From, .j n.To]), (38, 26, .cp [.j n.To]), (39, 27, .i n.To), (40, 28, .b (decide (n.To < m.From))), (41, 29, .b (decide (n.To < m.From))), (42, 30, .b (decide (n.To < m.From))), (43, 31, .tup []), (44, 32, .tup []), (45, 33, .tup []), (46, 34, .tup []), (47, 35, .tup []), (48, 36, .tup []), (49, 37, .b true)], ?_, ?_⟩
      · exact dk [0, 0, 102, 3, 4, 0, 6, 507, 8, 9, 10, 10, 101112, 1013, 1014, 1015, 1016, 17, 18, 18, 181920, 1821, 1822, 18, 18, 182425, 1826, 1827, 182328, 1829, 30, 31, 31, 313233, 3134, 3135, 3136, 3137] ⟨go (zm (Z62 j)),
 go (zm (.i c)),
 go (zix rfl rfl jU.of (bC aM h5)),
 go (zfc [.j x4.Player] rfl oY),
 go (zlc rfl aS),
 go (zm (.i e)),
 go (zar rfl rfl rfl),
 go fun S hS => fX (aI rfl) (.func _ _ call29) (ev2 (aT hS rfl) (ev2 rfl (ev2 (aT hS rfl) evn))) rfl (BVs.refl _ _) (fL _ _ _ h7) rfl,
 go (zn rfl),
 go (zm (.b (!r6))),
 gt l (zm (Z62 j)),
 gt l (zm (.i c)),
 gt l (zix rfl rfl jU.of (bC aM s)),
 gt l (zfc [.j g.From] rfl nA),
 gt l (zlc rfl aS),
 gt l (zcm rfl rfl rfl),
 go (zpf (.b (decide (g.From < 0))) l),
 go (zm (.b (decide (g.From < 0)))),
 gt a (zm (Z62 j)),
 gt a (zm (.i c)),
 gt a (zix rfl rfl jU.of (bC aM t)),
 gt a (zfc [.j m.From] rfl nA),
 gt a (zlc rfl aS),
 gt a (zm (Z62 j)),
 gt a (zm (.i c)),
 gt a (zix rfl rfl jU.of (bC aM u)),
 gt a (zfc [.j n.To] rfl oZ),
 gt a (zlc rfl aS),
 gt a (zcm rfl rfl rfl),
 go (zpf (.b (decide (n.To < m.From))) a),
 go (zm (.b (decide (n.To < m.From)))),
 gp f,
 gp f,
 gp f,
 gp f,
 gp f,
 gp f,
 go (zpt Z44 f), trivial⟩
      · exact bP (aL rfl (aP ⟨rfl, rfl, rfl, trivial⟩))
     ·obtain ⟨q, w, o⟩ := bns o;obtain rfl := sIn o;refine ⟨[(12, 0, .d (Z22 j)), (13, 1, .i c), (14, 2, .cp [.j x4.Player, .j x4.From, .j x4.To]), (15, 3, .cp [.j x4.Player]), (16, 4, .i x4.Player), (17, 5, .i e), (18, 6, .i (w64 (e - 1))), (19, 7, .b r6), (20, 8, .b (!r6)), (21, 9, .b (!r6)), (22, 10, .d (Z22 j)), (23, 11, .i c), (24, 12, .cp [.j g.Player, .j g.From, .j g.To]), (25, 13, .cp [.j g.From]), (26, 14, .i g.From), (27, 15, .b (decide (g.From < 0))), (28, 16, .b (decide (g.From < 0))), (29, 17, .b (decide (g.From < 0))), (30, 18, .d (Z22 j)), (31, 19, .i c), (32, 20, .cp [.j m.Player, .j m.From, .j m.To]), (33, 21, .cp [.j m.From]), (34, 22, .i m.From), (35, 23, .d (Z22 j)), (36, 24, .i c), (37, 25, .cp [.j n.Player, .j n.From, .j n.To]), (38, 26, .cp [.j n.To]), (39, 27, .i n.To), (40, 28, .b (decide (n.To < m.From))), (41, 29, .b (decide (n.To < m.From))), (42, 30, .b (decide (n.To < m.From))), (43, 31, .d (Z22 j)), (44, 32, .i c), (45, 33, .cp [.j q.Player, .j q.From, .j q.To]), (46, 34, .cp [.j q.To]), (47, 35, .i q.To), (48, 36, .b (decide (400 < q.To))), (49, 37, .b (decide (400 < q.To)))], ?_, ?_⟩
      · exact dk [0, 0, 102, 3, 4, 0, 6, 507, 8, 9, 10, 10, 101112, 1013, 1014, 1015, 1016, 17, 18, 18, 181920, 1821, 1822, 18, 18, 182425, 1826, 1827, 182328, 1829, 30, 31, 31, 313233, 3134, 3135, 3136, 3137] ⟨go (zm (Z62 j)),
 go (zm (.i c)),
 go (zix rfl rfl jU.of (bC aM h5)),
 go (zfc [.j x4.Player] rfl oY),
 go (zlc rfl aS),
 go (zm (.i e)),
 go (zar rfl rfl rfl),
 go fun S hS => fX (aI rfl) (.func _ _ call29) (ev2 (aT hS rfl) (ev2 rfl (ev2 (aT hS rfl) evn))) rfl (BVs.refl _ _) (fL _ _ _ h7) rfl,
 go (zn rfl),
 go (zm (.b (!r6))),
 gt l (zm (Z62 j)),
 gt l (zm (.i c)),
 gt l (zix rfl rfl jU.of (bC aM s)),
 gt l (zfc [.j g.From] rfl nA),
 gt l (zlc rfl aS),
 gt l (zcm rfl rfl rfl),
 go (zpf (.b (decide (g.From < 0))) l),
 go (zm (.b (decide (g.From < 0)))),
 gt a (zm (Z62 j)),
 gt a (zm (.i c)),
 gt a (zix rfl rfl jU.of (bC aM t)),
 gt a (zfc [.j m.From] rfl nA),
 gt a (zlc rfl aS),
 gt a (zm (Z62 j)),
 gt a (zm (.i c)),
 gt a (zix rfl rfl jU.of (bC aM u)),
 gt a (zfc [.j n.To] rfl oZ),
 gt a (zlc rfl aS),
 gt a (zcm rfl rfl rfl),
 go (zpf (.b (decide (n.To < m.From))) a),
 go (zm (.b (decide (n.To < m.From)))),
 gt f (zm (Z62 j)),
 gt f (zm (.i c)),
 gt f (zix rfl rfl jU.of (bC aM w)),
 gt f (zfc [.j q.To] rfl oZ),
 gt f (zlc rfl aS),
 gt f (zcm rfl rfl rfl),
 go (zpf (.b (decide (400 < q.To))) f), trivial⟩
      · exact bP (aL rfl (aP ⟨rfl, rfl, rfl, trivial⟩))
  ·refine aC ?_;refine tih h (fun x h => ?_) (fun x h => ?_)
   ·refine aD (aB (ta Z12 (aC ?_)));obtain rfl := sIn h;exact rt
   ·refine cK ?_;refine aB (tm (.i c) (to (sar rfl rfl rfl) (ta (.i (w64 (c + 1))) (aC ?_))));exact ⟨(w64 (c + 1)), h, aR [] rfl rfl (aL rfl (aP ⟨rfl, rfl, trivial⟩))⟩
 ·refine cE ?_;refine .inl ⟨rfl, ?_⟩;simp only [pH] at h;refine aD (aB (tm (Z62 j) (to (sle rfl jU.of) (to (scm rfl rfl rfl) (ta (.b (decide ((j.length : Int) ≤ 8))) (aC ?_))))));obtain rfl := sIn h;exact rt

theorem aAq (c : Int) (f : aG) {r : Bool} (h : mU c f = some r) : Fn Tryz.prog 31 [.i c, .agg (aF f)] (.b r) := by
 unfold mU at h;refine oT [.tmp 4] func31 results31 ntmps31 ?_;refine aD (aB ?_);refine bA rfl (eN (v := .agg (aF f)) (aI rfl) rfl rfl rfl) ?_;rintro _ ⟨b1, rfl⟩;refine ta Z12 (aC (aD (aB (tfl 0 rfl rfl oB rfl aS ?_))));obtain ⟨r2, h3, h⟩ := bns h;refine to (scr call29 (fL _ _ _ h3)) (tm (.b r2) ?_);obtain ⟨b4, h5, h⟩ := bns h;refine aZ 6 [3] 14 b4 ?_ ?_
 ·refine bch h5 (fun a h5 => ?_) (fun a h5 => ?_)
  ·refine tkl 0 a rfl rfl uD rfl aS (tk a (sm (.i c)) (tk a (sar rfl rfl rfl) ?_));obtain ⟨g, j, h5⟩ := bns h5;refine tk a (scr call29 (fL _ _ _ j)) (to (spt (.b g) a) ?_);obtain rfl := sIn h5;refine aC (aQ rfl ⟨rfl, trivial⟩ rfl)
  ·refine tp a (tp a (tp a (tp a (tp a (to (spf Z12 a) ?_)))));obtain rfl := sIn h5;refine aC (aQ rfl ⟨rfl, trivial⟩ rfl)
 ·refine tm (.b b4) ?_;obtain ⟨b6, h7, h⟩ := bns h;refine aZ 4 [3] 19 b6 ?_ ?_
  ·refine bch h7 (fun d h7 => ?_) (fun d h7 => ?_)
   ·refine tkl 0 d rfl rfl rE rfl aS ?_;obtain ⟨k, m, h7⟩ := bns h7;refine tk d (scr call29 (fL _ _ _ m)) (to (spt (.b k) d) ?_);obtain rfl := sIn h7;refine aC (aQ rfl ⟨rfl, trivial⟩ rfl)
   ·refine tp d (tp d (tp d (to (spf Z12 d) ?_)));obtain rfl := sIn h7;refine aC (aQ rfl ⟨rfl, trivial⟩ rfl)
  ·refine tm (.b b6) ?_;obtain ⟨b8, h9, h⟩ := bns h;refine aZ 4 [] 24 b8 ?_ ?_
   ·refine bch h9 (fun e h9 => ?_) (fun e h9 => ?_)
    ·refine tkl 0 e rfl rfl vR rfl aS ?_;obtain ⟨n, o, h9⟩ := bns h9;refine tk e (scr call29 (fL _ _ _ o)) (to (spt (.b n) e) ?_);obtain rfl := sIn h9;refine aC (aQ rfl trivial rfl)
    ·refine tp e (tp e (tp e (to (spf Z12 e) ?_)));obtain rfl := sIn h9;refine aC (aQ rfl trivial rfl)
   ·refine ta (.b b8) (aC ?_);obtain rfl := sIn h;refine bL (bG (bI (l := [4]) ⟨rfl, trivial⟩)) ?_;exact rt

theorem aAp (a : aU) {r : Bool} (h : mT a = some r) : Fn Tryz.prog 13 [.agg (aY a)] (.b r) := by
 unfold mT at h;refine oT [.tmp 2] func13 results13 ntmps13 ?_;refine aD (aB ?_);refine bA rfl (eN (v := .agg (aY a)) (aI rfl) rfl rfl rfl) ?_;rintro _ ⟨b1, rfl⟩;refine ta Z12 (aC (aD (aD (aB (tfl 0 rfl rfl lY rfl aS ?_)))));obtain ⟨r2, h3, h⟩ := bns h;refine to (scr call29 (fL _ _ _ h3)) (to (sn rfl) (tm (.b (!r2)) ?_));obtain ⟨b4, h5, h⟩ := bns h;refine aZ 5 [1] 17 b4 ?_ ?_
 ·refine bch h5 (fun s h5 => ?_) (fun s h5 => ?_)
  ·refine tp s (tp s (tp s (tp s (to (spt Z44 s) ?_))));obtain rfl := sIn h5;refine aC (aQ rfl ⟨rfl, trivial⟩ rfl)
  ·refine tkl 0 s rfl rfl aFw rfl aS ?_;obtain ⟨H, I, h5⟩ := bns h5;refine tk s (scr call29 (fL _ _ _ I)) (tk s (sn rfl) (to (spf (.b (!H)) s) ?_));obtain rfl := sIn h5;refine aC (aQ rfl ⟨rfl, trivial⟩ rfl)
 ·refine tm (.b b4) ?_;obtain ⟨b6, h7, h⟩ := bns h;refine aZ 5 [1] 23 b6 ?_ ?_
  ·refine bch h7 (fun t h7 => ?_) (fun t h7 => ?_)
   ·refine tp t (tp t (tp t (tp t (to (spt Z44 t) ?_))));obtain rfl := sIn h7;refine aC (aQ rfl ⟨rfl, trivial⟩ rfl)
   ·refine tkl 0 t rfl rfl lZ rfl qQ (tk t (sle rfl cL.of) (tk t (scm rfl rfl rfl) (to (spf (.b (decide (40 < (a.Reports.length : Int)))) t) ?_)));obtain rfl := sIn h7;refine aC (aQ rfl ⟨rfl, trivial⟩ rfl)
  ·refine tm (.b b6) ?_;obtain ⟨b8, h9, h⟩ := bns h;refine aZ 7 [1] 31 b8 ?_ ?_
   ·refine bch h9 (fun f h9 => ?_) (fun f h9 => ?_)
    ·refine tp f (tp f (tp f (tp f (tp f (tp f (to (spt Z44 f) ?_))))));obtain rfl := sIn h9;refine aC (aQ rfl ⟨rfl, trivial⟩ rfl)
    ·refine tkl 0 f rfl rfl lY rfl aS (tkl 0 f rfl rfl yQ rfl pQ ?_);obtain ⟨J, K, h9⟩ := bns h9;refine tk f (scr call30 (tH _ _ K)) (tk f (sn rfl) (to (spf (.b (!J)) f) ?_));obtain rfl := sIn h9;refine aC (aQ rfl ⟨rfl, trivial⟩ rfl)
   ·refine tm (.b b8) ?_;obtain ⟨L, z, h⟩ := bns h;refine aZ 7 [1] 39 L ?_ ?_
    ·refine bch z (fun g z => ?_) (fun g z => ?_)
     ·refine tp g (tp g (tp g (tp g (tp g (tp g (to (spt Z44 g) ?_))))));obtain rfl := sIn z;refine aC (aQ rfl ⟨rfl, trivial⟩ rfl)
     ·refine tkl 0 g rfl rfl lY rfl aS (tkl 0 g rfl rfl rD rfl pQ ?_);obtain ⟨M, N, z⟩ := bns z;refine tk g (scr call30 (tH _ _ N)) (tk g (sn rfl) (to (spf (.b (!M)) g) ?_));obtain rfl := sIn z;refine aC (aQ rfl ⟨rfl, trivial⟩ rfl)
    ·refine aC ?_;refine tih h (fun O h => ?_) (fun O h => ?_)
     ·refine aD (aB (ta Z12 (aC ?_)));obtain rfl := sIn h;refine bL (bG (bI (l := [2]) ⟨rfl, trivial⟩)) ?_;exact rt
     ·refine aV (aD (aD (aB (ta (.i 0) (aC (bF ?_))))));refine bY (S := Int) [1] (fun C => [(3, .i C)]) (fun C => [.box b1 0 (aY a)]) (fun k C => gC a k C) (fun _ => rfl) (0) h (aR [0] rfl rfl (aL rfl (aP ⟨rfl, trivial⟩))) ?_;rintro a3 j h;simp only [gC] at h;refine aD (aD (aB (tm (.i j) (tfl 0 rfl rfl lZ rfl qQ (to (sle rfl cL.of) (to (scm rfl rfl rfl) (aC ?_)))))));refine tih h (fun P h => ?_) (fun P h => ?_)
      ·refine aV (aD (bF (aD ?_)));obtain ⟨y, Q, h⟩ := bns h;refine cG mix 7 [1, 3] [(48, .i a.Players), (53, .agg (aF y))] ?_ ?_
       ·refine ⟨[(47, 0, .bp b1 0 0), (48, 1, .i a.Players), (49, 2, .bp b1 0 2), (50, 3, .d (.sl 5 (a.Reports.map aF))), (51, 4, .i j), (52, 5, .cp [.j y.Id, .j y.Player, .j y.Week, .j y.Points, .k y.Must]), (53, 6, .agg (aF y))], ?_, ?_⟩
        · exact dk [0, 1, 0, 3, 0, 405, 6] ⟨go (zf rfl lY),
 go (zl 0 rfl rfl rfl aS),
 go (zf rfl lZ),
 go (zl 0 rfl rfl rfl qQ),
 go (zm (.i j)),
 go (zix rfl rfl cL.of (bC aF Q)),
 go (aMt (aF y) rfl fF), trivial⟩
        · exact bP (aL rfl (aL rfl (aP ⟨rfl, rfl, trivial⟩)))
       ·obtain ⟨a4, T, h⟩ := bns h;refine to (scr call31 (aAq _ _ T)) (to (sn rfl) (aC ?_));refine tih h (fun U h => ?_) (fun U h => ?_)
        ·refine aD (aB (ta Z12 (aC ?_)));obtain rfl := sIn h;refine bL (bG (bI (l := [2]) ⟨rfl, trivial⟩)) ?_;exact rt
        ·refine cK ?_;refine aB (tm (.i j) (to (sar rfl rfl rfl) (ta (.i (w64 (j + 1))) (aC ?_))));exact ⟨(w64 (j + 1)), h, aR [0] rfl rfl (aL rfl (aP ⟨rfl, trivial⟩))⟩
      ·refine cE ?_;refine .inl ⟨rfl, ?_⟩;simp only [qC] at h;refine aD (aD (aB (ta (.i 0) (aC (bF ?_)))));refine bY (S := Int) [1] (fun E => [(4, .i E)]) (fun E => [.box b1 0 (aY a)]) (fun k E => eC a k E) (fun _ => rfl) (0) h (aR [0] rfl rfl (aL rfl (aP ⟨rfl, trivial⟩))) ?_;rintro V e h;simp only [eC] at h;refine aD (aD (aB (tm (.i e) (tfl 0 rfl rfl rD rfl pQ (to (sle rfl jU.of) (to (scm rfl rfl rfl) (aC ?_)))))));refine tih h (fun W h => ?_) (fun W h => ?_)
       ·refine aV (aD (bF (aD (aB (ta (.i 0) (aC ?_))))));refine aBh ?_;refine bY (S := Int) [1, 4] (fun F => [(5, .i F)]) (fun F => [.box b1 0 (aY a)]) (fun k F => iG (eC a V) e a k F) (fun _ => rfl) (0) h (aR [0] rfl rfl (aL rfl (aP ⟨rfl, rfl, trivial⟩))) ?_;rintro a5 m h;simp only [iG] at h;refine aD (aD (aB (tm (.i m) (tm (.i e) (to (scm rfl rfl rfl) (aC ?_))))));refine tih h (fun Y h => ?_) (fun Y h => ?_)
        ·refine aV (aD (bF (aD ?_)));obtain ⟨n, Z, h⟩ := bns h;obtain ⟨u, a0, h⟩ := bns h;refine jP mix 13 [1, 4, 5] (fun c => [(6, .bp (c 10).b 0 0), (7, .bp (c 11).b 0 0), (77, .agg (aM u))]) (fun c => [.box b1 0 (aY a), .box (c 10).b 0 (aM n), .box (c 11).b 0 Z68]) ?_ ?_
         ·refine ⟨2, fun c => [(68, 0, .bp b1 0 4), (69, 1, .d (.sl 3 (Z61 a))), (70, 2, .i e), (71, 3, .cp [.j n.Player, .j n.From, .j n.To]), (72, 4, .agg (aM n)), (73, 5, .bp b1 0 4), (74, 6, .d (.sl 3 (Z61 a))), (75, 7, .i m), (76, 8, .cp [.j u.Player, .j u.From, .j u.To]), (77, 9, .agg (aM u)), (6, 10, .bp (c 10).b 0 0), (7, 11, .bp (c 11).b 0 0)], fun c => [([], .box b1 0 (aY a)), ([(12, .box (c 10).b 0 (aM n)), (10, .box (c 10).b 0 Z68)], nob), ([(11, .box (c 11).b 0 Z68)], nob)], ?_, ?_⟩
          · exact xok [(0, 13), (1, 13), (0, 13), (203, 13), (4, 13), (0, 0), (6, 0), (0, 0), (708, 0), (9, 0), (0, 13), (0, 13), (51112, 0)] ⟨fun _ _ w _ k => xp w (yf k rfl rD),
 fun _ _ w _ k => xp w (yl k 0 rfl (og k rfl rfl) rfl pQ),
 fun _ _ w _ k => xp w (ym k (.i e)),
 fun _ _ w _ k => xp w (yix k rfl rfl jU.of (bC aM Z)),
 fun _ _ w _ k => xp w (aWh k (aM n) rfl aCz),
 fun _ _ w _ k => xp w (yf k rfl rD),
 fun _ _ w _ k => xp w (yl k 0 rfl (og k rfl rfl) rfl pQ),
 fun _ _ w _ k => xp w (ym k (.i m)),
 fun _ _ w _ k => xp w (yix k rfl rfl jU.of (bC aM a0)),
 fun _ _ w _ k => xp w (aWh k (aM u) rfl aCz),
 fun c S hw hi hS => qV (X := c) (p := 1) (v := fun x => .bp x.b 0 0) (mo := fun x => .box x.b 0 Z68) hS hi rfl rfl (fun _ => rfl) hw (fun _ => rfl) (fun _ => rfl) (fun _ => rfl) (fun _ => ⟨rfl, rfl, .inr rfl, ⟨rfl, rfl, .inr rfl, ⟨rfl, rfl, .inr rfl, ⟨rfl, rfl, .inr rfl, ⟨rfl, rfl, .inr rfl, ⟨rfl, rfl, .inr rfl, ⟨rfl, rfl, .inr rfl, ⟨rfl, rfl, .inr rfl, ⟨rfl, rfl, .inr rfl, ⟨rfl, rfl, .inr rfl, ⟨rfl, rfl, .inl rfl, ⟨rfl, rfl, .inr rfl, trivial⟩⟩⟩⟩⟩⟩⟩⟩⟩⟩⟩⟩) (fun _ => ⟨trivial, rfl, ⟨⟨rfl, .inl rfl, ⟨rfl, .inl rfl, trivial⟩⟩, rfl, ⟨⟨rfl, .inr rfl, trivial⟩, rfl, trivial⟩⟩⟩) (lQ (eA (zs := [.j 0, .j 0, .j 0]) (aI rfl) zeroValue79 rfl rfl) (by rintro _ ⟨w, rfl⟩; exact ⟨⟨w, undef⟩, aR [0, 3, 2] rfl rfl (le_refl _)⟩)),
 fun c S hw hi hS => qV (X := c) (p := 2) (v := fun x => .bp x.b 0 0) (mo := fun x => .box x.b 0 Z68) hS hi rfl rfl (fun _ => rfl) hw (fun _ => rfl) (fun _ => rfl) (fun _ => rfl) (fun _ => ⟨rfl, rfl, .inr rfl, ⟨rfl, rfl, .inr rfl, ⟨rfl, rfl, .inr rfl, ⟨rfl, rfl, .inr rfl, ⟨rfl, rfl, .inr rfl, ⟨rfl, rfl, .inr rfl, ⟨rfl, rfl, .inr rfl, ⟨rfl, rfl, .inr rfl, ⟨rfl, rfl, .inr rfl, ⟨rfl, rfl, .inr rfl, ⟨rfl, rfl, .inr rfl, ⟨rfl, rfl, .inl rfl, trivial⟩⟩⟩⟩⟩⟩⟩⟩⟩⟩⟩⟩) (fun _ => ⟨trivial, rfl, ⟨⟨rfl, .inr rfl, ⟨rfl, .inr rfl, trivial⟩⟩, rfl, ⟨⟨rfl, .inl rfl, trivial⟩, rfl, trivial⟩⟩⟩) (lQ (eA (zs := [.j 0, .j 0, .j 0]) (aI rfl) zeroValue79 rfl rfl) (by rintro _ ⟨w, rfl⟩; exact ⟨⟨w, undef⟩, aR [0, 1, 3] rfl rfl (le_refl _)⟩)),
 fun _ _ _ _ k => xs 1 k rfl rfl (mE (i := 1) (aT k rfl) (og k rfl rfl) (aT k rfl) rfl rfl sizeOf79 rfl (aI rfl) (Nat.le_of_ble_eq_true rfl) (ds' := (aM n)) rfl), trivial⟩
          · exact fun c => bP (aL rfl (aL rfl (aL rfl (aP ⟨rfl, rfl, rfl, trivial⟩))))
         ·intro c;refine to (sst 2 rfl rfl sizeOf79 (aM u)) (aC (aD (aB (tfl 1 rfl rfl oY rfl aS (tfl 2 rfl rfl oY rfl aS (to (scm rfl rfl rfl) (tm (.b (decide (n.Player = u.Player))) ?_)))))));obtain ⟨G, A, h⟩ := bns h;refine aZ 6 [1, 4, 5, 6, 7] 89 G ?_ ?_
          ·refine bch A (fun o A => ?_) (fun o A => ?_)
           ·refine tkl 1 o rfl rfl nA rfl aS (tkl 2 o rfl rfl oZ rfl aS (tk o (scm rfl rfl rfl) (to (spt (.b (decide (n.From ≤ u.To))) o) ?_)));obtain rfl := sIn A;refine aC (aQ rfl ⟨rfl, rfl, rfl, rfl, rfl, trivial⟩ rfl)
           ·refine tp o (tp o (tp o (tp o (tp o (to (spf Z12 o) ?_)))));obtain rfl := sIn A;refine aC (aQ rfl ⟨rfl, rfl, rfl, rfl, rfl, trivial⟩ rfl)
          ·refine tm (.b G) ?_;obtain ⟨a1, B, h⟩ := bns h;refine aZ 6 [1, 4, 5] 96 a1 ?_ ?_
           ·refine bch B (fun q B => ?_) (fun q B => ?_)
            ·refine tkl 2 q rfl rfl nA rfl aS (tkl 1 q rfl rfl oZ rfl aS (tk q (scm rfl rfl rfl) (to (spt (.b (decide (u.From ≤ n.To))) q) ?_)));obtain rfl := sIn B;refine aC (aQ rfl ⟨rfl, rfl, rfl, trivial⟩ rfl)
            ·refine tp q (tp q (tp q (tp q (tp q (to (spf Z12 q) ?_)))));obtain rfl := sIn B;refine aC (aQ rfl ⟨rfl, rfl, rfl, trivial⟩ rfl)
           ·refine aC ?_;refine tih h (fun a2 h => ?_) (fun a2 h => ?_)
            ·refine aD (aB (ta Z12 (aC ?_)));obtain rfl := sIn h;refine bL (bG (bI (l := [2]) ⟨rfl, trivial⟩)) ?_;exact rt
            ·refine cK ?_;refine aB (tm (.i m) (to (sar rfl rfl rfl) (ta (.i (w64 (m + 1))) (aC ?_))));exact ⟨(w64 (m + 1)), h, aR [0] rfl rfl (aL rfl (aP ⟨rfl, rfl, trivial⟩))⟩
        ·refine cE ?_;refine .inl ⟨rfl, ?_⟩;simp only [qF] at h;simp only [qE] at h;refine aB (tm (.i e) (to (sar rfl rfl rfl) (ta (.i (w64 (e + 1))) (aC ?_))));exact ⟨(w64 (e + 1)), h, aR [0] rfl rfl (aL rfl (aP ⟨rfl, trivial⟩))⟩
       ·refine cE ?_;refine .inl ⟨rfl, ?_⟩;simp only [qD] at h;refine aD (aB (ta Z44 (aC ?_)));obtain rfl := sIn h;refine bL (bG (bI (l := [2]) ⟨rfl, trivial⟩)) ?_;exact rt

theorem aDe (f : List aG) {r : Bool} (h : oV f = some r) : Fn Tryz.prog 14 [.d (Z33 f)] (.b r) := by
 unfold oV at h;refine oT [.tmp 2] func14 results14 ntmps14 ?_;refine aD (aB (ta Z12 (aC (aD (aD (aB (ta (.i 0) (aC (bF ?_)))))))));refine bY (S := Int) [0] (fun s1 => [(3, .i s1)]) (fun s1 => []) (fun k s1 => fK f k s1) (fun _ => rfl) (0) h (aR [] rfl rfl (aL rfl (aP ⟨rfl, trivial⟩))) ?_;rintro k2 e h;simp only [fK] at h;refine aD (aD (aB (tm (.i e) (tm (.d (Z33 f)) (to (sle rfl cL.of) (to (scm rfl rfl rfl) (aC ?_)))))));refine tih h (fun c3 h => ?_) (fun c3 h => ?_)
 ·refine aV (aD (bF (aD (aB (ta (.i 0) (aC ?_))))));refine aBh ?_;refine bY (S := Int) [0, 3] (fun s4 => [(4, .i s4)]) (fun s4 => []) (fun k s4 => jR (fK f k2) f e k s4) (fun _ => rfl) (0) h (aR [] rfl rfl (aL rfl (aP ⟨rfl, rfl, trivial⟩))) ?_;rintro k5 g h;simp only [jR] at h;refine aD (aD (aB (tm (.i g) (tm (.i e) (to (scm rfl rfl rfl) (aC ?_))))));refine tih h (fun c6 h => ?_) (fun c6 h => ?_)
  ·refine aV (aD (bF (aD ?_)));obtain ⟨x7, h8, h⟩ := bns h;obtain ⟨x9, n, h⟩ := bns h;obtain ⟨o, m, h⟩ := bns h;refine cG mix 22 [0, 3, 4] [(37, .b o)] ?_ ?_
   ·refine bch m (fun c m => ?_) (fun c m => ?_)
    ·obtain ⟨j, p, m⟩ := bns m;obtain ⟨l, q, m⟩ := bns m;obtain rfl := sIn m;refine ⟨[(16, 0, .d (Z33 f)), (17, 1, .i e), (18, 2, .cp [.j x7.Id, .j x7.Player, .j x7.Week, .j x7.Points, .k x7.Must]), (19, 3, .cp [.j x7.Id]), (20, 4, .i x7.Id), (21, 5, .d (Z33 f)), (22, 6, .i g), (23, 7, .cp [.j x9.Id, .j x9.Player, .j x9.Week, .j x9.Points, .k x9.Must]), (24, 8, .cp [.j x9.Id]), (25, 9, .i x9.Id), (26, 10, .b (decide (x7.Id = x9.Id))), (27, 11, .b (decide (x7.Id = x9.Id))), (28, 12, .d (Z33 f)), (29, 13, .i e), (30, 14, .cp [.j j.Id, .j j.Player, .j j.Week, .j j.Points, .k j.Must]), (31, 15, .agg (aF j)), (32, 16, .d (Z33 f)), (33, 17, .i g), (34, 18, .cp [.j l.Id, .j l.Player, .j l.Week, .j l.Points, .k l.Must]), (35, 19, .agg (aF l)), (36, 20, .b (!decide (j = l))), (37, 21, .b (!decide (j = l)))], ?_, ?_⟩
     · exact dk [0, 0, 102, 3, 4, 0, 0, 607, 8, 9, 510, 11, 12, 12, 121314, 1215, 12, 12, 121718, 1219, 121620, 1221] ⟨go (zm (.d (Z33 f))),
 go (zm (.i e)),
 go (zix rfl rfl cL.of (bC aF h8)),
 go (zfc [.j x7.Id] rfl oB),
 go (zlc rfl aS),
 go (zm (.d (Z33 f))),
 go (zm (.i g)),
 go (zix rfl rfl cL.of (bC aF n)),
 go (zfc [.j x9.Id] rfl oB),
 go (zlc rfl aS),
 go (zcm rfl rfl rfl),
 go (zm (.b (decide (x7.Id = x9.Id)))),
 gt c (zm (.d (Z33 f))),
 gt c (zm (.i e)),
 gt c (zix rfl rfl cL.of (bC aF p)),
 gt c (aMt (aF j) rfl fF),
 gt c (zm (.d (Z33 f))),
 gt c (zm (.i g)),
 gt c (zix rfl rfl cL.of (bC aF q)),
 gt c (aMt (aF l) rfl fF),
 gt c fun S hS => aHx (a := j) (b := l) (aI rfl) (aT hS rfl) (aT hS rfl) rfl rfl Tryz.eqGuardType51 aKx,
 go (zpt (.b (!decide (j = l))) c), trivial⟩
     · exact bP (aL rfl (aP ⟨rfl, rfl, rfl, trivial⟩))
    ·obtain rfl := sIn m;refine ⟨[(16, 0, .d (Z33 f)), (17, 1, .i e), (18, 2, .cp [.j x7.Id, .j x7.Player, .j x7.Week, .j x7.Points, .k x7.Must]), (19, 3, .cp [.j x7.Id]), (20, 4, .i x7.Id), (21, 5, .d (Z33 f)), (22, 6, .i g), (23, 7, .cp [.j x9.Id, .j x9.Player, .j x9.Week, .j x9.Points, .k x9.Must]), (24, 8, .cp [.j x9.Id]), (25, 9, .i x9.Id), (26, 10, .b (decide (x7.Id = x9.Id))), (27, 11, .b (decide (x7.Id = x9.Id))), (28, 12, .tup []), (29, 13, .tup []), (30, 14, .tup []), (31, 15, .tup []), (32, 16, .tup []), (33, 17, .tup []), (34, 18, .tup []), (35, 19, .tup []), (36, 20, .tup []), (37, 21, .b false)], ?_, ?_⟩
     · exact dk [0, 0, 102, 3, 4, 0, 0, 607, 8, 9, 510, 11, 12, 12, 121314, 1215, 12, 12, 121718, 1219, 121620, 1221] ⟨go (zm (.d (Z33 f))),
 go (zm (.i e)),
 go (zix rfl rfl cL.of (bC aF h8)),
 go (zfc [.j x7.Id] rfl oB),
 go (zlc rfl aS),
 go (zm (.d (Z33 f))),
 go (zm (.i g)),
 go (zix rfl rfl cL.of (bC aF n)),
 go (zfc [.j x9.Id] rfl oB),
 go (zlc rfl aS),
 go (zcm rfl rfl rfl),
 go (zm (.b (decide (x7.Id = x9.Id)))),
 gp c,
 gp c,
 gp c,
 gp c,
 gp c,
 gp c,
 gp c,
 gp c,
 gp c,
 go (zpf Z12 c), trivial⟩
     · exact bP (aL rfl (aP ⟨rfl, rfl, rfl, trivial⟩))
   ·refine aC ?_;refine tih h (fun s h => ?_) (fun s h => ?_)
    ·refine aD (aB (ta Z44 (aC ?_)));obtain rfl := sIn h;exact rt
    ·refine cK ?_;refine aB (tm (.i g) (to (sar rfl rfl rfl) (ta (.i (w64 (g + 1))) (aC ?_))));exact ⟨(w64 (g + 1)), h, aR [] rfl rfl (aL rfl (aP ⟨rfl, rfl, trivial⟩))⟩
  ·refine cE ?_;refine .inl ⟨rfl, ?_⟩;simp only [rW] at h;simp only [rV] at h;refine aB (tm (.i e) (to (sar rfl rfl rfl) (ta (.i (w64 (e + 1))) (aC ?_))));exact ⟨(w64 (e + 1)), h, aR [] rfl rfl (aL rfl (aP ⟨rfl, trivial⟩))⟩
 ·refine cE ?_;refine .inl ⟨rfl, ?_⟩;simp only [rU] at h;refine aD (aB (ta Z12 (aC ?_)));obtain rfl := sIn h;exact rt

theorem wS (a : aU) {r : Int} (h : mZ a = some r) : Fn Tryz.prog 5 [.agg (aY a)] (.i r) := by
 unfold mZ at h;refine oT [.tmp 2] func5 results5 ntmps5 ?_;refine aD (aB ?_);refine bA rfl (eN (v := .agg (aY a)) (aI rfl) rfl rfl rfl) ?_;rintro _ ⟨b1, rfl⟩;refine ta (.i 0) (aC (aD (aD (aB (to (sla 0 (aY a) rfl rfl oF) ?_)))));obtain ⟨r2, h3, h⟩ := bns h;refine to (scr call13 (aAp _ h3)) (to (sn rfl) (aC ?_));refine tih h (fun c4 h => ?_) (fun c4 h => ?_)
 ·refine aD (aB (ta (.i 40) (aC ?_)));obtain rfl := sIn h;refine bL (bG (bI (l := [2]) ⟨rfl, trivial⟩)) ?_;exact rt
 ·refine aV (aD (aD (aB (tfl 0 rfl rfl lZ rfl qQ ?_))));obtain ⟨r5, h6, h⟩ := bns h;refine to (scr call14 (aDe _ h6)) (aC ?_);refine tih h (fun c7 h => ?_) (fun c7 h => ?_)
  ·refine aD (aB (ta (.i 41) (aC ?_)));obtain rfl := sIn h;refine bL (bG (bI (l := [2]) ⟨rfl, trivial⟩)) ?_;exact rt
  ·refine aV (aD (aB (ta (.i 0) (aC ?_))));obtain rfl := sIn h;refine bL (bG (bI (l := [2]) ⟨rfl, trivial⟩)) ?_;exact rt

theorem aFq (a : aU) {r : Bool} (h : kJ a = some r) : Fn Tryz.prog 4 [.agg (aY a)] (.b r) := by
 unfold kJ at h;refine oT [.tmp 2] func4 results4 ntmps4 ?_;refine aD (aB ?_);refine bA rfl (eN (v := .agg (aY a)) (aI rfl) rfl rfl rfl) ?_;rintro _ ⟨b1, rfl⟩;refine ta Z12 (aC (aD (aD (aB (tfl 0 rfl rfl lZ rfl qQ (to (sle rfl cL.of) (to (scm rfl rfl rfl) (tm (.b (decide (60 < (a.Reports.length : Int)))) ?_))))))));obtain ⟨b2, h3, h⟩ := bns h;refine aZ 5 [1] 13 b2 ?_ ?_
 ·refine bch h3 (fun d h3 => ?_) (fun d h3 => ?_)
  ·refine tp d (tp d (tp d (tp d (to (spt Z44 d) ?_))));obtain rfl := sIn h3;refine aC (aQ rfl ⟨rfl, trivial⟩ rfl)
  ·refine tkl 0 d rfl rfl yQ rfl pQ (tk d (sle rfl jU.of) (tk d (scm rfl rfl rfl) (to (spf (.b (decide (20 < (a.Bans.length : Int)))) d) ?_)));obtain rfl := sIn h3;refine aC (aQ rfl ⟨rfl, trivial⟩ rfl)
 ·refine tm (.b b2) ?_;obtain ⟨b4, h5, h⟩ := bns h;refine aZ 5 [1] 19 b4 ?_ ?_
  ·refine bch h5 (fun e h5 => ?_) (fun e h5 => ?_)
   ·refine tp e (tp e (tp e (tp e (to (spt Z44 e) ?_))));obtain rfl := sIn h5;refine aC (aQ rfl ⟨rfl, trivial⟩ rfl)
   ·refine tkl 0 e rfl rfl rD rfl pQ (tk e (sle rfl jU.of) (tk e (scm rfl rfl rfl) (to (spf (.b (decide (20 < (a.Frozen.length : Int)))) e) ?_)));obtain rfl := sIn h5;refine aC (aQ rfl ⟨rfl, trivial⟩ rfl)
  ·refine aC ?_;refine tih h (fun c6 h => ?_) (fun c6 h => ?_)
   ·refine aD (aB (ta Z44 (aC ?_)));obtain rfl := sIn h;refine bL (bG (bI (l := [2]) ⟨rfl, trivial⟩)) ?_;exact rt
   ·refine aV (aD (aD (aB (to (sla 0 (aY a) rfl rfl oF) ?_))));obtain ⟨r7, h8, h⟩ := bns h;refine to (scr call5 (wS _ h8)) (to (scm rfl rfl rfl) (aC ?_));refine tih h (fun c9 h => ?_) (fun c9 h => ?_)
    ·refine aD (aB (ta Z12 (aC ?_)));obtain rfl := sIn h;refine bL (bG (bI (l := [2]) ⟨rfl, trivial⟩)) ?_;exact rt
    ·refine aV (aD (aD (aB (ta (.i 0) (aC (bF ?_))))));refine bY (S := Int) [1] (fun j => [(3, .i j)]) (fun j => [.box b1 0 (aY a)]) (fun k j => gQ a k j) (fun _ => rfl) (0) h (aR [0] rfl rfl (aL rfl (aP ⟨rfl, trivial⟩))) ?_;rintro s c h;simp only [gQ] at h;refine aD (aD (aB (tm (.i c) (tfl 0 rfl rfl lZ rfl qQ (to (sle rfl cL.of) (to (scm rfl rfl rfl) (aC ?_)))))));refine tih h (fun n h => ?_) (fun n h => ?_)
     ·refine aV (aD (bF (aD (aB (tfl 0 rfl rfl lZ rfl qQ (tm (.i c) ?_))))));obtain ⟨o, p, h⟩ := bns h;refine to (six rfl rfl cL.of (bC aF p)) (to (sfc [.j o.Week] rfl rE) (to (slc rfl aS) (to (scm rfl rfl rfl) (aC ?_))));refine tih h (fun q h => ?_) (fun q h => ?_)
      ·refine aD (aB (ta Z44 (aC ?_)));obtain rfl := sIn h;refine bL (bG (bI (l := [2]) ⟨rfl, trivial⟩)) ?_;exact rt
      ·refine cK ?_;refine aB (tm (.i c) (to (sar rfl rfl rfl) (ta (.i (w64 (c + 1))) (aC ?_))));exact ⟨(w64 (c + 1)), h, aR [0] rfl rfl (aL rfl (aP ⟨rfl, trivial⟩))⟩
     ·refine cE ?_;refine .inl ⟨rfl, ?_⟩;simp only [mH] at h;refine aD (aB (tfl 0 rfl rfl lY rfl aS (to (scm rfl rfl rfl) (tm (.b (decide (5 < a.Players))) ?_))));obtain ⟨m, g, h⟩ := bns h;refine aZ 5 [] 45 m ?_ ?_
      ·refine bch g (fun f g => ?_) (fun f g => ?_)
       ·refine tp f (tp f (tp f (tp f (to (spt Z44 f) ?_))));obtain rfl := sIn g;refine aC (aQ rfl trivial rfl)
       ·refine tkl 0 f rfl rfl lZ rfl qQ (tk f (sle rfl cL.of) (tk f (scm rfl rfl rfl) (to (spf (.b (decide (10 < (a.Reports.length : Int)))) f) ?_)));obtain rfl := sIn g;refine aC (aQ rfl trivial rfl)
      ·refine ta (.b m) (aC ?_);obtain rfl := sIn h;refine bL (bG (bI (l := [2]) ⟨rfl, trivial⟩)) ?_;exact rt

theorem fM (d : Int) (c : Int) (a : Int) {r : Bool} (h : cW d c a = some r) : Fn Tryz.prog 15 [.i d, .i c, .i a] (.b r) := by
 unfold cW at h;refine oT [.tmp 6] func15 results15 ntmps15 ?_;refine aD (aB (ta Z12 (aC (aD (aB (tm (.i d) (tm (.i c) (to (scm rfl rfl rfl) (tm (Z69 c d) ?_)))))))));obtain ⟨b1, h2, h⟩ := bns h;refine aZ 4 [] 14 b1 ?_ ?_
 ·refine bch h2 (fun c3 h2 => ?_) (fun c3 h2 => ?_)
  ·refine tk c3 (sm (.i d)) (tk c3 (sm (.i a)) (tk c3 (scm rfl rfl rfl) (to (spt (Z69 d a) c3) ?_)));obtain rfl := sIn h2;refine aC (aQ rfl trivial rfl)
  ·refine tp c3 (tp c3 (tp c3 (to (spf Z12 c3) ?_)));obtain rfl := sIn h2;refine aC (aQ rfl trivial rfl)
 ·refine ta (.b b1) (aC ?_);obtain rfl := sIn h;exact rt

theorem aAr (a : aN) {r : Bool} (h : mV a = some r) : Fn Tryz.prog 16 [.agg (aK a)] (.b r) := by
 unfold mV at h;refine oT [.tmp 2] func16 results16 ntmps16 ?_;refine aD (aB ?_);refine bA rfl (eN (v := .agg (aK a)) (aI rfl) rfl rfl rfl) ?_;rintro _ ⟨b1, rfl⟩;refine ta Z12 (aC (aD (aD (aB (tfl 0 rfl rfl mA rfl aS ?_)))));obtain ⟨r2, h3, h⟩ := bns h;refine to (scr call15 (fM _ _ _ h3)) (to (sn rfl) (tm (.b (!r2)) ?_));obtain ⟨b4, h5, h⟩ := bns h;refine aZ 5 [1] 12 b4 ?_ ?_
 ·refine bch h5 (fun c h5 => ?_) (fun c h5 => ?_)
  ·refine tp c (tp c (tp c (tp c (to (spt Z44 c) ?_))));obtain rfl := sIn h5;refine aC (aQ rfl ⟨rfl, trivial⟩ rfl)
  ·refine tkl 0 c rfl rfl fB rfl aS ?_;obtain ⟨e, f, h5⟩ := bns h5;refine tk c (scr call15 (fM _ _ _ f)) (tk c (sn rfl) (to (spf (.b (!e)) c) ?_));obtain rfl := sIn h5;refine aC (aQ rfl ⟨rfl, trivial⟩ rfl)
 ·refine tm (.b b4) ?_;obtain ⟨b6, h7, h⟩ := bns h;refine aZ 5 [1] 18 b6 ?_ ?_
  ·refine bch h7 (fun d h7 => ?_) (fun d h7 => ?_)
   ·refine tp d (tp d (tp d (tp d (to (spt Z44 d) ?_))));obtain rfl := sIn h7;refine aC (aQ rfl ⟨rfl, trivial⟩ rfl)
   ·refine tkl 0 d rfl rfl gV rfl aS ?_;obtain ⟨g, i, h7⟩ := bns h7;refine tk d (scr call15 (fM _ _ _ i)) (tk d (sn rfl) (to (spf (.b (!g)) d) ?_));obtain rfl := sIn h7;refine aC (aQ rfl ⟨rfl, trivial⟩ rfl)
  ·refine aC ?_;refine tih h (fun c8 h => ?_) (fun c8 h => ?_)
   ·refine aD (aB (ta Z12 (aC ?_)));obtain rfl := sIn h;refine bL (bG (bI (l := [2]) ⟨rfl, trivial⟩)) ?_;exact rt
   ·refine aV (aD (aD (aB (tfl 0 rfl rfl yT rfl aS (aC (bF (aD (aB (to (scm rfl rfl rfl) (ta (.b (decide (a.Kind = 1))) (aC ?_)))))))))));refine tih h (fun c9 h => ?_) (fun c9 h => ?_)
    ·refine aD (aB (tfl 0 rfl rfl oA rfl aS ?_));obtain ⟨j, k, h⟩ := bns h;refine to (scr call15 (fM _ _ _ k)) (ta (.b j) (aC ?_));obtain rfl := sIn h;refine bL (bG (bI (l := [2]) ⟨rfl, trivial⟩)) ?_;exact rt
    ·refine aD (aB (to (scm rfl rfl rfl) (ta (.b (Z76 a)) (aC ?_))));refine tih h (fun m h => ?_) (fun m h => ?_)
     ·refine aD (aB (tfl 0 rfl rfl oA rfl aS ?_));obtain ⟨n, o, h⟩ := bns h;refine to (scr call15 (fM _ _ _ o)) (ta (.b n) (aC ?_));obtain rfl := sIn h;refine bL (bG (bI (l := [2]) ⟨rfl, trivial⟩)) ?_;exact rt
     ·refine aD (aD (aB (to (scm rfl rfl rfl) (ta (Z72 a) (aC ?_)))));refine tih h (fun p h => ?_) (fun p h => ?_)
      ·refine aV ?_;refine tih h (fun q h => ?_) (fun q h => ?_)
       ·refine aD (aB (tfl 0 rfl rfl oA rfl aS (to (scm rfl rfl rfl) (ta (.b (decide (a.Rank = 0))) (aC ?_)))));obtain rfl := sIn h;refine bL (bG (bI (l := [2]) ⟨rfl, trivial⟩)) ?_;exact rt
       ·refine cK ?_;refine aD (aB (ta Z12 (aC ?_)));obtain rfl := sIn h;refine bL (bG (bI (l := [2]) ⟨rfl, trivial⟩)) ?_;exact rt
      ·refine aD (aB (to (scm rfl rfl rfl) (ta (Z73 a) (aC ?_))));refine tih h (fun s h => ?_) (fun s h => ?_)
       ·refine aV ?_;refine tih h (fun t h => ?_) (fun t h => ?_)
        ·refine aD (aB (tfl 0 rfl rfl oA rfl aS (to (scm rfl rfl rfl) (ta (.b (decide (a.Rank = 0))) (aC ?_)))));obtain rfl := sIn h;refine bL (bG (bI (l := [2]) ⟨rfl, trivial⟩)) ?_;exact rt
        ·refine cK ?_;refine aD (aB (ta Z12 (aC ?_)));obtain rfl := sIn h;refine bL (bG (bI (l := [2]) ⟨rfl, trivial⟩)) ?_;exact rt
       ·refine aB (to (scm rfl rfl rfl) (ta (Z74 a) (aC ?_)));refine tih h (fun u h => ?_) (fun u h => ?_)
        ·refine aD (aB (tfl 0 rfl rfl oA rfl aS (to (scm rfl rfl rfl) (ta (.b (decide (a.Rank = 0))) (aC ?_)))));obtain rfl := sIn h;refine bL (bG (bI (l := [2]) ⟨rfl, trivial⟩)) ?_;exact rt
        ·refine cK ?_;refine aD (aB (ta Z12 (aC ?_)));obtain rfl := sIn h;refine bL (bG (bI (l := [2]) ⟨rfl, trivial⟩)) ?_;exact rt

theorem aDf (z : bE) (m : List aN) {r : Int} (h : oW z m = some r) : Fn Tryz.prog 6 [.agg (bJ z), .d (Z28 m)] (.i r) := by
 unfold oW at h;refine oT [.tmp 4] func6 results6 ntmps6 ?_;refine aD (aB ?_);refine bA rfl (eN (v := .agg (bJ z)) (aI rfl) rfl rfl rfl) ?_;rintro _ ⟨b1, rfl⟩;refine ta (.i 0) (aC (aD (aD (aB (tfl 0 rfl rfl yR rfl aS ?_)))));obtain ⟨r2, h3, h⟩ := bns h;refine to (scr call15 (fM _ _ _ h3)) (to (sn rfl) (tm (.b (!r2)) ?_));obtain ⟨b4, h5, h⟩ := bns h;refine aZ 5 [1, 2] 16 b4 ?_ ?_
 ·refine bch h5 (fun q h5 => ?_) (fun q h5 => ?_)
  ·refine tp q (tp q (tp q (tp q (to (spt Z44 q) ?_))));obtain rfl := sIn h5;refine aC (aQ rfl ⟨rfl, rfl, trivial⟩ rfl)
  ·refine tkl 0 q rfl rfl aBu rfl aS ?_;obtain ⟨C, E, h5⟩ := bns h5;refine tk q (scr call15 (fM _ _ _ E)) (tk q (sn rfl) (to (spf (.b (!C)) q) ?_));obtain rfl := sIn h5;refine aC (aQ rfl ⟨rfl, rfl, trivial⟩ rfl)
 ·refine tm (.b b4) ?_;obtain ⟨b6, h7, h⟩ := bns h;refine aZ 5 [1, 2] 22 b6 ?_ ?_
  ·refine bch h7 (fun s h7 => ?_) (fun s h7 => ?_)
   ·refine tp s (tp s (tp s (tp s (to (spt Z44 s) ?_))));obtain rfl := sIn h7;refine aC (aQ rfl ⟨rfl, rfl, trivial⟩ rfl)
   ·refine tkl 0 s rfl rfl aBv rfl aS ?_;obtain ⟨F, G, h7⟩ := bns h7;refine tk s (scr call15 (fM _ _ _ G)) (tk s (sn rfl) (to (spf (.b (!F)) s) ?_));obtain rfl := sIn h7;refine aC (aQ rfl ⟨rfl, rfl, trivial⟩ rfl)
  ·refine tm (.b b6) ?_;obtain ⟨b8, h9, h⟩ := bns h;refine aZ 5 [1, 2] 28 b8 ?_ ?_
   ·refine bch h9 (fun t h9 => ?_) (fun t h9 => ?_)
    ·refine tp t (tp t (tp t (tp t (to (spt Z44 t) ?_))));obtain rfl := sIn h9;refine aC (aQ rfl ⟨rfl, rfl, trivial⟩ rfl)
    ·refine tkl 0 t rfl rfl sK rfl aS ?_;obtain ⟨H, I, h9⟩ := bns h9;refine tk t (scr call15 (fM _ _ _ I)) (tk t (sn rfl) (to (spf (.b (!H)) t) ?_));obtain rfl := sIn h9;refine aC (aQ rfl ⟨rfl, rfl, trivial⟩ rfl)
   ·refine tm (.b b8) ?_;obtain ⟨J, w, h⟩ := bns h;refine aZ 7 [1] 36 J ?_ ?_
    ·refine bch w (fun n w => ?_) (fun n w => ?_)
     ·refine tp n (tp n (tp n (tp n (tp n (tp n (to (spt Z44 n) ?_))))));obtain rfl := sIn w;refine aC (aQ rfl ⟨rfl, trivial⟩ rfl)
     ·refine tkl 0 n rfl rfl lI rfl aS (tkl 0 n rfl rfl sK rfl aS ?_);obtain ⟨K, L, w⟩ := bns w;refine tk n (scr call15 (fM _ _ _ L)) (tk n (sn rfl) (to (spf (.b (!K)) n) ?_));obtain rfl := sIn w;refine aC (aQ rfl ⟨rfl, trivial⟩ rfl)
    ·refine aC ?_;refine tih h (fun M h => ?_) (fun M h => ?_)
     ·refine aD (aB (ta (.i 50) (aC ?_)));obtain rfl := sIn h;refine bL (bG (bI (l := [4]) ⟨rfl, trivial⟩)) ?_;exact rt
     ·refine aV (aD (aD (aB (tm (Z70 m) (to (sle rfl gS.of) (to (scm rfl rfl rfl) (aC ?_)))))));refine tih h (fun N h => ?_) (fun N h => ?_)
      ·refine aD (aB (ta (.i 51) (aC ?_)));obtain rfl := sIn h;refine bL (bG (bI (l := [4]) ⟨rfl, trivial⟩)) ?_;exact rt
      ·refine aV (aD (aD (aB (ta (.i 0) (aC (bF ?_))))));refine bY (S := Int) [1] (fun x => [(5, .i x)]) (fun x => []) (fun k x => iL m k x) (fun _ => rfl) (0) h (aR [] rfl rfl (aL rfl (aP ⟨rfl, trivial⟩))) ?_;rintro O c h;simp only [iL] at h;refine aD (aD (aB (tm (.i c) (tm (Z70 m) (to (sle rfl gS.of) (to (scm rfl rfl rfl) (aC ?_)))))));refine tih h (fun P h => ?_) (fun P h => ?_)
       ·refine aV (aD (bF (aD (aD (aB (tm (Z70 m) (tm (.i c) ?_)))))));obtain ⟨Q, T, h⟩ := bns h;refine to (six rfl rfl gS.of (bC aK T)) (to (aAl (aK Q) rfl lL) ?_);obtain ⟨a1, U, h⟩ := bns h;refine to (scr call16 (aAr _ U)) (to (sn rfl) (aC ?_));refine tih h (fun V h => ?_) (fun V h => ?_)
        ·refine aD (aB (ta (.i 51) (aC ?_)));obtain rfl := sIn h;exact rt
        ·refine aV (aD (aB (ta (.i 0) (aC ?_))));refine aBh ?_;refine bY (S := Int) [1, 5] (fun y => [(6, .i y)]) (fun y => []) (fun k y => iM (iL m O) m c k y) (fun _ => rfl) (0) h (aR [] rfl rfl (aL rfl (aP ⟨rfl, rfl, trivial⟩))) ?_;rintro a2 g h;simp only [iM] at h;refine aD (aD (aB (tm (.i g) (tm (.i c) (to (scm rfl rfl rfl) (aC ?_))))));refine tih h (fun W h => ?_) (fun W h => ?_)
         ·refine aV (aD (bF (aD ?_)));obtain ⟨e, A, h⟩ := bns h;obtain ⟨f, B, h⟩ := bns h;obtain ⟨X, u, h⟩ := bns h;refine cG mix 22 [1, 5, 6] [(78, .b X)] ?_ ?_
          ·refine bch u (fun j u => ?_) (fun j u => ?_)
           ·obtain ⟨o, Y, u⟩ := bns u;obtain ⟨p, Z, u⟩ := bns u;obtain rfl := sIn u;refine ⟨[(57, 0, .d (Z28 m)), (58, 1, .i g), (59, 2, .cp [.j e.Id, .j e.Hour, .j e.Kind, .j e.Player, .j e.Rank]), (60, 3, .cp [.j e.Id]), (61, 4, .i e.Id), (62, 5, .d (Z28 m)), (63, 6, .i c), (64, 7, .cp [.j f.Id, .j f.Hour, .j f.Kind, .j f.Player, .j f.Rank]), (65, 8, .cp [.j f.Id]), (66, 9, .i f.Id), (67, 10, .b (decide (e.Id = f.Id))), (68, 11, .b (decide (e.Id = f.Id))), (69, 12, .d (Z28 m)), (70, 13, .i g), (71, 14, .cp [.j o.Id, .j o.Hour, .j o.Kind, .j o.Player, .j o.Rank]), (72, 15, .agg (aK o)), (73, 16, .d (Z28 m)), (74, 17, .i c), (75, 18, .cp [.j p.Id, .j p.Hour, .j p.Kind, .j p.Player, .j p.Rank]), (76, 19, .agg (aK p)), (77, 20, .b (!decide (o = p))), (78, 21, .b (!decide (o = p)))], ?_, ?_⟩
            · exact dk [0, 0, 102, 3, 4, 0, 0, 607, 8, 9, 510, 11, 12, 12, 121314, 1215, 12, 12, 121718, 1219, 121620, 1221] ⟨go (zm (Z70 m)),
 go (zm (.i g)),
 go (zix rfl rfl gS.of (bC aK A)),
 go (zfc [.j e.Id] rfl mA),
 go (zlc rfl aS),
 go (zm (Z70 m)),
 go (zm (.i c)),
 go (zix rfl rfl gS.of (bC aK B)),
 go (zfc [.j f.Id] rfl mA),
 go (zlc rfl aS),
 go (zcm rfl rfl rfl),
 go (zm (.b (decide (e.Id = f.Id)))),
 gt j (zm (Z70 m)),
 gt j (zm (.i g)),
 gt j (zix rfl rfl gS.of (bC aK Y)),
 gt j (aMt (aK o) rfl lL),
 gt j (zm (Z70 m)),
 gt j (zm (.i c)),
 gt j (zix rfl rfl gS.of (bC aK Z)),
 gt j (aMt (aK p) rfl lL),
 gt j fun S hS => aHx (a := o) (b := p) (aI rfl) (aT hS rfl) (aT hS rfl) rfl rfl Tryz.eqGuardType41 aGu,
 go (zpt (.b (!decide (o = p))) j), trivial⟩
            · exact bP (aL rfl (aP ⟨rfl, rfl, rfl, trivial⟩))
           ·obtain rfl := sIn u;refine ⟨[(57, 0, .d (Z28 m)), (58, 1, .i g), (59, 2, .cp [.j e.Id, .j e.Hour, .j e.Kind, .j e.Player, .j e.Rank]), (60, 3, .cp [.j e.Id]), (61, 4, .i e.Id), (62, 5, .d (Z28 m)), (63, 6, .i c), (64, 7, .cp [.j f.Id, .j f.Hour, .j f.Kind, .j f.Player, .j f.Rank]), (65, 8, .cp [.j f.Id]), (66, 9, .i f.Id), (67, 10, .b (decide (e.Id = f.Id))), (68, 11, .b (decide (e.Id = f.Id))), (69, 12, .tup []), (70, 13, .tup []), (71, 14, .tup []), (72, 15, .tup []), (73, 16, .tup []), (74, 17, .tup []), (75, 18, .tup []), (76, 19, .tup []), (77, 20, .tup []), (78, 21, .b false)], ?_, ?_⟩
            · exact dk [0, 0, 102, 3, 4, 0, 0, 607, 8, 9, 510, 11, 12, 12, 121314, 1215, 12, 12, 121718, 1219, 121620, 1221] ⟨go (zm (Z70 m)),
 go (zm (.i g)),
 go (zix rfl rfl gS.of (bC aK A)),
 go (zfc [.j e.Id] rfl mA),
 go (zlc rfl aS),
 go (zm (Z70 m)),
 go (zm (.i c)),
 go (zix rfl rfl gS.of (bC aK B)),
 go (zfc [.j f.Id] rfl mA),
 go (zlc rfl aS),
 go (zcm rfl rfl rfl),
 go (zm (.b (decide (e.Id = f.Id)))),
 gp j,
 gp j,
 gp j,
 gp j,
 gp j,
 gp j,
 gp j,
 gp j,
 gp j,
 go (zpf Z12 j), trivial⟩
            · exact bP (aL rfl (aP ⟨rfl, rfl, rfl, trivial⟩))
          ·refine aC ?_;refine tih h (fun a0 h => ?_) (fun a0 h => ?_)
           ·refine aD (aB (ta (.i 51) (aC ?_)));obtain rfl := sIn h;exact rt
           ·refine cK ?_;refine aB (tm (.i g) (to (sar rfl rfl rfl) (ta (.i (w64 (g + 1))) (aC ?_))));exact ⟨(w64 (g + 1)), h, aR [] rfl rfl (aL rfl (aP ⟨rfl, rfl, trivial⟩))⟩
         ·refine cE ?_;refine .inl ⟨rfl, ?_⟩;simp only [rZ] at h;simp only [rY] at h;refine aB (tm (.i c) (to (sar rfl rfl rfl) (ta (.i (w64 (c + 1))) (aC ?_))));exact ⟨(w64 (c + 1)), h, aR [] rfl rfl (aL rfl (aP ⟨rfl, trivial⟩))⟩
       ·refine cE ?_;refine .inl ⟨rfl, ?_⟩;simp only [rX] at h;refine aD (aB (ta (.i 0) (aC ?_)));obtain rfl := sIn h;exact rt

theorem aBo {r : aU} (h : nJ = some r) : Fn Tryz.prog 17 [] (.agg (aY r)) := by
 unfold nJ at h;refine nY func17 rfl (rs := [.cell 0 25]) results17 ntmps17 (Nat.le_of_ble_eq_true rfl) ?_;refine aD (aB ?_);refine bA rfl (eA (zs := [.j 0, .j 0, .sl 5 Z77, .sl 3 Z53, .sl 3 Z53]) (aI rfl) zeroValue25 rfl rfl) ?_;rintro _ ⟨b1, rfl⟩;refine aC (aD (aB (to (kZ (aI rfl) aBf (zs := [.j 0, .j 0, .j 0, .j 0, .k false]) rfl rfl rfl rfl (es := [.j 1, .j 0, .j 10, .j 500, .k false]) rfl) ?_)));refine to (kZ (aI rfl) aBf (zs := [.j 0, .j 0, .j 0, .j 0, .k false]) rfl rfl rfl rfl (es := [.j 2, .j 0, .j 20, .j 300, .k false]) rfl) ?_;refine to (kZ (aI rfl) aBf (zs := [.j 0, .j 0, .j 0, .j 0, .k false]) rfl rfl rfl rfl (es := [.j 3, .j 0, .j 30, .j 100, .k true]) rfl) ?_;refine to (kZ (aI rfl) aBf (zs := [.j 0, .j 0, .j 0, .j 0, .k false]) rfl rfl rfl rfl (es := [.j 4, .j 1, .j 12, .j 400, .k false]) rfl) ?_;refine to (kZ (aI rfl) aBf (zs := [.j 0, .j 0, .j 0, .j 0, .k false]) rfl rfl rfl rfl (es := [.j 5, .j 1, .j 40, .j 200, .k false]) rfl) ?_;refine to (kZ (aI rfl) aBf (zs := [.j 0, .j 0, .j 0, .j 0, .k false]) rfl rfl rfl rfl (es := [.j 6, .j 2, .j 15, .j 600, .k false]) rfl) ?_;refine to (gK (aI rfl) cL rfl rfl (rows := Z11.map aF) rfl (bD (f := aF) fun _ => rfl) rfl (by decide)) ?_;refine to (kZ (aI rfl) aRd (zs := [.j 0, .j 0, .j 0]) rfl rfl rfl rfl (es := [.j 1, .j 50, .j 55]) rfl) ?_;refine to (gK (aI rfl) jU rfl rfl (rows := ([(bB.mk 1 50 55)]).map aM) rfl (bD (f := aM) fun _ => rfl) rfl (by decide)) ?_;refine to (kZ (aI rfl) aRd (zs := [.j 0, .j 0, .j 0]) rfl rfl rfl rfl (es := [.j 2, .j 20, .j 29]) rfl) ?_;refine to (gK (aI rfl) jU rfl rfl (rows := ([(bB.mk 2 20 29)]).map aM) rfl (bD (f := aM) fun _ => rfl) rfl (by decide)) ?_;refine to (kZ (aI rfl) aVx (zs := [.j 0, .j 0, .sl 5 Z77, .sl 3 Z53, .sl 3 Z53]) rfl rfl rfl rfl (es := [.j 3, .j 2, .sl 5 ((Z11).map aF), .sl 3 ((([(bB.mk 1 50 55)])).map aM), .sl 3 ((([(bB.mk 2 20 29)])).map aM)]) rfl) ?_;refine to (sst 0 rfl rfl sizeOf25 Z50) (aC ?_);obtain rfl := sIn h;exact cS ⟨rfl, _, [.box b1 0 Z50], .one (.cell 0 25 rfl (i := 0) rfl oF (es := Z50) rfl rfl), .refl _, .same _⟩

theorem gH (d : Int) (c : Int) (a : Int) {r : Bool} (h : fN d c a = some r) : Fn Tryz.prog 34 [.i d, .i c, .i a] (.b r) := by
 unfold fN at h;refine oT [.tmp 6] func34 results34 ntmps34 ?_;refine aD (aB (ta Z12 (aC (aD (aB (tm (.i c) (tm (.i d) (to (scm rfl rfl rfl) (tm (Z69 c d) ?_)))))))));obtain ⟨b1, h2, h⟩ := bns h;refine aZ 4 [] 14 b1 ?_ ?_
 ·refine bch h2 (fun c3 h2 => ?_) (fun c3 h2 => ?_)
  ·refine tk c3 (sm (.i d)) (tk c3 (sm (.i a)) (tk c3 (scm rfl rfl rfl) (to (spt (Z69 d a) c3) ?_)));obtain rfl := sIn h2;refine aC (aQ rfl trivial rfl)
  ·refine tp c3 (tp c3 (tp c3 (to (spf Z12 c3) ?_)));obtain rfl := sIn h2;refine aC (aQ rfl trivial rfl)
 ·refine ta (.b b1) (aC ?_);obtain rfl := sIn h;exact rt

theorem vJ (e : List bB) (g : bB → Option Bool) {r : Int} (c : Nat) (f : List AV) (j : ∀ args w, (callFunc c args).run Tryz.prog w = .ok (.enter c args) w) (l : ∀ (x0 : bB) r, g x0 = some r → Fn Tryz.prog c ([.agg (aM x0)] ++ f) (.b r)) (h : iT e g = some r) : Fn Tryz.prog 81 [.d (Z22 e), .fn c f] (.i r) := by
 unfold iT at h;refine oT [.tmp 4] func81 results81 ntmps81 ?_;refine aD (aB (ta (.i 0) (aC (aD (aD (aB (tm (Z62 e) (to (sle rfl jU.of) (tm (.i 0) (aC (bF ?_)))))))))));refine bY (S := Int) [0, 1, 7] (fun s1 => [(8, .i s1)]) (fun s1 => []) (fun k s1 => eI e g (e.length : Int) k s1) (fun _ => rfl) (0) h (aR [] rfl rfl (aL rfl (aP ⟨rfl, rfl, rfl, trivial⟩))) ?_;rintro k2 a h;simp only [eI] at h;refine aD (aB (to (scm rfl rfl rfl) (aC (aD ?_))));refine tih h (fun c3 h => ?_) (fun c3 h => ?_)
 ·refine aV (aD (bF (aD (aB (tm (.i a) (ta (.i a) (aC (aD (aB (tm (.fn c f) (tm (Z62 e) (tm (.i a) ?_))))))))))));obtain ⟨x4, h5, h⟩ := bns h;refine to (six rfl rfl jU.of (bC aM h5)) (to (aAl (aM x4) rfl aCz) ?_);obtain ⟨r6, h7, h⟩ := bns h;refine to (fX (aI rfl) (.clo _ _ _ _ j rfl) (yN rfl) rfl (BVs.refl _ _) (l _ _  h7) rfl) ?_;refine aC ?_;refine tih h (fun c8 h => ?_) (fun c8 h => ?_)
  ·refine aD (aB (tm (.i a) (ta (.i a) (aC ?_))));obtain rfl := sIn h;exact rt
  ·refine cK ?_;refine aB (to (sar rfl rfl rfl) (tm (.i (w64 (a + 1))) (aC ?_)));exact ⟨(w64 (a + 1)), h, aR [] rfl rfl (aL rfl (aP ⟨rfl, rfl, rfl, trivial⟩))⟩
 ·refine cE ?_;refine .inl ⟨rfl, ?_⟩;simp only [lT] at h;refine aD (aB (ta (.i (-1)) (aC ?_)));obtain rfl := sIn h;exact rt

theorem lA (e : List bB) (i : bB → Option Bool) {r : Bool} (a : Nat) (c : List AV) (f : ∀ args w, (callFunc a args).run Tryz.prog w = .ok (.enter a args) w) (g : ∀ (x0 : bB) r, i x0 = some r → Fn Tryz.prog a ([.agg (aM x0)] ++ c) (.b r)) (h : eH e i = some r) : Fn Tryz.prog 58 [.d (Z22 e), .fn a c] (.b r) := by
 unfold eH at h;refine oT [.tmp 4] func58 results58 ntmps58 ?_;refine aD (aB (ta Z12 (aC (aD (aB (tm (Z62 e) (tm (.fn a c) ?_)))))));obtain ⟨r1, h2, h⟩ := bns h;refine to (scr call81 (vJ _ _ a c f g h2)) (to (scm rfl rfl rfl) (ta (.b (decide (0 ≤ r1))) (aC ?_)));obtain rfl := sIn h;exact rt

theorem aEa (e : bB) (f : aU) {r : Bool} (h : pD e f = some r) : Fn Tryz.prog 121 [.agg (aM e), .cp (aY f)] (.b r) := by
 unfold pD at h;refine oT [.tmp 3] func121 results121 ntmps121 ?_;refine aD (aB ?_);refine bA rfl (eN (v := .agg (aM e)) (aI rfl) rfl rfl rfl) ?_;rintro _ ⟨b1, rfl⟩;refine ta Z12 (aC (aD (aB (tfl 0 rfl rfl oY rfl aS (to (sfc [.j f.Players] rfl lY) (to (slc rfl aS) (to (sar rfl rfl rfl) ?_)))))));obtain ⟨r2, h3, h⟩ := bns h;refine to (scr call34 (gH _ _ _ h3)) (to (sn rfl) (tm (.b (!r2)) ?_));obtain ⟨b4, h5, h⟩ := bns h;refine aZ 6 [2] 17 b4 ?_ ?_
 ·refine bch h5 (fun a h5 => ?_) (fun a h5 => ?_)
  ·refine tp a (tp a (tp a (tp a (tp a (to (spt Z44 a) ?_)))));obtain rfl := sIn h5;refine aC (aQ rfl ⟨rfl, trivial⟩ rfl)
  ·refine tkl 0 a rfl rfl nA rfl aS (tkl 0 a rfl rfl oZ rfl aS (tk a (scm rfl rfl rfl) (to (spf (.b (decide (e.To < e.From))) a) ?_)));obtain rfl := sIn h5;refine aC (aQ rfl ⟨rfl, trivial⟩ rfl)
 ·refine tm (.b b4) ?_;obtain ⟨b6, h7, h⟩ := bns h;refine aZ 5 [2] 23 b6 ?_ ?_
  ·refine bch h7 (fun c h7 => ?_) (fun c h7 => ?_)
   ·refine tp c (tp c (tp c (tp c (to (spt Z44 c) ?_))));obtain rfl := sIn h7;refine aC (aQ rfl ⟨rfl, trivial⟩ rfl)
   ·refine tkl 0 c rfl rfl nA rfl aS ?_;obtain ⟨g, i, h7⟩ := bns h7;refine tk c (scr call34 (gH _ _ _ i)) (tk c (sn rfl) (to (spf (.b (!g)) c) ?_));obtain rfl := sIn h7;refine aC (aQ rfl ⟨rfl, trivial⟩ rfl)
  ·refine tm (.b b6) ?_;obtain ⟨b8, h9, h⟩ := bns h;refine aZ 5 [] 29 b8 ?_ ?_
   ·refine bch h9 (fun d h9 => ?_) (fun d h9 => ?_)
    ·refine tp d (tp d (tp d (tp d (to (spt Z44 d) ?_))));obtain rfl := sIn h9;refine aC (aQ rfl trivial rfl)
    ·refine tkl 0 d rfl rfl oZ rfl aS ?_;obtain ⟨j, k, h9⟩ := bns h9;refine tk d (scr call34 (gH _ _ _ k)) (tk d (sn rfl) (to (spf (.b (!j)) d) ?_));obtain rfl := sIn h9;refine aC (aQ rfl trivial rfl)
   ·refine ta (.b b8) (aC ?_);obtain rfl := sIn h;refine bL (bG (bI (l := [3]) ⟨rfl, trivial⟩)) ?_;exact rt

theorem zB (c : aU) (a : List bB) {r : Bool} (h : oR c a = some r) : Fn Tryz.prog 107 [.agg (aY c), .d (Z22 a)] (.b r) := by
 unfold oR at h;refine oT [.tmp 4] func107 results107 ntmps107 ?_;refine aD (aB ?_);refine bA rfl (eN (v := .agg (aY c)) (aI rfl) rfl rfl rfl) ?_;rintro _ ⟨b1, rfl⟩;refine ta Z12 (aC (aD (aB (tm (Z62 a) (to (sle rfl jU.of) (to (scm rfl rfl rfl) (tm (.b (decide ((a.length : Int) ≤ 8))) ?_)))))));obtain ⟨b2, h3, h⟩ := bns h;refine aZ 5 [] 13 b2 ?_ ?_
 ·refine bch h3 (fun c4 h3 => ?_) (fun c4 h3 => ?_)
  ·refine tk c4 (sm (Z62 a)) (tk c4 (qR (aI rfl) rfl rfl) ?_);obtain ⟨r6, h7, h3⟩ := bns h3;refine tk c4 (sc call58 (lA _ _ 121 [.cp [.j c.Players, .j c.Counts, .sl 5 (c.Reports.map aF), .sl 3 (c.Bans.map aM), .sl 3 (Z61 c)]] call121 (fun _ _ h3 => aEa _ _ h3) h7) (.cons (.same _) (.cons (sE (.cons (eM 0 rfl rfl (dvc (.same _) (dvc (.same _) (dvc (.same _) (dvc (.same _) (dvc (.same _) dvn)))))) .nil)) .nil))) (tk c4 (sn rfl) (to (spt (.b (!r6)) c4) ?_));obtain rfl := sIn h3;refine aC (aQ rfl trivial rfl)
  ·refine tp c4 (tp c4 (tp c4 (tp c4 (to (spf Z12 c4) ?_))));obtain rfl := sIn h3;refine aC (aQ rfl trivial rfl)
 ·refine ta (.b b2) (aC ?_);obtain rfl := sIn h;refine bL (bG (bI (l := [4]) ⟨rfl, trivial⟩)) ?_;exact rt

theorem aEv (c : bB) (a : bB) {r : Bool} (h : pW c a = some r) : Fn Tryz.prog 108 [.agg (aM c), .cp (aM a)] (.b r) := by
 unfold pW at h;refine oT [.tmp 3] func108 results108 ntmps108 ?_;refine aD (aB ?_);refine bA rfl (eN (v := .agg (aM c)) (aI rfl) rfl rfl rfl) ?_;rintro _ ⟨b1, rfl⟩;refine ta Z12 (aC (aD (aB (to (sfc [.j a.Player] rfl oY) (to (slc rfl aS) (tfl 0 rfl rfl oY rfl aS (to (scm rfl rfl rfl) (tm (.b (decide (a.Player = c.Player))) ?_))))))));obtain ⟨b2, h3, h⟩ := bns h;refine aZ 6 [1, 2] 15 b2 ?_ ?_
 ·refine bch h3 (fun c7 h3 => ?_) (fun c7 h3 => ?_)
  ·refine tk c7 (sfc [.j a.From] rfl nA) (tk c7 (slc rfl aS) (tkl 0 c7 rfl rfl oZ rfl aS (tk c7 (scm rfl rfl rfl) (to (spt (.b (decide (a.From ≤ c.To))) c7) ?_))));obtain rfl := sIn h3;refine aC (aQ rfl ⟨rfl, rfl, trivial⟩ rfl)
  ·refine tp c7 (tp c7 (tp c7 (tp c7 (tp c7 (to (spf Z12 c7) ?_)))));obtain rfl := sIn h3;refine aC (aQ rfl ⟨rfl, rfl, trivial⟩ rfl)
 ·refine tm (.b b2) ?_;obtain ⟨b4, h5, h⟩ := bns h;refine aZ 6 [] 22 b4 ?_ ?_
  ·refine bch h5 (fun c6 h5 => ?_) (fun c6 h5 => ?_)
   ·refine tkl 0 c6 rfl rfl nA rfl aS (tk c6 (sfc [.j a.To] rfl oZ) (tk c6 (slc rfl aS) (tk c6 (scm rfl rfl rfl) (to (spt (.b (decide (c.From ≤ a.To))) c6) ?_))));obtain rfl := sIn h5;refine aC (aQ rfl trivial rfl)
   ·refine tp c6 (tp c6 (tp c6 (tp c6 (tp c6 (to (spf Z12 c6) ?_)))));obtain rfl := sIn h5;refine aC (aQ rfl trivial rfl)
  ·refine ta (.b b4) (aC ?_);obtain rfl := sIn h;refine bL (bG (bI (l := [3]) ⟨rfl, trivial⟩)) ?_;exact rt

theorem aHq (d : aU) {r : Bool} (h : rM d = some r) : Fn Tryz.prog 78 [.agg (aY d)] (.b r) := by
 unfold rM at h;refine oT [.tmp 2] func78 results78 ntmps78 ?_;refine aD (aB ?_);refine bA rfl (eN (v := .agg (aY d)) (aI rfl) rfl rfl rfl) ?_;rintro _ ⟨b1, rfl⟩;refine ta Z12 (aC (aD (aD (aB (tfl 0 rfl rfl lY rfl aS ?_)))));obtain ⟨r2, h3, h⟩ := bns h;refine to (scr call34 (gH _ _ _ h3)) (to (sn rfl) (tm (.b (!r2)) ?_));obtain ⟨b4, h5, h⟩ := bns h;refine aZ 5 [1] 16 b4 ?_ ?_
 ·refine bch h5 (fun f h5 => ?_) (fun f h5 => ?_)
  ·refine tp f (tp f (tp f (tp f (to (spt Z44 f) ?_))));obtain rfl := sIn h5;refine aC (aQ rfl ⟨rfl, trivial⟩ rfl)
  ·refine tkl 0 f rfl rfl aFw rfl aS ?_;obtain ⟨z, A, h5⟩ := bns h5;refine tk f (scr call34 (gH _ _ _ A)) (tk f (sn rfl) (to (spf (.b (!z)) f) ?_));obtain rfl := sIn h5;refine aC (aQ rfl ⟨rfl, trivial⟩ rfl)
 ·refine tm (.b b4) ?_;obtain ⟨b6, h7, h⟩ := bns h;refine aZ 5 [1] 22 b6 ?_ ?_
  ·refine bch h7 (fun g h7 => ?_) (fun g h7 => ?_)
   ·refine tp g (tp g (tp g (tp g (to (spt Z44 g) ?_))));obtain rfl := sIn h7;refine aC (aQ rfl ⟨rfl, trivial⟩ rfl)
   ·refine tkl 0 g rfl rfl lZ rfl qQ (tk g (sle rfl cL.of) (tk g (scm rfl rfl rfl) (to (spf (.b (decide (40 < (d.Reports.length : Int)))) g) ?_)));obtain rfl := sIn h7;refine aC (aQ rfl ⟨rfl, trivial⟩ rfl)
  ·refine aC ?_;refine tih h (fun c8 h => ?_) (fun c8 h => ?_)
   ·refine aD (aB (ta Z12 (aC ?_)));obtain rfl := sIn h;refine bL (bG (bI (l := [2]) ⟨rfl, trivial⟩)) ?_;exact rt
   ·refine aV (aD (aD (aB (tfl 0 rfl rfl lZ rfl qQ (to (sle rfl cL.of) (tm (.i 0) (aC (bF ?_))))))));refine bY (S := Int) [1, 24, 25] (fun s9 => [(26, .i s9)]) (fun s9 => [.box b1 0 (aY d)]) (fun k s9 => kE d.Reports (d.Reports.length : Int) d k s9) (fun _ => rfl) (0) h (aR [0] rfl rfl (aL rfl (aP ⟨rfl, rfl, rfl, trivial⟩))) ?_;rintro a1 s h;simp only [kE] at h;refine aD (aB (to (scm rfl rfl rfl) (aC (aD ?_))));refine tih h (fun B h => ?_) (fun B h => ?_)
    ·refine aV (aD (bF (aD (aB ?_))));obtain ⟨w, C, h⟩ := bns h;refine to (six rfl rfl cL.of (bC aF C)) (to (aAl (aF w) rfl fF) ?_);refine bA rfl (eA (zs := [.j 0, .j 0, .j 0, .j 0, .k false]) (aI rfl) zeroValue51 rfl rfl) ?_;rintro _ ⟨a2, rfl⟩;refine to (sst 1 rfl rfl sizeOf51 (aF w)) (aC (aD (aB (tfl 1 rfl rfl oB rfl aS ?_))));obtain ⟨E, F, h⟩ := bns h;refine to (scr call34 (gH _ _ _ F)) (to (sn rfl) (tm (.b (!E)) ?_));obtain ⟨x, n, h⟩ := bns h;refine aZ 8 [1, 4, 24, 25, 26] 42 x ?_ ?_
     ·refine bch n (fun a n => ?_) (fun a n => ?_)
      ·refine tp a (tp a (tp a (tp a (tp a (tp a (tp a (to (spt Z44 a) ?_)))))));obtain rfl := sIn n;refine aC (aQ rfl ⟨rfl, rfl, rfl, rfl, rfl, trivial⟩ rfl)
      ·refine tkl 1 a rfl rfl uD rfl aS (tkl 0 a rfl rfl lY rfl aS (tk a (sar rfl rfl rfl) ?_));obtain ⟨G, H, n⟩ := bns n;refine tk a (scr call34 (gH _ _ _ H)) (tk a (sn rfl) (to (spf (.b (!G)) a) ?_));obtain rfl := sIn n;refine aC (aQ rfl ⟨rfl, rfl, rfl, rfl, rfl, trivial⟩ rfl)
     ·refine tm (.b x) ?_;obtain ⟨y, o, h⟩ := bns h;refine aZ 5 [1, 4, 24, 25, 26] 48 y ?_ ?_
      ·refine bch o (fun j o => ?_) (fun j o => ?_)
       ·refine tp j (tp j (tp j (tp j (to (spt Z44 j) ?_))));obtain rfl := sIn o;refine aC (aQ rfl ⟨rfl, rfl, rfl, rfl, rfl, trivial⟩ rfl)
       ·refine tkl 1 j rfl rfl rE rfl aS ?_;obtain ⟨I, J, o⟩ := bns o;refine tk j (scr call34 (gH _ _ _ J)) (tk j (sn rfl) (to (spf (.b (!I)) j) ?_));obtain rfl := sIn o;refine aC (aQ rfl ⟨rfl, rfl, rfl, rfl, rfl, trivial⟩ rfl)
      ·refine tm (.b y) ?_;obtain ⟨K, p, h⟩ := bns h;refine aZ 5 [1, 24, 25, 26] 54 K ?_ ?_
       ·refine bch p (fun m p => ?_) (fun m p => ?_)
        ·refine tp m (tp m (tp m (tp m (to (spt Z44 m) ?_))));obtain rfl := sIn p;refine aC (aQ rfl ⟨rfl, rfl, rfl, rfl, trivial⟩ rfl)
        ·refine tkl 1 m rfl rfl vR rfl aS ?_;obtain ⟨L, M, p⟩ := bns p;refine tk m (scr call34 (gH _ _ _ M)) (tk m (sn rfl) (to (spf (.b (!L)) m) ?_));obtain rfl := sIn p;refine aC (aQ rfl ⟨rfl, rfl, rfl, rfl, trivial⟩ rfl)
       ·refine aC ?_;refine tih h (fun N h => ?_) (fun N h => ?_)
        ·refine aD (aB (ta Z12 (aC ?_)));obtain rfl := sIn h;refine bL (bG (bI (l := [2]) ⟨rfl, trivial⟩)) ?_;exact rt
        ·refine cK ?_;refine aB (to (sar rfl rfl rfl) (tm (.i (w64 (s + 1))) (aC ?_)));exact ⟨(w64 (s + 1)), h, aR [0] rfl rfl (aL rfl (aP ⟨rfl, rfl, rfl, trivial⟩))⟩
    ·refine cE ?_;refine .inl ⟨rfl, ?_⟩;simp only [uH] at h;refine aD (aD (aB (to (sla 0 (aY d) rfl rfl oF) (tfl 0 rfl rfl yQ rfl pQ ?_))));obtain ⟨O, P, h⟩ := bns h;refine to (scr call107 (zB _ _ P)) (to (sn rfl) (tm (.b (!O)) ?_));obtain ⟨Q, q, h⟩ := bns h;refine aZ 6 [1] 67 Q ?_ ?_
     ·refine bch q (fun e q => ?_) (fun e q => ?_)
      ·refine tp e (tp e (tp e (tp e (tp e (to (spt Z44 e) ?_)))));obtain rfl := sIn q;refine aC (aQ rfl ⟨rfl, trivial⟩ rfl)
      ·refine tk e (sla 0 (aY d) rfl rfl oF) (tkl 0 e rfl rfl rD rfl pQ ?_);obtain ⟨T, U, q⟩ := bns q;refine tk e (scr call107 (zB _ _ U)) (tk e (sn rfl) (to (spf (.b (!T)) e) ?_));obtain rfl := sIn q;refine aC (aQ rfl ⟨rfl, trivial⟩ rfl)
     ·refine aC ?_;refine tih h (fun V h => ?_) (fun V h => ?_)
      ·refine aD (aB (ta Z12 (aC ?_)));obtain rfl := sIn h;refine bL (bG (bI (l := [2]) ⟨rfl, trivial⟩)) ?_;exact rt
      ·refine aV (aD (aD (aB (tfl 0 rfl rfl rD rfl pQ (to (sle rfl jU.of) (tm (.i 0) (aC (bF ?_))))))));refine bY (S := Int) [1, 69, 70] (fun u => [(71, .i u)]) (fun u => [.box b1 0 (aY d)]) (fun k u => kF d.Frozen (d.Frozen.length : Int) d k u) (fun _ => rfl) (0) h (aR [0] rfl rfl (aL rfl (aP ⟨rfl, rfl, rfl, trivial⟩))) ?_;rintro a3 c h;simp only [kF] at h;refine aD (aB (to (scm rfl rfl rfl) (aC (aD ?_))));refine tih h (fun W h => ?_) (fun W h => ?_)
       ·refine aV (aD (bF (aD (aB (tm (.i c) ?_)))));obtain ⟨t, X, h⟩ := bns h;refine to (six rfl rfl jU.of (bC aM X)) (to (aAl (aM t) rfl aCz) ?_);refine bA rfl (eA (zs := [.j 0, .j 0, .j 0]) (aI rfl) zeroValue79 rfl rfl) ?_;rintro _ ⟨a4, rfl⟩;refine ta (.i c) (to (sst 1 rfl rfl sizeOf79 (aM t)) (aC (aD (aB (tfl 0 rfl rfl rD rfl pQ (tm (.i c) ?_))))));obtain ⟨a5, Y, h⟩ := bns h;refine to (aCk (aI rfl) jU.of rfl rfl rfl (aIu aM Y)) ?_;refine to (qR (aI rfl) rfl rfl) ?_;obtain ⟨a6, Z, h⟩ := bns h;refine to (sc call58 (lA _ _ 108 [.cp [.j t.Player, .j t.From, .j t.To]] call108 (fun _ _ h => aEv _ _ h) Z) (.cons (.same _) (.cons (sE (.cons (eM 1 rfl rfl (dvc (.same _) (dvc (.same _) (dvc (.same _) dvn)))) .nil)) .nil))) (aC ?_);refine tih h (fun a0 h => ?_) (fun a0 h => ?_)
        ·refine aD (aB (ta Z12 (aC ?_)));obtain rfl := sIn h;refine bL (bG (bI (l := [2]) ⟨rfl, trivial⟩)) ?_;exact rt
        ·refine cK ?_;refine aB (to (sar rfl rfl rfl) (tm (.i (w64 (c + 1))) (aC ?_)));exact ⟨(w64 (c + 1)), h, aR [0] rfl rfl (aL rfl (aP ⟨rfl, rfl, rfl, trivial⟩))⟩
       ·refine cE ?_;refine .inl ⟨rfl, ?_⟩;simp only [uI] at h;refine aD (aB (ta Z44 (aC ?_)));obtain rfl := sIn h;refine bL (bG (bI (l := [2]) ⟨rfl, trivial⟩)) ?_;exact rt

theorem rN (a : List aG) {r : (List aG)} (h : fQ a = some r) : dB Tryz.prog 60 [.d (Z33 a)] [] (fun r' o' => ∃ (w0 : Value), r' = .d (.lit w0) ∧ o' = [.arr w0 51 5 (r.map aF)]) := by
 unfold fQ at h;refine iN func60 rfl (rs := [.tmp 2]) results60 ntmps60 (Nat.le_of_ble_eq_true rfl) ?_;refine aD (aB (to (fP 51 5 (.inl rfl) (aI rfl)) ?_));refine aC (aD (aD (aB (tm (.d (Z33 a)) ?_))));refine bA rfl (aPl (aI rfl) rfl rfl underlying22) ?_;rintro _ ⟨b2, h3, rfl⟩;refine aC ?_;refine aIc rfl (fun c4 => ?_) (fun c4 => ?_)
 ·obtain rfl := aPg (h3 c4)
  simp [app] at h
  subst h;refine aD (aB (to (fP 51 5 (.inl rfl) (aI rfl)) ?_));refine aC ?_;refine bL (aR [1, 0] rfl rfl (le_refl _)) ?_;exact cS ⟨rfl, _, Z38, Z38, _, .one (.tmp 2 (v := .d Z31) rfl), .refl _, .same _, (.slice none 0 0), rfl, rfl⟩
 ·refine aV (aD (aB ?_));refine bA rfl (aJy (aI rfl) cL rfl rfl (rows := (([] : List aG)).map aF) rfl (bD (f := aF) fun _ => rfl) rfl (by decide)) ?_;rintro _ ⟨v5, rfl⟩;refine tm (.d (Z33 a)) ?_;obtain ⟨x6, h7, h⟩ := bns h;refine bA rfl (jC (i := 1) (aI rfl) cL rfl rfl rfl (fun _ => rfl) h7 rfl) ?_;rintro _ ⟨v8, rfl⟩;refine ta (.d (.lit v8)) (aC ?_);obtain rfl := sIn h;refine bL (aR [1, 0] rfl rfl (le_refl _)) ?_;exact cS ⟨rfl, _, [.arr v8 51 5 (x6.map aF)], Z38, _, .one (.tmp 2 (v := .d (.lit v8)) rfl), .refl _, .same _, v8, rfl, rfl⟩

theorem mG (p : List aG) (f : Int) (t : Int) (o : aG → aG → Option Int) {r : (List aG)} {a : Value} (g : Nat) (n : List AV) (y : ∀ args w, (callFunc g args).run Tryz.prog w = .ok (.enter g args) w) (z : ∀ (x0 : aG) (x1 : aG) r, o x0 x1 = some r → Fn Tryz.prog g ([.agg (aF x0), .agg (aF x1)] ++ n) (.i r)) (h : dJ p f t o = some r) : dB Tryz.prog 109 [.d (.lit a), .i f, .i t, .fn g n] (Z58 a p) (fun r' o' => r' = .tup [] ∧ o' = [.arr a 51 5 (r.map aF)]) := by
 unfold dJ at h;refine iV func109 rfl (rs := []) results109 ntmps109 (Nat.le_of_ble_eq_true rfl) ?_;refine aD (aB (tm (.i f) (to (sar rfl rfl rfl) (ta (.i (w64 (f + 1))) (aC (bF ?_))))));refine bY (S := Int × Z78) [1, 2, 3] (fun s1 => [(0, .d (.lit a)), (8, .i s1.1)]) (fun s1 => [.arr a 51 5 (s1.2.map aF)]) (fun k s1 => cB f t o k s1.1 s1.2) (fun _ => rfl) (w64 (f + 1), p) h (aR [0] rfl rfl (aL rfl (aL rfl (aP ⟨rfl, rfl, rfl, trivial⟩)))) ?_;rintro k2 ⟨j, q⟩ h;simp only [cB] at h;refine aD (aD (aB (tm (.i j) (tm (.i t) (to (scm rfl rfl rfl) (aC ?_))))));refine tih h (fun c3 h => ?_) (fun c3 h => ?_)
 ·refine aV (aD (bF (aD (aB (tm (.i j) (ta (.i j) (aC ?_)))))));refine aBh ?_;refine bY (S := Int × Z78) [1, 2, 3, 8] (fun s4 => [(0, .d (.lit a)), (9, .i s4.1)]) (fun s4 => [.arr a 51 5 (s4.2.map aF)]) (fun k s4 => cO (cB f t o k2) f t o j k s4.1 s4.2) (fun _ => rfl) (j, q) h (aR [0] rfl rfl (aL rfl (aL rfl (aP ⟨rfl, rfl, rfl, rfl, trivial⟩)))) ?_;rintro k5 ⟨c, e⟩ h;simp only [cO] at h;refine aD (aD ?_);obtain ⟨b6, h7, h⟩ := bns h;refine cG mix 17 [0, 1, 2, 3, 8, 9] [(34, .b b6)] ?_ ?_
  ·refine bch h7 (fun c8 h7 => ?_) (fun c8 h7 => ?_)
   ·obtain ⟨x9, A, h7⟩ := bns h7;obtain ⟨B, C, h7⟩ := bns h7;obtain ⟨x, I, h7⟩ := bns h7;obtain rfl := sIn h7;refine ⟨[(18, 0, .i c), (19, 1, .i f), (20, 2, .b (decide (f < c))), (21, 3, .b (decide (f < c))), (22, 4, .fn g n), (23, 5, .d (.lit a)), (24, 6, .i c), (25, 7, .ep a 5 c.toNat 0), (26, 8, .agg (aF x9)), (27, 9, .d (.lit a)), (28, 10, .i c), (29, 11, .i (w64 (c - 1))), (30, 12, .ep a 5 (w64 (c - 1)).toNat 0), (31, 13, .agg (aF B)), (32, 14, .i x), (33, 15, .b (decide (x < 0))), (34, 16, .b (decide (x < 0)))], ?_, ?_⟩
    · exact dk [0, 0, 102, 3, 4, 4, 4, 40607, 408, 4, 4, 411, 41012, 413, 4050914, 415, 416] ⟨go (zm (.i c)),
 go (zm (.i f)),
 go (zcm rfl rfl rfl),
 go (zm (.b (decide (f < c)))),
 gt c8 (zm (.fn g n)),
 gt c8 (zm (Z39 a)),
 gt c8 (zm (.i c)),
 gt c8 (zia 0 rfl rfl rfl cL.of (bC aF A)),
 gt c8 fun S hS => cP (aI rfl) (aT hS rfl) (l := 0) rfl (dN aF A) fF (es := (aF x9)) rfl rfl,
 gt c8 (zm (Z39 a)),
 gt c8 (zm (.i c)),
 gt c8 (zar rfl rfl rfl),
 gt c8 (zia 0 rfl rfl rfl cL.of (bC aF C)),
 gt c8 fun S hS => cP (aI rfl) (aT hS rfl) (l := 0) rfl (dN aF C) fF (es := (aF B)) rfl rfl,
 gt c8 fun S hS => fX (aI rfl) (.clo _ _ _ _ y (aCd hS rfl)) (yN (ev2 (aT hS rfl) (ev2 (aT hS rfl) evn))) rfl (BVs.refl _ _) (z _ _ _  I) rfl,
 gt c8 (zcm rfl rfl rfl),
 go (zpt (.b (decide (x < 0))) c8), trivial⟩
    · exact bP (aL rfl (aP ⟨rfl, rfl, rfl, rfl, rfl, rfl, trivial⟩))
   ·obtain rfl := sIn h7;refine ⟨[(18, 0, .i c), (19, 1, .i f), (20, 2, .b (decide (f < c))), (21, 3, .b (decide (f < c))), (22, 4, .tup []), (23, 5, .tup []), (24, 6, .tup []), (25, 7, .tup []), (26, 8, .tup []), (27, 9, .tup []), (28, 10, .tup []), (29, 11, .tup []), (30, 12, .tup []), (31, 13, .tup []), (32, 14, .tup []), (33, 15, .tup []), (34, 16, .b false)], ?_, ?_⟩
    · exact dk [0, 0, 102, 3, 4, 4, 4, 40607, 408, 4, 4, 411, 41012, 413, 4050914, 415, 416] ⟨go (zm (.i c)),
 go (zm (.i f)),
 go (zcm rfl rfl rfl),
 go (zm (.b (decide (f < c)))),
 gp c8,
 gp c8,
 gp c8,
 gp c8,
 gp c8,
 gp c8,
 gp c8,
 gp c8,
 gp c8,
 gp c8,
 gp c8,
 gp c8,
 go (zpf Z12 c8), trivial⟩
    · exact bP (aL rfl (aP ⟨rfl, rfl, rfl, rfl, rfl, rfl, trivial⟩))
  ·refine aC ?_;refine tih h (fun J h => ?_) (fun J h => ?_)
   ·refine aV (aD (bF ?_));obtain ⟨s, E, h⟩ := bns h;obtain ⟨u, F, h⟩ := bns h;obtain ⟨K, G, h⟩ := bns h;refine jP mix 16 [0, 1, 2, 3, 8, 9] (fun v => [(39, .d (.lit a)), (41, .i (w64 (c - 1))), (50, .agg (aF u))]) (fun v => [.arr a 51 5 ((e.set c.toNat s).map aF)]) ?_ ?_
    ·refine ⟨0, fun v => [(37, 0, .d (.lit a)), (38, 1, .i c), (39, 2, .d (.lit a)), (40, 3, .i c), (41, 4, .i (w64 (c - 1))), (42, 5, .d (.lit a)), (43, 6, .i c), (44, 7, .i (w64 (c - 1))), (45, 8, .ep a 5 (w64 (c - 1)).toNat 0), (46, 9, .agg (aF s)), (47, 10, .d (.lit a)), (48, 11, .i c), (49, 12, .ep a 5 c.toNat 0), (50, 13, .agg (aF u)), (51, 14, .ep a 5 c.toNat 0)], fun v => [([(15, .arr a 51 5 ((e.set c.toNat s).map aF))], .arr a 51 5 (e.map aF))], ?_, ?_⟩
     · exact xok [(0, 16), (0, 16), (0, 0), (0, 0), (4, 0), (0, 16), (0, 16), (7, 16), (608, 16), (9, 16), (0, 16), (0, 16), (1112, 16), (13, 16), (102, 16), (1015, 0)] ⟨fun _ _ w _ k => xp w (ym k (Z39 a)),
 fun _ _ w _ k => xp w (ym k (.i c)),
 fun _ _ w _ k => xp w (ym k (Z39 a)),
 fun _ _ w _ k => xp w (ym k (.i c)),
 fun _ _ w _ k => xp w (yar k rfl rfl rfl),
 fun _ _ w _ k => xp w (ym k (Z39 a)),
 fun _ _ w _ k => xp w (ym k (.i c)),
 fun _ _ w _ k => xp w (yar k rfl rfl rfl),
 fun _ _ w _ k => xp w (yia k 0 rfl (og k rfl rfl) rfl cL.of (bC aF E)),
 fun _ _ w _ k => xp w (cP (aI rfl) (aT k rfl) (l := 0) (og k rfl rfl) (dN aF E) fF (es := (aF s)) rfl rfl),
 fun _ _ w _ k => xp w (ym k (Z39 a)),
 fun _ _ w _ k => xp w (ym k (.i c)),
 fun _ _ w _ k => xp w (yia k 0 rfl (og k rfl rfl) rfl cL.of (bC aF F)),
 fun _ _ w _ k => xp w (cP (aI rfl) (aT k rfl) (l := 0) (og k rfl rfl) (dN aF F) fF (es := (aF u)) rfl rfl),
 fun _ _ w _ k => xp w (yia k 0 rfl (og k rfl rfl) rfl cL.of (bC aF G)),
 fun _ _ _ _ k => xs 0 k rfl rfl (kM (l := 0) (aT k rfl) (og k rfl rfl) (dN aF G) (aT k rfl) rfl rfl sizeOf51 rfl (aI rfl) (Nat.le_of_ble_eq_true rfl) (rows' := ((e.set c.toNat s)).map aF) (oS _ _ _ _ rfl)), trivial⟩
     · exact fun v => bP (aL rfl (aL rfl (aL rfl (aP ⟨rfl, rfl, rfl, rfl, rfl, rfl, trivial⟩))))
    ·intro v;obtain ⟨L, H, h⟩ := bns h;refine to (iX (m := 0) (aI rfl) rfl rfl rfl cL.of (bC aF H)) ?_;refine to (kM (l := 0) rfl rfl (dN aF H) rfl rfl rfl sizeOf51 rfl (aI rfl) (Nat.le_of_ble_eq_true rfl) (rows' := (((e.set c.toNat s).set (w64 (c - 1)).toNat u)).map aF) (oS _ _ _ _ rfl)) ?_;refine cM ?_;refine aB (tm (.i c) (to (sar rfl rfl rfl) (ta (.i (w64 (c - 1))) (aC ?_))));exact ⟨(w64 (c - 1), ((e.set c.toNat s).set (w64 (c - 1)).toNat u)), h, aR [0] rfl rfl (aL rfl (aL rfl (aP ⟨rfl, rfl, rfl, rfl, trivial⟩)))⟩
   ·refine cE ?_;refine .inl ⟨rfl, ?_⟩;simp only [fT] at h;simp only [fS] at h;refine aB (tm (.i j) (to (sar rfl rfl rfl) (ta (.i (w64 (j + 1))) (aC ?_))));exact ⟨(w64 (j + 1), e), h, aR [0] rfl rfl (aL rfl (aL rfl (aP ⟨rfl, rfl, rfl, trivial⟩)))⟩
 ·refine cE ?_;refine .inl ⟨rfl, ?_⟩;simp only [fR] at h;obtain rfl := sIn h;exact ⟨_, [.arr a 51 5 (q.map aF)], [], _, .none, .refl _, .same _, rfl, rfl⟩

theorem kG (j : List aG) (e : Int) (f : Int) (o : Int) (p : aG → aG → Option Int) {r : (List aG)} {a : Value} (g : Nat) (n : List AV) (t : ∀ args w, (callFunc g args).run Tryz.prog w = .ok (.enter g args) w) (u : ∀ (x0 : aG) (x1 : aG) r, p x0 x1 = some r → Fn Tryz.prog g ([.agg (aF x0), .agg (aF x1)] ++ n) (.i r)) (h : dX j e f o p = some r) : dB Tryz.prog 133 [.d (.lit a), .i e, .i f, .i o, .fn g n] (Z58 a j) (fun r' o' => r' = .tup [] ∧ o' = [.arr a 51 5 (r.map aF)]) := by
 unfold dX at h;refine iV func133 rfl (rs := []) results133 ntmps133 (Nat.le_of_ble_eq_true rfl) ?_;refine aD (aB (ta (.i 0) (aC (bF ?_))));refine bY (S := Int × Z78) [1, 2, 3] (fun s1 => [(0, .d (.lit a)), (10, .i s1.1)]) (fun s1 => [.arr a 51 5 (s1.2.map aF)]) (fun k s1 => dM e f o k s1.1 s1.2) (fun _ => rfl) (0, j) h (aR [0] rfl rfl (aL rfl (aL rfl (aP ⟨rfl, rfl, rfl, trivial⟩)))) ?_;rintro k2 ⟨b, c⟩ h;simp only [dM] at h;refine aD (aD (aB (tm (.i b) (tm (.i o) (to (scm rfl rfl rfl) (aC ?_))))));refine tih h (fun c3 h => ?_) (fun c3 h => ?_)
 ·refine aV (aD (bF ?_));obtain ⟨x5, h6, h⟩ := bns h;obtain ⟨x7, h8, h⟩ := bns h;obtain ⟨x9, q, h⟩ := bns h;refine jP mix 22 [0, 1, 2, 3, 10] (fun X4 => [(20, .d (.lit a)), (23, .i (w64 (f + b))), (35, .agg (aF x7))]) (fun X4 => [.arr a 51 5 ((c.set (w64 (e + b)).toNat x5).map aF)]) ?_ ?_
  ·refine ⟨0, fun X4 => [(16, 0, .d (.lit a)), (17, 1, .i e), (18, 2, .i b), (19, 3, .i (w64 (e + b))), (20, 4, .d (.lit a)), (21, 5, .i f), (22, 6, .i b), (23, 7, .i (w64 (f + b))), (24, 8, .d (.lit a)), (25, 9, .i f), (26, 10, .i b), (27, 11, .i (w64 (f + b))), (28, 12, .ep a 5 (w64 (f + b)).toNat 0), (29, 13, .agg (aF x5)), (30, 14, .d (.lit a)), (31, 15, .i e), (32, 16, .i b), (33, 17, .i (w64 (e + b))), (34, 18, .ep a 5 (w64 (e + b)).toNat 0), (35, 19, .agg (aF x7)), (36, 20, .ep a 5 (w64 (e + b)).toNat 0)], fun X4 => [([(21, .arr a 51 5 ((c.set (w64 (e + b)).toNat x5).map aF))], .arr a 51 5 (c.map aF))], ?_, ?_⟩
   · exact xok [(0, 22), (0, 22), (0, 22), (203, 22), (0, 0), (0, 0), (0, 0), (607, 0), (0, 22), (0, 22), (0, 22), (1011, 22), (912, 22), (13, 22), (0, 22), (0, 22), (0, 22), (1617, 22), (1518, 22), (19, 22), (104, 22), (1421, 0)] ⟨fun _ _ w _ k => xp w (ym k (Z39 a)),
 fun _ _ w _ k => xp w (ym k (.i e)),
 fun _ _ w _ k => xp w (ym k (.i b)),
 fun _ _ w _ k => xp w (yar k rfl rfl rfl),
 fun _ _ w _ k => xp w (ym k (Z39 a)),
 fun _ _ w _ k => xp w (ym k (.i f)),
 fun _ _ w _ k => xp w (ym k (.i b)),
 fun _ _ w _ k => xp w (yar k rfl rfl rfl),
 fun _ _ w _ k => xp w (ym k (Z39 a)),
 fun _ _ w _ k => xp w (ym k (.i f)),
 fun _ _ w _ k => xp w (ym k (.i b)),
 fun _ _ w _ k => xp w (yar k rfl rfl rfl),
 fun _ _ w _ k => xp w (yia k 0 rfl (og k rfl rfl) rfl cL.of (bC aF h6)),
 fun _ _ w _ k => xp w (cP (aI rfl) (aT k rfl) (l := 0) (og k rfl rfl) (dN aF h6) fF (es := (aF x5)) rfl rfl),
 fun _ _ w _ k => xp w (ym k (Z39 a)),
 fun _ _ w _ k => xp w (ym k (.i e)),
 fun _ _ w _ k => xp w (ym k (.i b)),
 fun _ _ w _ k => xp w (yar k rfl rfl rfl),
 fun _ _ w _ k => xp w (yia k 0 rfl (og k rfl rfl) rfl cL.of (bC aF h8)),
 fun _ _ w _ k => xp w (cP (aI rfl) (aT k rfl) (l := 0) (og k rfl rfl) (dN aF h8) fF (es := (aF x7)) rfl rfl),
 fun _ _ w _ k => xp w (yia k 0 rfl (og k rfl rfl) rfl cL.of (bC aF q)),
 fun _ _ _ _ k => xs 0 k rfl rfl (kM (l := 0) (aT k rfl) (og k rfl rfl) (dN aF q) (aT k rfl) rfl rfl sizeOf51 rfl (aI rfl) (Nat.le_of_ble_eq_true rfl) (rows' := ((c.set (w64 (e + b)).toNat x5)).map aF) (oS _ _ _ _ rfl)), trivial⟩
   · exact fun X4 => bP (aL rfl (aL rfl (aL rfl (aP ⟨rfl, rfl, rfl, rfl, rfl, trivial⟩))))
  ·intro X4;obtain ⟨v, s, h⟩ := bns h;refine to (iX (m := 0) (aI rfl) rfl rfl rfl cL.of (bC aF s)) ?_;refine to (kM (l := 0) rfl rfl (dN aF s) rfl rfl rfl sizeOf51 rfl (aI rfl) (Nat.le_of_ble_eq_true rfl) (rows' := (((c.set (w64 (e + b)).toNat x5).set (w64 (f + b)).toNat x7)).map aF) (oS _ _ _ _ rfl)) ?_;refine cM ?_;refine aB (tm (.i b) (to (sar rfl rfl rfl) (ta (.i (w64 (b + 1))) (aC ?_))));exact ⟨(w64 (b + 1), ((c.set (w64 (e + b)).toNat x5).set (w64 (f + b)).toNat x7)), h, aR [0] rfl rfl (aL rfl (aL rfl (aP ⟨rfl, rfl, rfl, trivial⟩)))⟩
 ·refine cE ?_;refine .inl ⟨rfl, ?_⟩;simp only [jZ] at h;obtain rfl := sIn h;exact ⟨_, [.arr a 51 5 (c.map aF)], [], _, .none, .refl _, .same _, rfl, rfl⟩

theorem oO (o : List aG) (p : Int) (f : Int) (q : Int) (l : aG → aG → Option Int) {r : (List aG)} {b : Value} (c : Nat) (g : List AV) (m : ∀ args w, (callFunc c args).run Tryz.prog w = .ok (.enter c args) w) (n : ∀ (x0 : aG) (x1 : aG) r, l x0 x1 = some r → Fn Tryz.prog c ([.agg (aF x0), .agg (aF x1)] ++ g) (.i r)) (h : eZ o p f q l = some r) : dB Tryz.prog 122 [.d (.lit b), .i p, .i f, .i q, .fn c g] (Z58 b o) (fun r' o' => r' = .tup [] ∧ o' = [.arr b 51 5 (r.map aF)]) := by
 unfold eZ at h;refine iV func122 rfl (rs := []) results122 ntmps122 (Nat.le_of_ble_eq_true rfl) ?_;refine aD (aB (tm (.i f) (tm (.i p) (to (sar rfl rfl rfl) (ta (.i (w64 (f - p))) (aC (aD (aB (tm (.i q) (tm (.i f) (to (sar rfl rfl rfl) (ta (.i (w64 (q - f))) (aC ?_)))))))))))));refine aD (bF ?_);refine bY (S := Int × Int × Z78) [2, 4] (fun s1 => [(0, .d (.lit b)), (10, .i s1.1), (11, .i s1.2.1)]) (fun s1 => [.arr b 51 5 (s1.2.2.map aF)]) (fun k s1 => cX f l k s1.1 s1.2.1 s1.2.2) (fun _ => rfl) (w64 (f - p), w64 (q - f), o) h (aR [0] rfl rfl (aL rfl (aL rfl (aL rfl (aP ⟨rfl, rfl, trivial⟩))))) ?_;rintro k2 ⟨a, e, j⟩ h;simp only [cX] at h;refine aD (aD (aB (tm (.i a) (tm (.i e) (to (scm rfl rfl rfl) (aC ?_))))));refine tih h (fun c3 h => ?_) (fun c3 h => ?_)
 ·refine aV (bF (aD (aB (tm (.i a) (tm (.i e) (to (scm rfl rfl rfl) (aC ?_)))))));refine tih h (fun c4 h => ?_) (fun c4 h => ?_)
  ·refine aD (aB (tm (Z39 b) (tm (.i f) (tm (.i a) (to (sar rfl rfl rfl) (tm (.i f) (tm (.i e) (tm (.fn c g) ?_))))))));obtain ⟨r5, h6, h⟩ := bns h;refine bA rfl (cU (passed := [.arr b 51 5 (j.map aF)]) (aI rfl) rfl (.func _ _ call133) rfl rfl (kG j (w64 (f - a)) f e l c g m n h6)) ?_;rintro _ ⟨_, _, ⟨rfl, rfl⟩, rfl⟩;refine aC (aB (tm (.i a) (tm (.i e) (to (sar rfl rfl rfl) (ta (.i (w64 (a - e))) ?_)))));refine cM ?_;exact ⟨(w64 (a - e), e, r5), h, aR [0] rfl rfl (aL rfl (aL rfl (aL rfl (aP ⟨rfl, rfl, trivial⟩))))⟩
  ·refine aD (aB (tm (Z39 b) (tm (.i f) (tm (.i a) (to (sar rfl rfl rfl) (tm (.i f) (tm (.i e) (to (sar rfl rfl rfl) (tm (.i a) (to (sar rfl rfl rfl) (tm (.i a) (tm (.fn c g) ?_))))))))))));obtain ⟨r7, h8, h⟩ := bns h;refine bA rfl (cU (passed := [.arr b 51 5 (j.map aF)]) (aI rfl) rfl (.func _ _ call133) rfl rfl (kG j (w64 (f - a)) (w64 ((w64 (f + e)) - a)) a l c g m n h8)) ?_;rintro _ ⟨_, _, ⟨rfl, rfl⟩, rfl⟩;refine aC (aB (tm (.i e) (tm (.i a) (to (sar rfl rfl rfl) (ta (.i (w64 (e - a))) ?_)))));refine cM ?_;exact ⟨(a, w64 (e - a), r7), h, aR [0] rfl rfl (aL rfl (aL rfl (aL rfl (aP ⟨rfl, rfl, trivial⟩))))⟩
 ·refine cE ?_;refine .inl ⟨rfl, ?_⟩;simp only [kT] at h;refine aB (tm (Z39 b) (tm (.i f) (tm (.i a) (to (sar rfl rfl rfl) (tm (.i f) (tm (.i a) (tm (.fn c g) ?_)))))));obtain ⟨r9, s, h⟩ := bns h;refine bA rfl (cU (passed := [.arr b 51 5 (j.map aF)]) (aI rfl) rfl (.func _ _ call133) rfl rfl (kG j (w64 (f - a)) f a l c g m n s)) ?_;rintro _ ⟨_, _, ⟨rfl, rfl⟩, rfl⟩;refine aC ?_;obtain rfl := sIn h;exact ⟨_, [.arr b 51 5 (r9.map aF)], [], _, .none, .refl _, .same _, rfl, rfl⟩

theorem sT (z : aG → aG → Option Int) (n : Nat) (o : List AV) (E : ∀ args w, (callFunc n args).run Tryz.prog w = .ok (.enter n args) w) (F : ∀ (x0 : aG) (x1 : aG) r, z x0 x1 = some r → Fn Tryz.prog n ([.agg (aF x0), .agg (aF x1)] ++ o) (.i r)) (kr : Nat) : ∀ (p : List aG) (g : Int) (j : Int) (f : Int) {r : Z78} {a : Value} (_h : aX z kr p g j f = some r), dB Tryz.prog 110 [.d (.lit a), .i g, .i j, .i f, .fn n o] [.arr a 51 5 (p.map aF)] (fun r' o' => r' = .tup [] ∧ o' = [.arr a 51 5 (r.map aF)]) := by
  induction kr with
  | zero => intros; rename_i h; cases h
  | succ kr ih =>
    intro p g j f r a h;simp only [aX] at h;refine iV func110 rfl (rs := []) results110 ntmps110 (Nat.le_of_ble_eq_true rfl) ?_;refine aD (aD (aB (tm (.i j) (tm (.i g) (to (sar rfl rfl rfl) (to (scm rfl rfl rfl) (aC ?_)))))));refine tih h (fun c1 h => ?_) (fun c1 h => ?_)
    ·refine aD (aB (tm (.i j) (ta (.i j) (aC (aD (aB (tm (.i f) (ta (.i f) (aC (aD (bF ?_)))))))))));refine bY (S := Int × Int) [0, 1, 4] (fun s2 => [(10, .i s2.1), (11, .i s2.2)]) (fun s2 => [.arr a 51 5 (p.map aF)]) (fun k s2 => cH (aX z kr) g z p k s2.1 s2.2) (fun _ => rfl) (j, f) h (aR [0] rfl rfl (aL rfl (aL rfl (aP ⟨rfl, rfl, rfl, trivial⟩)))) ?_;rintro k3 ⟨y, C⟩ h;simp only [cH] at h;refine aD (aD (aB (tm (.i y) (tm (.i C) (to (scm rfl rfl rfl) (aC ?_))))));refine tih h (fun c4 h => ?_) (fun c4 h => ?_)
     ·refine aV (bF (aD (aB (tm (.i y) (tm (.i C) (to (sar rfl rfl rfl) (to (sQ (aI rfl) rfl runUnderlying3 runUnderlying112) ?_)))))));refine to (aHy (aI rfl) rfl rfl (by decide)) ?_;refine to (sQ (aI rfl) rfl runUnderlying112 runUnderlying3) ?_;refine ta (.i (w64 ((uw (w64 (y + C))).fdiv (2 ^ Z4)))) (aC (aD ?_));obtain ⟨x5, h6, h⟩ := bns h;obtain ⟨x7, h8, h⟩ := bns h;refine cG mix 9 [0, 1, 4, 10, 11, 12] [(40, .fn n o), (44, .agg (aF x5)), (48, .agg (aF x7))] ?_ ?_
      ·refine ⟨[(40, 0, .fn n o), (41, 1, .d (.lit a)), (42, 2, .i (w64 ((uw (w64 (y + C))).fdiv (2 ^ Z4)))), (43, 3, .ep a 5 (w64 ((uw (w64 (y + C))).fdiv (2 ^ Z4))).toNat 0), (44, 4, .agg (aF x5)), (45, 5, .d (.lit a)), (46, 6, .i g), (47, 7, .ep a 5 g.toNat 0), (48, 8, .agg (aF x7))], ?_, ?_⟩
       · exact dk [0, 0, 0, 203, 4, 0, 0, 607, 8] ⟨go (zm (.fn n o)),
 go (zm (.d (.lit a))),
 go (zm (.i (w64 ((uw (w64 (y + C))).fdiv (2 ^ Z4))))),
 go (zia 0 rfl rfl rfl cL.of (bC aF h6)),
 go fun S hS => cP (aI rfl) (aT hS rfl) (l := 0) rfl (dN aF h6) fF (es := (aF x5)) rfl rfl,
 go (zm (.d (.lit a))),
 go (zm (.i g)),
 go (zia 0 rfl rfl rfl cL.of (bC aF h8)),
 go fun S hS => cP (aI rfl) (aT hS rfl) (l := 0) rfl (dN aF h8) fF (es := (aF x7)) rfl rfl, trivial⟩
       · exact bP (aL rfl (aL rfl (aL rfl (aP ⟨rfl, rfl, rfl, rfl, rfl, rfl, trivial⟩))))
      ·obtain ⟨r9, h9, h⟩ := bns h;refine to (fX (aI rfl) (.clo _ _ _ _ E rfl) (yN rfl) rfl (BVs.refl _ _) (F _ _ _  h9) rfl) ?_;refine to (scm rfl rfl rfl) (aC ?_);refine tih h (fun i0 h => ?_) (fun i0 h => ?_)
       ·refine aB (tm (.i (w64 ((uw (w64 (y + C))).fdiv (2 ^ Z4)))) (to (sar rfl rfl rfl) (ta (.i (w64 ((w64 ((uw (w64 (y + C))).fdiv (2 ^ Z4))) + 1))) ?_)));refine cM ?_;exact ⟨(w64 ((w64 ((uw (w64 (y + C))).fdiv (2 ^ Z4))) + 1), C), h, aR [0] rfl rfl (aL rfl (aL rfl (aP ⟨rfl, rfl, rfl, trivial⟩)))⟩
       ·refine aB (tm (.i (w64 ((uw (w64 (y + C))).fdiv (2 ^ Z4)))) (ta (.i (w64 ((uw (w64 (y + C))).fdiv (2 ^ Z4)))) ?_));refine cM ?_;exact ⟨(y, w64 ((uw (w64 (y + C))).fdiv (2 ^ Z4))), h, aR [0] rfl rfl (aL rfl (aL rfl (aP ⟨rfl, rfl, rfl, trivial⟩)))⟩
     ·refine cE ?_;refine .inl ⟨rfl, ?_⟩;simp only [iE] at h;refine aD (aD (aB (tm (.i g) (ta (.i g) (aC (bF ?_))))));refine bY (S := Int × Z78) [10] (fun a7 => [(0, .d (.lit a)), (13, .i a7.1)]) (fun a7 => [.arr a 51 5 (a7.2.map aF)]) (fun k a7 => dO (aX z kr) y k a7.1 a7.2) (fun _ => rfl) (g, p) h (aR [0] rfl rfl (aL rfl (aL rfl (aP ⟨rfl, trivial⟩)))) ?_;rintro l9 ⟨q, A⟩ h;simp only [dO] at h;refine aD (aD (aB (tm (.i q) (tm (.i y) (to (sar rfl rfl rfl) (to (scm rfl rfl rfl) (aC ?_)))))));refine tih h (fun i1 h => ?_) (fun i1 h => ?_)
      ·refine aV (aD (bF ?_));obtain ⟨X, d7, h⟩ := bns h;obtain ⟨b1, d8, h⟩ := bns h;obtain ⟨m0, d9, h⟩ := bns h;refine jP mix 16 [0, 10, 13] (fun b2 => [(63, .d (.lit a)), (65, .i (w64 (q + 1))), (74, .agg (aF b1))]) (fun b2 => [.arr a 51 5 ((A.set q.toNat X).map aF)]) ?_ ?_
       ·refine ⟨0, fun b2 => [(61, 0, .d (.lit a)), (62, 1, .i q), (63, 2, .d (.lit a)), (64, 3, .i q), (65, 4, .i (w64 (q + 1))), (66, 5, .d (.lit a)), (67, 6, .i q), (68, 7, .i (w64 (q + 1))), (69, 8, .ep a 5 (w64 (q + 1)).toNat 0), (70, 9, .agg (aF X)), (71, 10, .d (.lit a)), (72, 11, .i q), (73, 12, .ep a 5 q.toNat 0), (74, 13, .agg (aF b1)), (75, 14, .ep a 5 q.toNat 0)], fun b2 => [([(15, .arr a 51 5 ((A.set q.toNat X).map aF))], .arr a 51 5 (A.map aF))], ?_, ?_⟩
        · exact xok [(0, 16), (0, 16), (0, 0), (0, 0), (4, 0), (0, 16), (0, 16), (7, 16), (608, 16), (9, 16), (0, 16), (0, 16), (1112, 16), (13, 16), (102, 16), (1015, 0)] ⟨fun _ _ w _ k => xp w (ym k (.d (.lit a))),
 fun _ _ w _ k => xp w (ym k (.i q)),
 fun _ _ w _ k => xp w (ym k (.d (.lit a))),
 fun _ _ w _ k => xp w (ym k (.i q)),
 fun _ _ w _ k => xp w (yar k rfl rfl rfl),
 fun _ _ w _ k => xp w (ym k (.d (.lit a))),
 fun _ _ w _ k => xp w (ym k (.i q)),
 fun _ _ w _ k => xp w (yar k rfl rfl rfl),
 fun _ _ w _ k => xp w (yia k 0 rfl (og k rfl rfl) rfl cL.of (bC aF d7)),
 fun _ _ w _ k => xp w (cP (aI rfl) (aT k rfl) (l := 0) (og k rfl rfl) (dN aF d7) fF (es := (aF X)) rfl rfl),
 fun _ _ w _ k => xp w (ym k (.d (.lit a))),
 fun _ _ w _ k => xp w (ym k (.i q)),
 fun _ _ w _ k => xp w (yia k 0 rfl (og k rfl rfl) rfl cL.of (bC aF d8)),
 fun _ _ w _ k => xp w (cP (aI rfl) (aT k rfl) (l := 0) (og k rfl rfl) (dN aF d8) fF (es := (aF b1)) rfl rfl),
 fun _ _ w _ k => xp w (yia k 0 rfl (og k rfl rfl) rfl cL.of (bC aF d9)),
 fun _ _ _ _ k => xs 0 k rfl rfl (kM (l := 0) (aT k rfl) (og k rfl rfl) (dN aF d9) (aT k rfl) rfl rfl sizeOf51 rfl (aI rfl) (Nat.le_of_ble_eq_true rfl) (rows' := ((A.set q.toNat X)).map aF) (oS _ _ _ _ rfl)), trivial⟩
        · exact fun b2 => bP (aL rfl (aL rfl (aL rfl (aP ⟨rfl, rfl, rfl, trivial⟩))))
       ·intro b2;obtain ⟨m1, e0, h⟩ := bns h;refine to (iX (m := 0) (aI rfl) rfl rfl rfl cL.of (bC aF e0)) ?_;refine to (kM (l := 0) rfl rfl (dN aF e0) rfl rfl rfl sizeOf51 rfl (aI rfl) (Nat.le_of_ble_eq_true rfl) (rows' := (((A.set q.toNat X).set (w64 (q + 1)).toNat b1)).map aF) (oS _ _ _ _ rfl)) ?_;refine cM ?_;refine aB (tm (.i q) (to (sar rfl rfl rfl) (ta (.i (w64 (q + 1))) (aC ?_))));exact ⟨(w64 (q + 1), ((A.set q.toNat X).set (w64 (q + 1)).toNat b1)), h, aR [0] rfl rfl (aL rfl (aL rfl (aP ⟨rfl, trivial⟩)))⟩
      ·refine cE ?_;refine .inl ⟨rfl, ?_⟩;simp only [kH] at h;obtain rfl := sIn h;exact cS ⟨rfl, _, [.arr a 51 5 (A.map aF)], [], _, .none, .refl _, .same _, rfl, rfl⟩
    ·refine aV (aD (aD (aB (tm (.i f) (tm (.i j) (to (sar rfl rfl rfl) (to (scm rfl rfl rfl) (aC ?_))))))));refine tih h (fun i2 h => ?_) (fun i2 h => ?_)
     ·refine aD (aB (tm (.i g) (ta (.i g) (aC (aD (aB (tm (.i j) (ta (.i j) (aC (aD (bF ?_)))))))))));refine bY (S := Int × Int) [0, 2, 4] (fun a8 => [(14, .i a8.1), (15, .i a8.2)]) (fun a8 => [.arr a 51 5 (p.map aF)]) (fun k a8 => cI (aX z kr) j z p k a8.1 a8.2) (fun _ => rfl) (g, j) h (aR [0] rfl rfl (aL rfl (aL rfl (aP ⟨rfl, rfl, rfl, trivial⟩)))) ?_;rintro m2 ⟨v, x⟩ h;simp only [cI] at h;refine aD (aD (aB (tm (.i v) (tm (.i x) (to (scm rfl rfl rfl) (aC ?_))))));refine tih h (fun i3 h => ?_) (fun i3 h => ?_)
      ·refine aV (bF (aD (aB (tm (.i v) (tm (.i x) (to (sar rfl rfl rfl) (to (sQ (aI rfl) rfl runUnderlying3 runUnderlying112) ?_)))))));refine to (aHy (aI rfl) rfl rfl (by decide)) ?_;refine to (sQ (aI rfl) rfl runUnderlying112 runUnderlying3) ?_;refine ta (.i (w64 ((uw (w64 (v + x))).fdiv (2 ^ Z4)))) (aC (aD ?_));obtain ⟨c9, e1, h⟩ := bns h;obtain ⟨d0, e2, h⟩ := bns h;refine cG mix 9 [0, 2, 4, 14, 15, 16] [(92, .fn n o), (96, .agg (aF c9)), (100, .agg (aF d0))] ?_ ?_
       ·refine ⟨[(92, 0, .fn n o), (93, 1, .d (.lit a)), (94, 2, .i j), (95, 3, .ep a 5 j.toNat 0), (96, 4, .agg (aF c9)), (97, 5, .d (.lit a)), (98, 6, .i (w64 ((uw (w64 (v + x))).fdiv (2 ^ Z4)))), (99, 7, .ep a 5 (w64 ((uw (w64 (v + x))).fdiv (2 ^ Z4))).toNat 0), (100, 8, .agg (aF d0))], ?_, ?_⟩
        · exact dk [0, 0, 0, 203, 4, 0, 0, 607, 8] ⟨go (zm (.fn n o)),
 go (zm (.d (.lit a))),
 go (zm (.i j)),
 go (zia 0 rfl rfl rfl cL.of (bC aF e1)),
 go fun S hS => cP (aI rfl) (aT hS rfl) (l := 0) rfl (dN aF e1) fF (es := (aF c9)) rfl rfl,
 go (zm (.d (.lit a))),
 go (zm (.i (w64 ((uw (w64 (v + x))).fdiv (2 ^ Z4))))),
 go (zia 0 rfl rfl rfl cL.of (bC aF e2)),
 go fun S hS => cP (aI rfl) (aT hS rfl) (l := 0) rfl (dN aF e2) fF (es := (aF d0)) rfl rfl, trivial⟩
        · exact bP (aL rfl (aL rfl (aL rfl (aP ⟨rfl, rfl, rfl, rfl, rfl, rfl, trivial⟩))))
       ·obtain ⟨m3, i4, h⟩ := bns h;refine to (fX (aI rfl) (.clo _ _ _ _ E rfl) (yN rfl) rfl (BVs.refl _ _) (F _ _ _  i4) rfl) ?_;refine to (scm rfl rfl rfl) (to (sn rfl) (aC ?_));refine tih h (fun i5 h => ?_) (fun i5 h => ?_)
        ·refine aB (tm (.i (w64 ((uw (w64 (v + x))).fdiv (2 ^ Z4)))) (to (sar rfl rfl rfl) (ta (.i (w64 ((w64 ((uw (w64 (v + x))).fdiv (2 ^ Z4))) + 1))) ?_)));refine cM ?_;exact ⟨(w64 ((w64 ((uw (w64 (v + x))).fdiv (2 ^ Z4))) + 1), x), h, aR [0] rfl rfl (aL rfl (aL rfl (aP ⟨rfl, rfl, rfl, trivial⟩)))⟩
        ·refine aB (tm (.i (w64 ((uw (w64 (v + x))).fdiv (2 ^ Z4)))) (ta (.i (w64 ((uw (w64 (v + x))).fdiv (2 ^ Z4)))) ?_));refine cM ?_;exact ⟨(v, w64 ((uw (w64 (v + x))).fdiv (2 ^ Z4))), h, aR [0] rfl rfl (aL rfl (aL rfl (aP ⟨rfl, rfl, rfl, trivial⟩)))⟩
      ·refine cE ?_;refine .inl ⟨rfl, ?_⟩;simp only [iF] at h;refine aD (aD (aB (tm (.i j) (ta (.i j) (aC (bF ?_))))));refine bY (S := Int × Z78) [14] (fun a9 => [(0, .d (.lit a)), (17, .i a9.1)]) (fun a9 => [.arr a 51 5 (a9.2.map aF)]) (fun k a9 => dP (aX z kr) v k a9.1 a9.2) (fun _ => rfl) (j, p) h (aR [0] rfl rfl (aL rfl (aL rfl (aP ⟨rfl, trivial⟩)))) ?_;rintro m4 ⟨s, B⟩ h;simp only [dP] at h;refine aD (aD (aB (tm (.i s) (tm (.i v) (to (scm rfl rfl rfl) (aC ?_))))));refine tih h (fun i6 h => ?_) (fun i6 h => ?_)
       ·refine aV (aD (bF ?_));obtain ⟨Y, e3, h⟩ := bns h;obtain ⟨b3, e4, h⟩ := bns h;obtain ⟨m5, e5, h⟩ := bns h;refine jP mix 16 [0, 14, 17] (fun b4 => [(115, .d (.lit a)), (117, .i (w64 (s - 1))), (126, .agg (aF b3))]) (fun b4 => [.arr a 51 5 ((B.set s.toNat Y).map aF)]) ?_ ?_
        ·refine ⟨0, fun b4 => [(113, 0, .d (.lit a)), (114, 1, .i s), (115, 2, .d (.lit a)), (116, 3, .i s), (117, 4, .i (w64 (s - 1))), (118, 5, .d (.lit a)), (119, 6, .i s), (120, 7, .i (w64 (s - 1))), (121, 8, .ep a 5 (w64 (s - 1)).toNat 0), (122, 9, .agg (aF Y)), (123, 10, .d (.lit a)), (124, 11, .i s), (125, 12, .ep a 5 s.toNat 0), (126, 13, .agg (aF b3)), (127, 14, .ep a 5 s.toNat 0)], fun b4 => [([(15, .arr a 51 5 ((B.set s.toNat Y).map aF))], .arr a 51 5 (B.map aF))], ?_, ?_⟩
         · exact xok [(0, 16), (0, 16), (0, 0), (0, 0), (4, 0), (0, 16), (0, 16), (7, 16), (608, 16), (9, 16), (0, 16), (0, 16), (1112, 16), (13, 16), (102, 16), (1015, 0)] ⟨fun _ _ w _ k => xp w (ym k (.d (.lit a))),
 fun _ _ w _ k => xp w (ym k (.i s)),
 fun _ _ w _ k => xp w (ym k (.d (.lit a))),
 fun _ _ w _ k => xp w (ym k (.i s)),
 fun _ _ w _ k => xp w (yar k rfl rfl rfl),
 fun _ _ w _ k => xp w (ym k (.d (.lit a))),
 fun _ _ w _ k => xp w (ym k (.i s)),
 fun _ _ w _ k => xp w (yar k rfl rfl rfl),
 fun _ _ w _ k => xp w (yia k 0 rfl (og k rfl rfl) rfl cL.of (bC aF e3)),
 fun _ _ w _ k => xp w (cP (aI rfl) (aT k rfl) (l := 0) (og k rfl rfl) (dN aF e3) fF (es := (aF Y)) rfl rfl),
 fun _ _ w _ k => xp w (ym k (.d (.lit a))),
 fun _ _ w _ k => xp w (ym k (.i s)),
 fun _ _ w _ k => xp w (yia k 0 rfl (og k rfl rfl) rfl cL.of (bC aF e4)),
 fun _ _ w _ k => xp w (cP (aI rfl) (aT k rfl) (l := 0) (og k rfl rfl) (dN aF e4) fF (es := (aF b3)) rfl rfl),
 fun _ _ w _ k => xp w (yia k 0 rfl (og k rfl rfl) rfl cL.of (bC aF e5)),
 fun _ _ _ _ k => xs 0 k rfl rfl (kM (l := 0) (aT k rfl) (og k rfl rfl) (dN aF e5) (aT k rfl) rfl rfl sizeOf51 rfl (aI rfl) (Nat.le_of_ble_eq_true rfl) (rows' := ((B.set s.toNat Y)).map aF) (oS _ _ _ _ rfl)), trivial⟩
         · exact fun b4 => bP (aL rfl (aL rfl (aL rfl (aP ⟨rfl, rfl, rfl, trivial⟩))))
        ·intro b4;obtain ⟨m6, e6, h⟩ := bns h;refine to (iX (m := 0) (aI rfl) rfl rfl rfl cL.of (bC aF e6)) ?_;refine to (kM (l := 0) rfl rfl (dN aF e6) rfl rfl rfl sizeOf51 rfl (aI rfl) (Nat.le_of_ble_eq_true rfl) (rows' := (((B.set s.toNat Y).set (w64 (s - 1)).toNat b3)).map aF) (oS _ _ _ _ rfl)) ?_;refine cM ?_;refine aB (tm (.i s) (to (sar rfl rfl rfl) (ta (.i (w64 (s - 1))) (aC ?_))));exact ⟨(w64 (s - 1), ((B.set s.toNat Y).set (w64 (s - 1)).toNat b3)), h, aR [0] rfl rfl (aL rfl (aL rfl (aP ⟨rfl, trivial⟩)))⟩
       ·refine cE ?_;refine .inl ⟨rfl, ?_⟩;simp only [kI] at h;obtain rfl := sIn h;exact cS ⟨rfl, _, [.arr a 51 5 (B.map aF)], [], _, .none, .refl _, .same _, rfl, rfl⟩
     ·refine aV (aD (aB (tm (.i g) (tm (.i f) (to (sar rfl rfl rfl) (to (sQ (aI rfl) rfl runUnderlying3 runUnderlying112) ?_))))));refine to (aHy (aI rfl) rfl rfl (by decide)) ?_;refine to (sQ (aI rfl) rfl runUnderlying112 runUnderlying3) ?_;refine ta (.i (w64 ((uw (w64 (g + f))).fdiv (2 ^ Z4)))) (aC (aD (aB (tm (.i (w64 ((uw (w64 (g + f))).fdiv (2 ^ Z4)))) (tm (.i j) (to (sar rfl rfl rfl) (ta (.i (w64 ((w64 ((uw (w64 (g + f))).fdiv (2 ^ Z4))) + j))) (aC (aD (aB (ta (.i 0) (ta (.i 0) (aC ?_)))))))))))));refine aD (aD (aB (tm (.i j) (tm (.i (w64 ((uw (w64 (g + f))).fdiv (2 ^ Z4)))) (to (scm rfl rfl rfl) (aC ?_))))));refine tih h (fun i7 h => ?_) (fun i7 h => ?_)
      ·refine aD (aB (tm (.i (w64 ((w64 ((uw (w64 (g + f))).fdiv (2 ^ Z4))) + j))) (tm (.i f) (to (sar rfl rfl rfl) (ta (.i (w64 ((w64 ((w64 ((uw (w64 (g + f))).fdiv (2 ^ Z4))) + j)) - f))) (aC (aB (tm (.i (w64 ((uw (w64 (g + f))).fdiv (2 ^ Z4)))) (ta (.i (w64 ((uw (w64 (g + f))).fdiv (2 ^ Z4)))) (aC (aD (aB (tm (.i (w64 ((w64 ((uw (w64 (g + f))).fdiv (2 ^ Z4))) + j))) ?_)))))))))))));refine to (sar rfl rfl rfl) (ta (.i (w64 ((w64 ((w64 ((uw (w64 (g + f))).fdiv (2 ^ Z4))) + j)) - 1))) (aC (aD (bF ?_))));refine bY (S := Int × Int) [0, 1, 2, 3, 4, 18, 19, 22] (fun b0 => [(20, .i b0.1), (21, .i b0.2)]) (fun b0 => [.arr a 51 5 (p.map aF)]) (fun k b0 => bT (aX z kr) g j f z (w64 ((uw (w64 (g + f))).fdiv (2 ^ Z4))) (w64 ((w64 ((uw (w64 (g + f))).fdiv (2 ^ Z4))) + j)) (w64 ((w64 ((w64 ((uw (w64 (g + f))).fdiv (2 ^ Z4))) + j)) - 1)) p k b0.1 b0.2) (fun _ => rfl) (w64 ((w64 ((w64 ((uw (w64 (g + f))).fdiv (2 ^ Z4))) + j)) - f), w64 ((uw (w64 (g + f))).fdiv (2 ^ Z4))) h (aR [0] rfl rfl (aL rfl (aL rfl (aP ⟨rfl, rfl, rfl, rfl, rfl, rfl, rfl, rfl, trivial⟩)))) ?_;rintro m7 ⟨e, u⟩ h;simp only [bT] at h;refine aD (aD (aB (tm (.i e) (tm (.i u) (to (scm rfl rfl rfl) (aC ?_))))));refine tih h (fun i8 h => ?_) (fun i8 h => ?_)
       ·refine aV (bF (aD (aB (tm (.i e) (tm (.i u) (to (sar rfl rfl rfl) (to (sQ (aI rfl) rfl runUnderlying3 runUnderlying112) ?_)))))));refine to (aHy (aI rfl) rfl rfl (by decide)) ?_;refine to (sQ (aI rfl) rfl runUnderlying112 runUnderlying3) ?_;refine ta (.i (w64 ((uw (w64 (e + u))).fdiv (2 ^ Z4)))) (aC (aD ?_));obtain ⟨d1, e7, h⟩ := bns h;obtain ⟨d2, e8, h⟩ := bns h;refine cG mix 11 [0, 1, 2, 3, 4, 18, 19, 20, 21, 22, 23] [(158, .fn n o), (164, .agg (aF d1)), (168, .agg (aF d2))] ?_ ?_
        ·refine ⟨[(158, 0, .fn n o), (159, 1, .d (.lit a)), (160, 2, .i (w64 ((w64 ((w64 ((uw (w64 (g + f))).fdiv (2 ^ Z4))) + j)) - 1))), (161, 3, .i (w64 ((uw (w64 (e + u))).fdiv (2 ^ Z4)))), (162, 4, .i (w64 ((w64 ((w64 ((w64 ((uw (w64 (g + f))).fdiv (2 ^ Z4))) + j)) - 1)) - (w64 ((uw (w64 (e + u))).fdiv (2 ^ Z4)))))), (163, 5, .ep a 5 (w64 ((w64 ((w64 ((w64 ((uw (w64 (g + f))).fdiv (2 ^ Z4))) + j)) - 1)) - (w64 ((uw (w64 (e + u))).fdiv (2 ^ Z4))))).toNat 0), (164, 6, .agg (aF d1)), (165, 7, .d (.lit a)), (166, 8, .i (w64 ((uw (w64 (e + u))).fdiv (2 ^ Z4)))), (167, 9, .ep a 5 (w64 ((uw (w64 (e + u))).fdiv (2 ^ Z4))).toNat 0), (168, 10, .agg (aF d2))], ?_, ?_⟩
         · exact dk [0, 0, 0, 0, 304, 205, 6, 0, 0, 809, 10] ⟨go (zm (.fn n o)),
 go (zm (.d (.lit a))),
 go (zm (.i (w64 ((w64 ((w64 ((uw (w64 (g + f))).fdiv (2 ^ Z4))) + j)) - 1)))),
 go (zm (.i (w64 ((uw (w64 (e + u))).fdiv (2 ^ Z4))))),
 go (zar rfl rfl rfl),
 go (zia 0 rfl rfl rfl cL.of (bC aF e7)),
 go fun S hS => cP (aI rfl) (aT hS rfl) (l := 0) rfl (dN aF e7) fF (es := (aF d1)) rfl rfl,
 go (zm (.d (.lit a))),
 go (zm (.i (w64 ((uw (w64 (e + u))).fdiv (2 ^ Z4))))),
 go (zia 0 rfl rfl rfl cL.of (bC aF e8)),
 go fun S hS => cP (aI rfl) (aT hS rfl) (l := 0) rfl (dN aF e8) fF (es := (aF d2)) rfl rfl, trivial⟩
         · exact bP (aL rfl (aL rfl (aL rfl (aP ⟨rfl, rfl, rfl, rfl, rfl, rfl, rfl, rfl, rfl, rfl, rfl, trivial⟩))))
        ·obtain ⟨m8, i9, h⟩ := bns h;refine to (fX (aI rfl) (.clo _ _ _ _ E rfl) (yN rfl) rfl (BVs.refl _ _) (F _ _ _  i9) rfl) ?_;refine to (scm rfl rfl rfl) (to (sn rfl) (aC ?_));refine tih h (fun j0 h => ?_) (fun j0 h => ?_)
         ·refine aB (tm (.i (w64 ((uw (w64 (e + u))).fdiv (2 ^ Z4)))) (to (sar rfl rfl rfl) (ta (.i (w64 ((w64 ((uw (w64 (e + u))).fdiv (2 ^ Z4))) + 1))) ?_)));refine cM ?_;exact ⟨(w64 ((w64 ((uw (w64 (e + u))).fdiv (2 ^ Z4))) + 1), u), h, aR [0] rfl rfl (aL rfl (aL rfl (aP ⟨rfl, rfl, rfl, rfl, rfl, rfl, rfl, rfl, trivial⟩)))⟩
         ·refine aB (tm (.i (w64 ((uw (w64 (e + u))).fdiv (2 ^ Z4)))) (ta (.i (w64 ((uw (w64 (e + u))).fdiv (2 ^ Z4)))) ?_));refine cM ?_;exact ⟨(e, w64 ((uw (w64 (e + u))).fdiv (2 ^ Z4))), h, aR [0] rfl rfl (aL rfl (aL rfl (aP ⟨rfl, rfl, rfl, rfl, rfl, rfl, rfl, rfl, trivial⟩)))⟩
       ·refine cE ?_;refine .inl ⟨rfl, ?_⟩;simp only [dC] at h;refine aD (aB (tm (.i (w64 ((w64 ((uw (w64 (g + f))).fdiv (2 ^ Z4))) + j))) (tm (.i e) (to (sar rfl rfl rfl) (ta (.i (w64 ((w64 ((w64 ((uw (w64 (g + f))).fdiv (2 ^ Z4))) + j)) - e))) (aC (aD (aD (aB (tm (.i e) (tm (.i j) (to (scm rfl rfl rfl) (tm (.b (decide (e < j))) ?_)))))))))))));obtain ⟨j1, b5, h⟩ := bns h;refine aZ 4 [0, 1, 2, 3, 4, 18, 20, 24] 185 j1 ?_ ?_
        ·refine bch b5 (fun N b5 => ?_) (fun N b5 => ?_)
         ·refine tk N (sm (.i j)) (tk N (sm (.i (w64 ((w64 ((w64 ((uw (w64 (g + f))).fdiv (2 ^ Z4))) + j)) - e)))) (tk N (scm rfl rfl rfl) (to (spt (.b (decide (j < (w64 ((w64 ((w64 ((uw (w64 (g + f))).fdiv (2 ^ Z4))) + j)) - e))))) N) ?_)));obtain rfl := sIn b5;refine aC (aQ rfl ⟨rfl, rfl, rfl, rfl, rfl, rfl, rfl, rfl, trivial⟩ rfl)
         ·refine tp N (tp N (tp N (to (spf Z12 N) ?_)));obtain rfl := sIn b5;refine aC (aQ rfl ⟨rfl, rfl, rfl, rfl, rfl, rfl, rfl, rfl, trivial⟩ rfl)
        ·refine aC ?_;refine tih h (fun j2 h => ?_) (fun j2 h => ?_)
         ·refine aB (tm (.d (.lit a)) (tm (.i e) (tm (.i j) (tm (.i (w64 ((w64 ((w64 ((uw (w64 (g + f))).fdiv (2 ^ Z4))) + j)) - e))) (tm (.fn n o) ?_)))));obtain ⟨b6, j3, h⟩ := bns h;refine bA rfl (cU (passed := [.arr a 51 5 (p.map aF)]) (aI rfl) rfl (.func _ _ call122) rfl rfl (oO p e j (w64 ((w64 ((w64 ((uw (w64 (g + f))).fdiv (2 ^ Z4))) + j)) - e)) z n o E F j3)) ?_;rintro _ ⟨_, _, ⟨rfl, rfl⟩, rfl⟩;refine aC (aD (aD (aB (tm (.i g) (tm (.i e) (to (scm rfl rfl rfl) (tm (.b (decide (g < e))) ?_)))))));obtain ⟨j4, b7, h⟩ := bns h;refine aZ 4 [0, 1, 3, 4, 18, 20, 24] 199 j4 ?_ ?_
          ·refine bch b7 (fun O b7 => ?_) (fun O b7 => ?_)
           ·refine tk O (sm (.i e)) (tk O (sm (.i (w64 ((uw (w64 (g + f))).fdiv (2 ^ Z4))))) (tk O (scm rfl rfl rfl) (to (spt (.b (decide (e < (w64 ((uw (w64 (g + f))).fdiv (2 ^ Z4)))))) O) ?_)));obtain rfl := sIn b7;refine aC (aQ rfl ⟨rfl, rfl, rfl, rfl, rfl, rfl, rfl, trivial⟩ rfl)
           ·refine tp O (tp O (tp O (to (spf Z12 O) ?_)));obtain rfl := sIn b7;refine aC (aQ rfl ⟨rfl, rfl, rfl, rfl, rfl, rfl, rfl, trivial⟩ rfl)
          ·refine aC ?_;refine tih h (fun j5 h => ?_) (fun j5 h => ?_)
           ·refine aB (tm (.d (.lit a)) (tm (.i g) (tm (.i e) (tm (.i (w64 ((uw (w64 (g + f))).fdiv (2 ^ Z4)))) (tm (.fn n o) ?_)))));obtain ⟨d3, j6, h⟩ := bns h;refine bA rfl (cU (passed := [.arr a 51 5 (b6.map aF)]) (aI rfl) rfl (.func _ _ call110) rfl rfl (ih b6 g e (w64 ((uw (w64 (g + f))).fdiv (2 ^ Z4))) j6)) ?_;rintro _ ⟨_, _, ⟨rfl, rfl⟩, rfl⟩;refine aC (aD (aB (tm (.i (w64 ((uw (w64 (g + f))).fdiv (2 ^ Z4)))) (tm (.i (w64 ((w64 ((w64 ((uw (w64 (g + f))).fdiv (2 ^ Z4))) + j)) - e))) (to (scm rfl rfl rfl) (tm (.b (decide ((w64 ((uw (w64 (g + f))).fdiv (2 ^ Z4))) < (w64 ((w64 ((w64 ((uw (w64 (g + f))).fdiv (2 ^ Z4))) + j)) - e))))) ?_))))));obtain ⟨j7, b8, h⟩ := bns h;refine aZ 4 [0, 3, 4, 18, 24] 213 j7 ?_ ?_
            ·refine bch b8 (fun P b8 => ?_) (fun P b8 => ?_)
             ·refine tk P (sm (.i (w64 ((w64 ((w64 ((uw (w64 (g + f))).fdiv (2 ^ Z4))) + j)) - e)))) (tk P (sm (.i f)) (tk P (scm rfl rfl rfl) (to (spt (.b (decide ((w64 ((w64 ((w64 ((uw (w64 (g + f))).fdiv (2 ^ Z4))) + j)) - e)) < f))) P) ?_)));obtain rfl := sIn b8;refine aC (aQ rfl ⟨rfl, rfl, rfl, rfl, rfl, trivial⟩ rfl)
             ·refine tp P (tp P (tp P (to (spf Z12 P) ?_)));obtain rfl := sIn b8;refine aC (aQ rfl ⟨rfl, rfl, rfl, rfl, rfl, trivial⟩ rfl)
            ·refine aC ?_;refine tih h (fun j8 h => ?_) (fun j8 h => ?_)
             ·refine aB (tm (.d (.lit a)) (tm (.i (w64 ((uw (w64 (g + f))).fdiv (2 ^ Z4)))) (tm (.i (w64 ((w64 ((w64 ((uw (w64 (g + f))).fdiv (2 ^ Z4))) + j)) - e))) (tm (.i f) (tm (.fn n o) ?_)))));obtain ⟨j9, k0, h⟩ := bns h;refine bA rfl (cU (passed := [.arr a 51 5 (d3.map aF)]) (aI rfl) rfl (.func _ _ call110) rfl rfl (ih d3 (w64 ((uw (w64 (g + f))).fdiv (2 ^ Z4))) (w64 ((w64 ((w64 ((uw (w64 (g + f))).fdiv (2 ^ Z4))) + j)) - e)) f k0)) ?_;rintro _ ⟨_, _, ⟨rfl, rfl⟩, rfl⟩;refine aC ?_;obtain rfl := sIn h;exact ⟨_, [.arr a 51 5 (j9.map aF)], [], _, .none, .refl _, .same _, rfl, rfl⟩
             ·refine aV ?_;obtain rfl := sIn h;exact ⟨_, [.arr a 51 5 (d3.map aF)], [], _, .none, .refl _, .same _, rfl, rfl⟩
           ·refine aV (aD (aB (tm (.i (w64 ((uw (w64 (g + f))).fdiv (2 ^ Z4)))) (tm (.i (w64 ((w64 ((w64 ((uw (w64 (g + f))).fdiv (2 ^ Z4))) + j)) - e))) (to (scm rfl rfl rfl) (tm (.b (decide ((w64 ((uw (w64 (g + f))).fdiv (2 ^ Z4))) < (w64 ((w64 ((w64 ((uw (w64 (g + f))).fdiv (2 ^ Z4))) + j)) - e))))) ?_))))));obtain ⟨k1, b9, h⟩ := bns h;refine aZ 4 [0, 3, 4, 18, 24] 213 k1 ?_ ?_
            ·refine bch b9 (fun Q b9 => ?_) (fun Q b9 => ?_)
             ·refine tk Q (sm (.i (w64 ((w64 ((w64 ((uw (w64 (g + f))).fdiv (2 ^ Z4))) + j)) - e)))) (tk Q (sm (.i f)) (tk Q (scm rfl rfl rfl) (to (spt (.b (decide ((w64 ((w64 ((w64 ((uw (w64 (g + f))).fdiv (2 ^ Z4))) + j)) - e)) < f))) Q) ?_)));obtain rfl := sIn b9;refine aC (aQ rfl ⟨rfl, rfl, rfl, rfl, rfl, trivial⟩ rfl)
             ·refine tp Q (tp Q (tp Q (to (spf Z12 Q) ?_)));obtain rfl := sIn b9;refine aC (aQ rfl ⟨rfl, rfl, rfl, rfl, rfl, trivial⟩ rfl)
            ·refine aC ?_;refine tih h (fun k2 h => ?_) (fun k2 h => ?_)
             ·refine aB (tm (.d (.lit a)) (tm (.i (w64 ((uw (w64 (g + f))).fdiv (2 ^ Z4)))) (tm (.i (w64 ((w64 ((w64 ((uw (w64 (g + f))).fdiv (2 ^ Z4))) + j)) - e))) (tm (.i f) (tm (.fn n o) ?_)))));obtain ⟨k4, k5, h⟩ := bns h;refine bA rfl (cU (passed := [.arr a 51 5 (b6.map aF)]) (aI rfl) rfl (.func _ _ call110) rfl rfl (ih b6 (w64 ((uw (w64 (g + f))).fdiv (2 ^ Z4))) (w64 ((w64 ((w64 ((uw (w64 (g + f))).fdiv (2 ^ Z4))) + j)) - e)) f k5)) ?_;rintro _ ⟨_, _, ⟨rfl, rfl⟩, rfl⟩;refine aC ?_;obtain rfl := sIn h;exact ⟨_, [.arr a 51 5 (k4.map aF)], [], _, .none, .refl _, .same _, rfl, rfl⟩
             ·refine aV ?_;obtain rfl := sIn h;exact ⟨_, [.arr a 51 5 (b6.map aF)], [], _, .none, .refl _, .same _, rfl, rfl⟩
         ·refine aV (aD (aD (aB (tm (.i g) (tm (.i e) (to (scm rfl rfl rfl) (tm (.b (decide (g < e))) ?_)))))));obtain ⟨k6, c0, h⟩ := bns h;refine aZ 4 [0, 1, 3, 4, 18, 20, 24] 199 k6 ?_ ?_
          ·refine bch c0 (fun T c0 => ?_) (fun T c0 => ?_)
           ·refine tk T (sm (.i e)) (tk T (sm (.i (w64 ((uw (w64 (g + f))).fdiv (2 ^ Z4))))) (tk T (scm rfl rfl rfl) (to (spt (.b (decide (e < (w64 ((uw (w64 (g + f))).fdiv (2 ^ Z4)))))) T) ?_)));obtain rfl := sIn c0;refine aC (aQ rfl ⟨rfl, rfl, rfl, rfl, rfl, rfl, rfl, trivial⟩ rfl)
           ·refine tp T (tp T (tp T (to (spf Z12 T) ?_)));obtain rfl := sIn c0;refine aC (aQ rfl ⟨rfl, rfl, rfl, rfl, rfl, rfl, rfl, trivial⟩ rfl)
          ·refine aC ?_;refine tih h (fun k7 h => ?_) (fun k7 h => ?_)
           ·refine aB (tm (.d (.lit a)) (tm (.i g) (tm (.i e) (tm (.i (w64 ((uw (w64 (g + f))).fdiv (2 ^ Z4)))) (tm (.fn n o) ?_)))));obtain ⟨d4, k8, h⟩ := bns h;refine bA rfl (cU (passed := [.arr a 51 5 (p.map aF)]) (aI rfl) rfl (.func _ _ call110) rfl rfl (ih p g e (w64 ((uw (w64 (g + f))).fdiv (2 ^ Z4))) k8)) ?_;rintro _ ⟨_, _, ⟨rfl, rfl⟩, rfl⟩;refine aC (aD (aB (tm (.i (w64 ((uw (w64 (g + f))).fdiv (2 ^ Z4)))) (tm (.i (w64 ((w64 ((w64 ((uw (w64 (g + f))).fdiv (2 ^ Z4))) + j)) - e))) (to (scm rfl rfl rfl) (tm (.b (decide ((w64 ((uw (w64 (g + f))).fdiv (2 ^ Z4))) < (w64 ((w64 ((w64 ((uw (w64 (g + f))).fdiv (2 ^ Z4))) + j)) - e))))) ?_))))));obtain ⟨k9, c2, h⟩ := bns h;refine aZ 4 [0, 3, 4, 18, 24] 213 k9 ?_ ?_
            ·refine bch c2 (fun U c2 => ?_) (fun U c2 => ?_)
             ·refine tk U (sm (.i (w64 ((w64 ((w64 ((uw (w64 (g + f))).fdiv (2 ^ Z4))) + j)) - e)))) (tk U (sm (.i f)) (tk U (scm rfl rfl rfl) (to (spt (.b (decide ((w64 ((w64 ((w64 ((uw (w64 (g + f))).fdiv (2 ^ Z4))) + j)) - e)) < f))) U) ?_)));obtain rfl := sIn c2;refine aC (aQ rfl ⟨rfl, rfl, rfl, rfl, rfl, trivial⟩ rfl)
             ·refine tp U (tp U (tp U (to (spf Z12 U) ?_)));obtain rfl := sIn c2;refine aC (aQ rfl ⟨rfl, rfl, rfl, rfl, rfl, trivial⟩ rfl)
            ·refine aC ?_;refine tih h (fun l0 h => ?_) (fun l0 h => ?_)
             ·refine aB (tm (.d (.lit a)) (tm (.i (w64 ((uw (w64 (g + f))).fdiv (2 ^ Z4)))) (tm (.i (w64 ((w64 ((w64 ((uw (w64 (g + f))).fdiv (2 ^ Z4))) + j)) - e))) (tm (.i f) (tm (.fn n o) ?_)))));obtain ⟨l1, l2, h⟩ := bns h;refine bA rfl (cU (passed := [.arr a 51 5 (d4.map aF)]) (aI rfl) rfl (.func _ _ call110) rfl rfl (ih d4 (w64 ((uw (w64 (g + f))).fdiv (2 ^ Z4))) (w64 ((w64 ((w64 ((uw (w64 (g + f))).fdiv (2 ^ Z4))) + j)) - e)) f l2)) ?_;rintro _ ⟨_, _, ⟨rfl, rfl⟩, rfl⟩;refine aC ?_;obtain rfl := sIn h;exact ⟨_, [.arr a 51 5 (l1.map aF)], [], _, .none, .refl _, .same _, rfl, rfl⟩
             ·refine aV ?_;obtain rfl := sIn h;exact ⟨_, [.arr a 51 5 (d4.map aF)], [], _, .none, .refl _, .same _, rfl, rfl⟩
           ·refine aV (aD (aB (tm (.i (w64 ((uw (w64 (g + f))).fdiv (2 ^ Z4)))) (tm (.i (w64 ((w64 ((w64 ((uw (w64 (g + f))).fdiv (2 ^ Z4))) + j)) - e))) (to (scm rfl rfl rfl) (tm (.b (decide ((w64 ((uw (w64 (g + f))).fdiv (2 ^ Z4))) < (w64 ((w64 ((w64 ((uw (w64 (g + f))).fdiv (2 ^ Z4))) + j)) - e))))) ?_))))));obtain ⟨l3, c3, h⟩ := bns h;refine aZ 4 [0, 3, 4, 18, 24] 213 l3 ?_ ?_
            ·refine bch c3 (fun V c3 => ?_) (fun V c3 => ?_)
             ·refine tk V (sm (.i (w64 ((w64 ((w64 ((uw (w64 (g + f))).fdiv (2 ^ Z4))) + j)) - e)))) (tk V (sm (.i f)) (tk V (scm rfl rfl rfl) (to (spt (.b (decide ((w64 ((w64 ((w64 ((uw (w64 (g + f))).fdiv (2 ^ Z4))) + j)) - e)) < f))) V) ?_)));obtain rfl := sIn c3;refine aC (aQ rfl ⟨rfl, rfl, rfl, rfl, rfl, trivial⟩ rfl)
             ·refine tp V (tp V (tp V (to (spf Z12 V) ?_)));obtain rfl := sIn c3;refine aC (aQ rfl ⟨rfl, rfl, rfl, rfl, rfl, trivial⟩ rfl)
            ·refine aC ?_;refine tih h (fun l4 h => ?_) (fun l4 h => ?_)
             ·refine aB (tm (.d (.lit a)) (tm (.i (w64 ((uw (w64 (g + f))).fdiv (2 ^ Z4)))) (tm (.i (w64 ((w64 ((w64 ((uw (w64 (g + f))).fdiv (2 ^ Z4))) + j)) - e))) (tm (.i f) (tm (.fn n o) ?_)))));obtain ⟨l5, l6, h⟩ := bns h;refine bA rfl (cU (passed := [.arr a 51 5 (p.map aF)]) (aI rfl) rfl (.func _ _ call110) rfl rfl (ih p (w64 ((uw (w64 (g + f))).fdiv (2 ^ Z4))) (w64 ((w64 ((w64 ((uw (w64 (g + f))).fdiv (2 ^ Z4))) + j)) - e)) f l6)) ?_;rintro _ ⟨_, _, ⟨rfl, rfl⟩, rfl⟩;refine aC ?_;obtain rfl := sIn h;exact ⟨_, [.arr a 51 5 (l5.map aF)], [], _, .none, .refl _, .same _, rfl, rfl⟩
             ·refine aV ?_;obtain rfl := sIn h;exact ⟨_, [.arr a 51 5 (p.map aF)], [], _, .none, .refl _, .same _, rfl, rfl⟩
      ·refine aD (aB (tm (.i g) (ta (.i g) (aC (aB (tm (.i j) (ta (.i j) (aC (aD (aB (tm (.i (w64 ((w64 ((uw (w64 (g + f))).fdiv (2 ^ Z4))) + j))) (to (sar rfl rfl rfl) (ta (.i (w64 ((w64 ((w64 ((uw (w64 (g + f))).fdiv (2 ^ Z4))) + j)) - 1))) ?_)))))))))))));refine aC (aD (bF ?_));refine bY (S := Int × Int) [0, 1, 2, 3, 4, 18, 19, 22] (fun W => [(20, .i W.1), (21, .i W.2)]) (fun W => [.arr a 51 5 (p.map aF)]) (fun k W => bT (aX z kr) g j f z (w64 ((uw (w64 (g + f))).fdiv (2 ^ Z4))) (w64 ((w64 ((uw (w64 (g + f))).fdiv (2 ^ Z4))) + j)) (w64 ((w64 ((w64 ((uw (w64 (g + f))).fdiv (2 ^ Z4))) + j)) - 1)) p k W.1 W.2) (fun _ => rfl) (g, j) h (aR [0] rfl rfl (aL rfl (aL rfl (aP ⟨rfl, rfl, rfl, rfl, rfl, rfl, rfl, rfl, trivial⟩)))) ?_;rintro l7 ⟨c, t⟩ h;simp only [bT] at h;refine aD (aD (aB (tm (.i c) (tm (.i t) (to (scm rfl rfl rfl) (aC ?_))))));refine tih h (fun e9 h => ?_) (fun e9 h => ?_)
       ·refine aV (bF (aD (aB (tm (.i c) (tm (.i t) (to (sar rfl rfl rfl) (to (sQ (aI rfl) rfl runUnderlying3 runUnderlying112) ?_)))))));refine to (aHy (aI rfl) rfl rfl (by decide)) ?_;refine to (sQ (aI rfl) rfl runUnderlying112 runUnderlying3) ?_;refine ta (.i (w64 ((uw (w64 (c + t))).fdiv (2 ^ Z4)))) (aC (aD ?_));obtain ⟨c5, d5, h⟩ := bns h;obtain ⟨c6, d6, h⟩ := bns h;refine cG mix 11 [0, 1, 2, 3, 4, 18, 19, 20, 21, 22, 23] [(158, .fn n o), (164, .agg (aF c5)), (168, .agg (aF c6))] ?_ ?_
        ·refine ⟨[(158, 0, .fn n o), (159, 1, .d (.lit a)), (160, 2, .i (w64 ((w64 ((w64 ((uw (w64 (g + f))).fdiv (2 ^ Z4))) + j)) - 1))), (161, 3, .i (w64 ((uw (w64 (c + t))).fdiv (2 ^ Z4)))), (162, 4, .i (w64 ((w64 ((w64 ((w64 ((uw (w64 (g + f))).fdiv (2 ^ Z4))) + j)) - 1)) - (w64 ((uw (w64 (c + t))).fdiv (2 ^ Z4)))))), (163, 5, .ep a 5 (w64 ((w64 ((w64 ((w64 ((uw (w64 (g + f))).fdiv (2 ^ Z4))) + j)) - 1)) - (w64 ((uw (w64 (c + t))).fdiv (2 ^ Z4))))).toNat 0), (164, 6, .agg (aF c5)), (165, 7, .d (.lit a)), (166, 8, .i (w64 ((uw (w64 (c + t))).fdiv (2 ^ Z4)))), (167, 9, .ep a 5 (w64 ((uw (w64 (c + t))).fdiv (2 ^ Z4))).toNat 0), (168, 10, .agg (aF c6))], ?_, ?_⟩
         · exact dk [0, 0, 0, 0, 304, 205, 6, 0, 0, 809, 10] ⟨go (zm (.fn n o)),
 go (zm (.d (.lit a))),
 go (zm (.i (w64 ((w64 ((w64 ((uw (w64 (g + f))).fdiv (2 ^ Z4))) + j)) - 1)))),
 go (zm (.i (w64 ((uw (w64 (c + t))).fdiv (2 ^ Z4))))),
 go (zar rfl rfl rfl),
 go (zia 0 rfl rfl rfl cL.of (bC aF d5)),
 go fun S hS => cP (aI rfl) (aT hS rfl) (l := 0) rfl (dN aF d5) fF (es := (aF c5)) rfl rfl,
 go (zm (.d (.lit a))),
 go (zm (.i (w64 ((uw (w64 (c + t))).fdiv (2 ^ Z4))))),
 go (zia 0 rfl rfl rfl cL.of (bC aF d6)),
 go fun S hS => cP (aI rfl) (aT hS rfl) (l := 0) rfl (dN aF d6) fF (es := (aF c6)) rfl rfl, trivial⟩
         · exact bP (aL rfl (aL rfl (aL rfl (aP ⟨rfl, rfl, rfl, rfl, rfl, rfl, rfl, rfl, rfl, rfl, rfl, trivial⟩))))
        ·obtain ⟨l8, f0, h⟩ := bns h;refine to (fX (aI rfl) (.clo _ _ _ _ E rfl) (yN rfl) rfl (BVs.refl _ _) (F _ _ _  f0) rfl) ?_;refine to (scm rfl rfl rfl) (to (sn rfl) (aC ?_));refine tih h (fun f1 h => ?_) (fun f1 h => ?_)
         ·refine aB (tm (.i (w64 ((uw (w64 (c + t))).fdiv (2 ^ Z4)))) (to (sar rfl rfl rfl) (ta (.i (w64 ((w64 ((uw (w64 (c + t))).fdiv (2 ^ Z4))) + 1))) ?_)));refine cM ?_;exact ⟨(w64 ((w64 ((uw (w64 (c + t))).fdiv (2 ^ Z4))) + 1), t), h, aR [0] rfl rfl (aL rfl (aL rfl (aP ⟨rfl, rfl, rfl, rfl, rfl, rfl, rfl, rfl, trivial⟩)))⟩
         ·refine aB (tm (.i (w64 ((uw (w64 (c + t))).fdiv (2 ^ Z4)))) (ta (.i (w64 ((uw (w64 (c + t))).fdiv (2 ^ Z4)))) ?_));refine cM ?_;exact ⟨(c, w64 ((uw (w64 (c + t))).fdiv (2 ^ Z4))), h, aR [0] rfl rfl (aL rfl (aL rfl (aP ⟨rfl, rfl, rfl, rfl, rfl, rfl, rfl, rfl, trivial⟩)))⟩
       ·refine cE ?_;refine .inl ⟨rfl, ?_⟩;simp only [dC] at h;refine aD (aB (tm (.i (w64 ((w64 ((uw (w64 (g + f))).fdiv (2 ^ Z4))) + j))) (tm (.i c) (to (sar rfl rfl rfl) (ta (.i (w64 ((w64 ((w64 ((uw (w64 (g + f))).fdiv (2 ^ Z4))) + j)) - c))) (aC (aD (aD (aB (tm (.i c) (tm (.i j) (to (scm rfl rfl rfl) (tm (.b (decide (c < j))) ?_)))))))))))));obtain ⟨f2, Z, h⟩ := bns h;refine aZ 4 [0, 1, 2, 3, 4, 18, 20, 24] 185 f2 ?_ ?_
        ·refine bch Z (fun G Z => ?_) (fun G Z => ?_)
         ·refine tk G (sm (.i j)) (tk G (sm (.i (w64 ((w64 ((w64 ((uw (w64 (g + f))).fdiv (2 ^ Z4))) + j)) - c)))) (tk G (scm rfl rfl rfl) (to (spt (.b (decide (j < (w64 ((w64 ((w64 ((uw (w64 (g + f))).fdiv (2 ^ Z4))) + j)) - c))))) G) ?_)));obtain rfl := sIn Z;refine aC (aQ rfl ⟨rfl, rfl, rfl, rfl, rfl, rfl, rfl, rfl, trivial⟩ rfl)
         ·refine tp G (tp G (tp G (to (spf Z12 G) ?_)));obtain rfl := sIn Z;refine aC (aQ rfl ⟨rfl, rfl, rfl, rfl, rfl, rfl, rfl, rfl, trivial⟩ rfl)
        ·refine aC ?_;refine tih h (fun f3 h => ?_) (fun f3 h => ?_)
         ·refine aB (tm (.d (.lit a)) (tm (.i c) (tm (.i j) (tm (.i (w64 ((w64 ((w64 ((uw (w64 (g + f))).fdiv (2 ^ Z4))) + j)) - c))) (tm (.fn n o) ?_)))));obtain ⟨a0, f4, h⟩ := bns h;refine bA rfl (cU (passed := [.arr a 51 5 (p.map aF)]) (aI rfl) rfl (.func _ _ call122) rfl rfl (oO p c j (w64 ((w64 ((w64 ((uw (w64 (g + f))).fdiv (2 ^ Z4))) + j)) - c)) z n o E F f4)) ?_;rintro _ ⟨_, _, ⟨rfl, rfl⟩, rfl⟩;refine aC (aD (aD (aB (tm (.i g) (tm (.i c) (to (scm rfl rfl rfl) (tm (.b (decide (g < c))) ?_)))))));obtain ⟨f5, a1, h⟩ := bns h;refine aZ 4 [0, 1, 3, 4, 18, 20, 24] 199 f5 ?_ ?_
          ·refine bch a1 (fun H a1 => ?_) (fun H a1 => ?_)
           ·refine tk H (sm (.i c)) (tk H (sm (.i (w64 ((uw (w64 (g + f))).fdiv (2 ^ Z4))))) (tk H (scm rfl rfl rfl) (to (spt (.b (decide (c < (w64 ((uw (w64 (g + f))).fdiv (2 ^ Z4)))))) H) ?_)));obtain rfl := sIn a1;refine aC (aQ rfl ⟨rfl, rfl, rfl, rfl, rfl, rfl, rfl, trivial⟩ rfl)
           ·refine tp H (tp H (tp H (to (spf Z12 H) ?_)));obtain rfl := sIn a1;refine aC (aQ rfl ⟨rfl, rfl, rfl, rfl, rfl, rfl, rfl, trivial⟩ rfl)
          ·refine aC ?_;refine tih h (fun f6 h => ?_) (fun f6 h => ?_)
           ·refine aB (tm (.d (.lit a)) (tm (.i g) (tm (.i c) (tm (.i (w64 ((uw (w64 (g + f))).fdiv (2 ^ Z4)))) (tm (.fn n o) ?_)))));obtain ⟨c7, f7, h⟩ := bns h;refine bA rfl (cU (passed := [.arr a 51 5 (a0.map aF)]) (aI rfl) rfl (.func _ _ call110) rfl rfl (ih a0 g c (w64 ((uw (w64 (g + f))).fdiv (2 ^ Z4))) f7)) ?_;rintro _ ⟨_, _, ⟨rfl, rfl⟩, rfl⟩;refine aC (aD (aB (tm (.i (w64 ((uw (w64 (g + f))).fdiv (2 ^ Z4)))) (tm (.i (w64 ((w64 ((w64 ((uw (w64 (g + f))).fdiv (2 ^ Z4))) + j)) - c))) (to (scm rfl rfl rfl) (tm (.b (decide ((w64 ((uw (w64 (g + f))).fdiv (2 ^ Z4))) < (w64 ((w64 ((w64 ((uw (w64 (g + f))).fdiv (2 ^ Z4))) + j)) - c))))) ?_))))));obtain ⟨f8, a2, h⟩ := bns h;refine aZ 4 [0, 3, 4, 18, 24] 213 f8 ?_ ?_
            ·refine bch a2 (fun I a2 => ?_) (fun I a2 => ?_)
             ·refine tk I (sm (.i (w64 ((w64 ((w64 ((uw (w64 (g + f))).fdiv (2 ^ Z4))) + j)) - c)))) (tk I (sm (.i f)) (tk I (scm rfl rfl rfl) (to (spt (.b (decide ((w64 ((w64 ((w64 ((uw (w64 (g + f))).fdiv (2 ^ Z4))) + j)) - c)) < f))) I) ?_)));obtain rfl := sIn a2;refine aC (aQ rfl ⟨rfl, rfl, rfl, rfl, rfl, trivial⟩ rfl)
             ·refine tp I (tp I (tp I (to (spf Z12 I) ?_)));obtain rfl := sIn a2;refine aC (aQ rfl ⟨rfl, rfl, rfl, rfl, rfl, trivial⟩ rfl)
            ·refine aC ?_;refine tih h (fun f9 h => ?_) (fun f9 h => ?_)
             ·refine aB (tm (.d (.lit a)) (tm (.i (w64 ((uw (w64 (g + f))).fdiv (2 ^ Z4)))) (tm (.i (w64 ((w64 ((w64 ((uw (w64 (g + f))).fdiv (2 ^ Z4))) + j)) - c))) (tm (.i f) (tm (.fn n o) ?_)))));obtain ⟨g0, g1, h⟩ := bns h;refine bA rfl (cU (passed := [.arr a 51 5 (c7.map aF)]) (aI rfl) rfl (.func _ _ call110) rfl rfl (ih c7 (w64 ((uw (w64 (g + f))).fdiv (2 ^ Z4))) (w64 ((w64 ((w64 ((uw (w64 (g + f))).fdiv (2 ^ Z4))) + j)) - c)) f g1)) ?_;rintro _ ⟨_, _, ⟨rfl, rfl⟩, rfl⟩;refine aC ?_;obtain rfl := sIn h;exact ⟨_, [.arr a 51 5 (g0.map aF)], [], _, .none, .refl _, .same _, rfl, rfl⟩
             ·refine aV ?_;obtain rfl := sIn h;exact ⟨_, [.arr a 51 5 (c7.map aF)], [], _, .none, .refl _, .same _, rfl, rfl⟩
           ·refine aV (aD (aB (tm (.i (w64 ((uw (w64 (g + f))).fdiv (2 ^ Z4)))) (tm (.i (w64 ((w64 ((w64 ((uw (w64 (g + f))).fdiv (2 ^ Z4))) + j)) - c))) (to (scm rfl rfl rfl) (tm (.b (decide ((w64 ((uw (w64 (g + f))).fdiv (2 ^ Z4))) < (w64 ((w64 ((w64 ((uw (w64 (g + f))).fdiv (2 ^ Z4))) + j)) - c))))) ?_))))));obtain ⟨g2, a3, h⟩ := bns h;refine aZ 4 [0, 3, 4, 18, 24] 213 g2 ?_ ?_
            ·refine bch a3 (fun J a3 => ?_) (fun J a3 => ?_)
             ·refine tk J (sm (.i (w64 ((w64 ((w64 ((uw (w64 (g + f))).fdiv (2 ^ Z4))) + j)) - c)))) (tk J (sm (.i f)) (tk J (scm rfl rfl rfl) (to (spt (.b (decide ((w64 ((w64 ((w64 ((uw (w64 (g + f))).fdiv (2 ^ Z4))) + j)) - c)) < f))) J) ?_)));obtain rfl := sIn a3;refine aC (aQ rfl ⟨rfl, rfl, rfl, rfl, rfl, trivial⟩ rfl)
             ·refine tp J (tp J (tp J (to (spf Z12 J) ?_)));obtain rfl := sIn a3;refine aC (aQ rfl ⟨rfl, rfl, rfl, rfl, rfl, trivial⟩ rfl)
            ·refine aC ?_;refine tih h (fun g3 h => ?_) (fun g3 h => ?_)
             ·refine aB (tm (.d (.lit a)) (tm (.i (w64 ((uw (w64 (g + f))).fdiv (2 ^ Z4)))) (tm (.i (w64 ((w64 ((w64 ((uw (w64 (g + f))).fdiv (2 ^ Z4))) + j)) - c))) (tm (.i f) (tm (.fn n o) ?_)))));obtain ⟨g4, g5, h⟩ := bns h;refine bA rfl (cU (passed := [.arr a 51 5 (a0.map aF)]) (aI rfl) rfl (.func _ _ call110) rfl rfl (ih a0 (w64 ((uw (w64 (g + f))).fdiv (2 ^ Z4))) (w64 ((w64 ((w64 ((uw (w64 (g + f))).fdiv (2 ^ Z4))) + j)) - c)) f g5)) ?_;rintro _ ⟨_, _, ⟨rfl, rfl⟩, rfl⟩;refine aC ?_;obtain rfl := sIn h;exact ⟨_, [.arr a 51 5 (g4.map aF)], [], _, .none, .refl _, .same _, rfl, rfl⟩
             ·refine aV ?_;obtain rfl := sIn h;exact ⟨_, [.arr a 51 5 (a0.map aF)], [], _, .none, .refl _, .same _, rfl, rfl⟩
         ·refine aV (aD (aD (aB (tm (.i g) (tm (.i c) (to (scm rfl rfl rfl) (tm (.b (decide (g < c))) ?_)))))));obtain ⟨g6, a4, h⟩ := bns h;refine aZ 4 [0, 1, 3, 4, 18, 20, 24] 199 g6 ?_ ?_
          ·refine bch a4 (fun K a4 => ?_) (fun K a4 => ?_)
           ·refine tk K (sm (.i c)) (tk K (sm (.i (w64 ((uw (w64 (g + f))).fdiv (2 ^ Z4))))) (tk K (scm rfl rfl rfl) (to (spt (.b (decide (c < (w64 ((uw (w64 (g + f))).fdiv (2 ^ Z4)))))) K) ?_)));obtain rfl := sIn a4;refine aC (aQ rfl ⟨rfl, rfl, rfl, rfl, rfl, rfl, rfl, trivial⟩ rfl)
           ·refine tp K (tp K (tp K (to (spf Z12 K) ?_)));obtain rfl := sIn a4;refine aC (aQ rfl ⟨rfl, rfl, rfl, rfl, rfl, rfl, rfl, trivial⟩ rfl)
          ·refine aC ?_;refine tih h (fun g7 h => ?_) (fun g7 h => ?_)
           ·refine aB (tm (.d (.lit a)) (tm (.i g) (tm (.i c) (tm (.i (w64 ((uw (w64 (g + f))).fdiv (2 ^ Z4)))) (tm (.fn n o) ?_)))));obtain ⟨c8, g8, h⟩ := bns h;refine bA rfl (cU (passed := [.arr a 51 5 (p.map aF)]) (aI rfl) rfl (.func _ _ call110) rfl rfl (ih p g c (w64 ((uw (w64 (g + f))).fdiv (2 ^ Z4))) g8)) ?_;rintro _ ⟨_, _, ⟨rfl, rfl⟩, rfl⟩;refine aC (aD (aB (tm (.i (w64 ((uw (w64 (g + f))).fdiv (2 ^ Z4)))) (tm (.i (w64 ((w64 ((w64 ((uw (w64 (g + f))).fdiv (2 ^ Z4))) + j)) - c))) (to (scm rfl rfl rfl) (tm (.b (decide ((w64 ((uw (w64 (g + f))).fdiv (2 ^ Z4))) < (w64 ((w64 ((w64 ((uw (w64 (g + f))).fdiv (2 ^ Z4))) + j)) - c))))) ?_))))));obtain ⟨g9, a5, h⟩ := bns h;refine aZ 4 [0, 3, 4, 18, 24] 213 g9 ?_ ?_
            ·refine bch a5 (fun L a5 => ?_) (fun L a5 => ?_)
             ·refine tk L (sm (.i (w64 ((w64 ((w64 ((uw (w64 (g + f))).fdiv (2 ^ Z4))) + j)) - c)))) (tk L (sm (.i f)) (tk L (scm rfl rfl rfl) (to (spt (.b (decide ((w64 ((w64 ((w64 ((uw (w64 (g + f))).fdiv (2 ^ Z4))) + j)) - c)) < f))) L) ?_)));obtain rfl := sIn a5;refine aC (aQ rfl ⟨rfl, rfl, rfl, rfl, rfl, trivial⟩ rfl)
             ·refine tp L (tp L (tp L (to (spf Z12 L) ?_)));obtain rfl := sIn a5;refine aC (aQ rfl ⟨rfl, rfl, rfl, rfl, rfl, trivial⟩ rfl)
            ·refine aC ?_;refine tih h (fun h0 h => ?_) (fun h0 h => ?_)
             ·refine aB (tm (.d (.lit a)) (tm (.i (w64 ((uw (w64 (g + f))).fdiv (2 ^ Z4)))) (tm (.i (w64 ((w64 ((w64 ((uw (w64 (g + f))).fdiv (2 ^ Z4))) + j)) - c))) (tm (.i f) (tm (.fn n o) ?_)))));obtain ⟨h1, h2, h⟩ := bns h;refine bA rfl (cU (passed := [.arr a 51 5 (c8.map aF)]) (aI rfl) rfl (.func _ _ call110) rfl rfl (ih c8 (w64 ((uw (w64 (g + f))).fdiv (2 ^ Z4))) (w64 ((w64 ((w64 ((uw (w64 (g + f))).fdiv (2 ^ Z4))) + j)) - c)) f h2)) ?_;rintro _ ⟨_, _, ⟨rfl, rfl⟩, rfl⟩;refine aC ?_;obtain rfl := sIn h;exact ⟨_, [.arr a 51 5 (h1.map aF)], [], _, .none, .refl _, .same _, rfl, rfl⟩
             ·refine aV ?_;obtain rfl := sIn h;exact ⟨_, [.arr a 51 5 (c8.map aF)], [], _, .none, .refl _, .same _, rfl, rfl⟩
           ·refine aV (aD (aB (tm (.i (w64 ((uw (w64 (g + f))).fdiv (2 ^ Z4)))) (tm (.i (w64 ((w64 ((w64 ((uw (w64 (g + f))).fdiv (2 ^ Z4))) + j)) - c))) (to (scm rfl rfl rfl) (tm (.b (decide ((w64 ((uw (w64 (g + f))).fdiv (2 ^ Z4))) < (w64 ((w64 ((w64 ((uw (w64 (g + f))).fdiv (2 ^ Z4))) + j)) - c))))) ?_))))));obtain ⟨h3, a6, h⟩ := bns h;refine aZ 4 [0, 3, 4, 18, 24] 213 h3 ?_ ?_
            ·refine bch a6 (fun M a6 => ?_) (fun M a6 => ?_)
             ·refine tk M (sm (.i (w64 ((w64 ((w64 ((uw (w64 (g + f))).fdiv (2 ^ Z4))) + j)) - c)))) (tk M (sm (.i f)) (tk M (scm rfl rfl rfl) (to (spt (.b (decide ((w64 ((w64 ((w64 ((uw (w64 (g + f))).fdiv (2 ^ Z4))) + j)) - c)) < f))) M) ?_)));obtain rfl := sIn a6;refine aC (aQ rfl ⟨rfl, rfl, rfl, rfl, rfl, trivial⟩ rfl)
             ·refine tp M (tp M (tp M (to (spf Z12 M) ?_)));obtain rfl := sIn a6;refine aC (aQ rfl ⟨rfl, rfl, rfl, rfl, rfl, trivial⟩ rfl)
            ·refine aC ?_;refine tih h (fun h4 h => ?_) (fun h4 h => ?_)
             ·refine aB (tm (.d (.lit a)) (tm (.i (w64 ((uw (w64 (g + f))).fdiv (2 ^ Z4)))) (tm (.i (w64 ((w64 ((w64 ((uw (w64 (g + f))).fdiv (2 ^ Z4))) + j)) - c))) (tm (.i f) (tm (.fn n o) ?_)))));obtain ⟨h5, h7, h⟩ := bns h;refine bA rfl (cU (passed := [.arr a 51 5 (p.map aF)]) (aI rfl) rfl (.func _ _ call110) rfl rfl (ih p (w64 ((uw (w64 (g + f))).fdiv (2 ^ Z4))) (w64 ((w64 ((w64 ((uw (w64 (g + f))).fdiv (2 ^ Z4))) + j)) - c)) f h7)) ?_;rintro _ ⟨_, _, ⟨rfl, rfl⟩, rfl⟩;refine aC ?_;obtain rfl := sIn h;exact ⟨_, [.arr a 51 5 (h5.map aF)], [], _, .none, .refl _, .same _, rfl, rfl⟩
             ·refine aV ?_;obtain rfl := sIn h;exact ⟨_, [.arr a 51 5 (p.map aF)], [], _, .none, .refl _, .same _, rfl, rfl⟩
theorem nX (f : List aG) (k : Int) (l : Int) (m : Int) (e : aG → aG → Option Int) {r : (List aG)} {b : Value} (a : Nat) (c : List AV) (g : ∀ args w, (callFunc a args).run Tryz.prog w = .ok (.enter a args) w) (j : ∀ (x0 : aG) (x1 : aG) r, e x0 x1 = some r → Fn Tryz.prog a ([.agg (aF x0), .agg (aF x1)] ++ c) (.i r)) (h : iY f k l m e = some r) : dB Tryz.prog 110 [.d (.lit b), .i k, .i l, .i m, .fn a c] (Z58 b f) (fun r' o' => r' = .tup [] ∧ o' = [.arr b 51 5 (r.map aF)]) := sT e a c g j BIG _ _ _ _ h

theorem tR (u : List aG) (n : Int) (j : aG → aG → Option Int) {r : (List aG)} {b : Value} (c : Nat) (e : List AV) (p : ∀ args w, (callFunc c args).run Tryz.prog w = .ok (.enter c args) w) (q : ∀ (x0 : aG) (x1 : aG) r, j x0 x1 = some r → Fn Tryz.prog c ([.agg (aF x0), .agg (aF x1)] ++ e) (.i r)) (h : jK u n j = some r) : dB Tryz.prog 82 [.d (.lit b), .i n, .fn c e] (Z58 b u) (fun r' o' => r' = .tup [] ∧ o' = [.arr b 51 5 (r.map aF)]) := by
 unfold jK at h;refine iV func82 rfl (rs := []) results82 ntmps82 (Nat.le_of_ble_eq_true rfl) ?_;refine aD (aB (ta (.i 20) (aC (aD (aB (tm (.i 20) (ta (.i 0) (ta (.i 20) (aC (aD (bF ?_)))))))))));refine bY (S := Int × Int × Z78) [1, 2, 6] (fun s1 => [(0, .d (.lit b)), (7, .i s1.1), (8, .i s1.2.1)]) (fun s1 => [.arr b 51 5 (s1.2.2.map aF)]) (fun k s1 => dT n j 20 k s1.1 s1.2.1 s1.2.2) (fun _ => rfl) (0, 20, u) h (aR [0] rfl rfl (aL rfl (aL rfl (aL rfl (aP ⟨rfl, rfl, rfl, trivial⟩))))) ?_;rintro k2 ⟨t, m, o⟩ h;simp only [dT] at h;refine aD (aD (aB (tm (.i m) (tm (.i n) (to (scm rfl rfl rfl) (aC ?_))))));refine tih h (fun c3 h => ?_) (fun c3 h => ?_)
 ·refine aV (bF (aD (aB (tm (Z39 b) (tm (.i t) (tm (.i m) (tm (.fn c e) ?_)))))));obtain ⟨r4, h5, h⟩ := bns h;refine bA rfl (cU (passed := [.arr b 51 5 (o.map aF)]) (aI rfl) rfl (.func _ _ call109) rfl rfl (mG o t m j c e p q h5)) ?_;rintro _ ⟨_, _, ⟨rfl, rfl⟩, rfl⟩;refine aC (aD (aB (tm (.i m) (ta (.i m) (aC (aB (tm (.i m) (tm (.i 20) (to (sar rfl rfl rfl) (ta (.i (w64 (m + 20))) ?_))))))))));refine cM ?_;exact ⟨(m, w64 (m + 20), r4), h, aR [0] rfl rfl (aL rfl (aL rfl (aL rfl (aP ⟨rfl, rfl, rfl, trivial⟩))))⟩
 ·refine cE ?_;refine .inl ⟨rfl, ?_⟩;simp only [kU] at h;refine aD (aB (tm (Z39 b) (tm (.i t) (tm (.i n) (tm (.fn c e) ?_)))));obtain ⟨r6, h7, h⟩ := bns h;refine bA rfl (cU (passed := [.arr b 51 5 (o.map aF)]) (aI rfl) rfl (.func _ _ call109) rfl rfl (mG o t n j c e p q h7)) ?_;rintro _ ⟨_, _, ⟨rfl, rfl⟩, rfl⟩;refine aC (bF ?_);refine bY (S := Int × Z78) [1, 2] (fun s8 => [(0, .d (.lit b)), (6, .i s8.1)]) (fun s8 => [.arr b 51 5 (s8.2.map aF)]) (fun k s8 => cY n j k s8.1 s8.2) (fun _ => rfl) (20, r6) h (aR [0] rfl rfl (aL rfl (aL rfl (aP ⟨rfl, rfl, trivial⟩)))) ?_;rintro k9 ⟨a, v⟩ h;simp only [cY] at h;refine aD (aD (aB (tm (.i a) (tm (.i n) (to (scm rfl rfl rfl) (aC ?_))))));refine tih h (fun x h => ?_) (fun x h => ?_)
  ·refine aV (bF (aD (aB (tm (.i a) (to (sar rfl rfl rfl) (ta (.i 0) (ta (.i (w64 (2 * a))) (aC (aD (bF ?_))))))))));refine bY (S := Int × Int × Z78) [1, 2, 6] (fun s => [(0, .d (.lit b)), (7, .i s.1), (8, .i s.2.1)]) (fun s => [.arr b 51 5 (s.2.2.map aF)]) (fun k s => dW (cY n j k9) n j a k s.1 s.2.1 s.2.2) (fun _ => rfl) (0, w64 (2 * a), v) h (aR [0] rfl rfl (aL rfl (aL rfl (aL rfl (aP ⟨rfl, rfl, rfl, trivial⟩))))) ?_;rintro F ⟨f, g, l⟩ h;simp only [dW] at h;refine aD (aD (aB (tm (.i g) (tm (.i n) (to (scm rfl rfl rfl) (aC ?_))))));refine tih h (fun y h => ?_) (fun y h => ?_)
   ·refine aV (bF (aD (aB (tm (Z39 b) (tm (.i f) (tm (.i f) (tm (.i a) (to (sar rfl rfl rfl) (tm (.i g) (tm (.fn c e) ?_))))))))));obtain ⟨z, A, h⟩ := bns h;refine bA rfl (cU (passed := [.arr b 51 5 (l.map aF)]) (aI rfl) rfl (.func _ _ call110) rfl rfl (nX l f (w64 (f + a)) g j c e p q A)) ?_;rintro _ ⟨_, _, ⟨rfl, rfl⟩, rfl⟩;refine aC (aD (aB (tm (.i g) (ta (.i g) (aC (aB (tm (.i g) (tm (.i a) (to (sar rfl rfl rfl) (to (sar rfl rfl rfl) (ta (.i (w64 (g + (w64 (2 * a))))) ?_)))))))))));refine cM ?_;exact ⟨(g, w64 (g + (w64 (2 * a))), z), h, aR [0] rfl rfl (aL rfl (aL rfl (aL rfl (aP ⟨rfl, rfl, rfl, trivial⟩))))⟩
   ·refine cE ?_;refine .inl ⟨rfl, ?_⟩;simp only [kW] at h;refine aD (aD (aB (tm (.i f) (tm (.i a) (to (sar rfl rfl rfl) (ta (.i (w64 (f + a))) (aC (aD (aB (tm (.i (w64 (f + a))) (tm (.i n) (to (scm rfl rfl rfl) (aC ?_)))))))))))));refine tih h (fun B h => ?_) (fun B h => ?_)
    ·refine aB (tm (Z39 b) (tm (.i f) (tm (.i (w64 (f + a))) (tm (.i n) (tm (.fn c e) ?_)))));obtain ⟨C, E, h⟩ := bns h;refine bA rfl (cU (passed := [.arr b 51 5 (l.map aF)]) (aI rfl) rfl (.func _ _ call110) rfl rfl (nX l f (w64 (f + a)) n j c e p q E)) ?_;rintro _ ⟨_, _, ⟨rfl, rfl⟩, rfl⟩;refine aC (aB (tm (.i a) (to (sar rfl rfl rfl) (ta (.i (w64 (a * 2))) ?_))));refine cM ?_;simp only [fY] at h;exact ⟨(w64 (a * 2), C), h, aR [0] rfl rfl (aL rfl (aL rfl (aP ⟨rfl, rfl, trivial⟩)))⟩
    ·refine aV (aB (tm (.i a) (to (sar rfl rfl rfl) (ta (.i (w64 (a * 2))) ?_))));refine cM ?_;simp only [fY] at h;exact ⟨(w64 (a * 2), l), h, aR [0] rfl rfl (aL rfl (aL rfl (aP ⟨rfl, rfl, trivial⟩)))⟩
  ·refine cE ?_;refine .inl ⟨rfl, ?_⟩;simp only [kV] at h;obtain rfl := sIn h;exact ⟨_, [.arr b 51 5 (v.map aF)], [], _, .none, .refl _, .same _, rfl, rfl⟩

theorem oJ (f : List aG) (e : aG → aG → Option Int) {r : (List aG)} {b : Value} (a : Nat) (c : List AV) (g : ∀ args w, (callFunc a args).run Tryz.prog w = .ok (.enter a args) w) (j : ∀ (x0 : aG) (x1 : aG) r, e x0 x1 = some r → Fn Tryz.prog a ([.agg (aF x0), .agg (aF x1)] ++ c) (.i r)) (h : eW f e = some r) : dB Tryz.prog 61 [.d (.lit b), .fn a c] (Z58 b f) (fun r' o' => r' = .tup [] ∧ o' = [.arr b 51 5 (r.map aF)]) := by
 unfold eW at h;refine iV func61 rfl (rs := []) results61 ntmps61 (Nat.le_of_ble_eq_true rfl) ?_;refine aB (tm (Z39 b) (tm (Z39 b) (to (fJ (m := 0) (aI rfl) rfl rfl cL.of) ?_)));refine tm (.fn a c) ?_;obtain ⟨r1, h2, h⟩ := bns h;refine bA rfl (cU (passed := (Z58 b f)) (aI rfl) rfl (.func _ _ call82) rfl rfl (tR f (f.length : Int) e a c g j h2)) ?_;rintro _ ⟨_, _, ⟨rfl, rfl⟩, rfl⟩;refine aC ?_;obtain rfl := sIn h;exact ⟨_, [.arr b 51 5 (r1.map aF)], [], _, .none, .refl _, .same _, rfl, rfl⟩

theorem aKg (a : aG) (b : aG) {r : Int} (h : rS a b = some r) : Fn Tryz.prog 79 [.agg (aF a), .agg (aF b)] (.i r) := by
 unfold rS at h;refine oT [.tmp 4] func79 results79 ntmps79 ?_;refine aD (aB ?_);refine bA rfl (eN (v := .agg (aF a)) (aI rfl) rfl rfl rfl) ?_;rintro _ ⟨b1, rfl⟩;refine bA rfl (eN (v := .agg (aF b)) (aI rfl) rfl rfl rfl) ?_;rintro _ ⟨b2, rfl⟩;refine ta (.i 0) (aC (aD (aB (tfl 0 rfl rfl oB rfl aS (tfl 1 rfl rfl oB rfl aS (to (sar rfl rfl rfl) (ta (.i (w64 (a.Id - b.Id))) (aC ?_))))))));obtain rfl := sIn h;refine bL (bG (bI (l := [4]) ⟨rfl, trivial⟩)) ?_;exact rt

theorem xG (s : List aG) {r : (List aG)} {j : Value} (h : jW s = some r) : dB Tryz.prog 80 [.d (.lit j)] (Z58 j s) (fun r' o' => ∃ w0 : Value, r' = .d (.lit w0) ∧ o' = [.arr w0 51 5 (r.map aF)]) := by
 unfold jW at h;refine iN func80 rfl (rs := [.tmp 2]) results80 ntmps80 (Nat.le_of_ble_eq_true rfl) ?_;refine aD (aB (to (fP 51 5 (.inl rfl) (aI rfl)) ?_));refine aC (aD (aD (aB (tm (Z39 j) (to (fJ (m := 0) (aI rfl) rfl rfl cL.of) ?_)))));refine to (scm rfl rfl rfl) (aC ?_);refine tih h (fun c2 h => ?_) (fun c2 h => ?_)
 ·refine aD (aB (tm (Z39 j) (ta (Z39 j) (aC ?_))));obtain rfl := sIn h;exact cS ⟨rfl, _, (Z58 j s), Z38, _, .one (.tmp 2 (v := .d (.lit j)) rfl), .refl _, .same _, j, rfl, rfl⟩
 ·refine aV (aD (aD (aB (ta (.i 1) (aC (bF ?_))))));refine bY (S := Int × Z78 × Value) [] (fun s3 => [(0, .d (.lit s3.2.2)), (3, .i s3.1)]) (fun s3 => [.arr s3.2.2 51 5 (s3.2.1.map aF)]) (fun k s3 => dI k s3.1 s3.2.1) (fun _ => rfl) (1, s, j) h (aR [0] rfl rfl (aL rfl (aL rfl (aP trivial)))) ?_;rintro k5 ⟨c, p, w4⟩ h;simp only [dI] at h;refine aD (aD (aB (tm (.i c) (tm (.d (.lit w4)) (to (fJ (m := 0) (aI rfl) rfl rfl cL.of) ?_)))));refine to (scm rfl rfl rfl) (aC ?_);refine tih h (fun c6 h => ?_) (fun c6 h => ?_)
  ·refine aV (aD (bF (aD ?_)));obtain ⟨x7, h8, h⟩ := bns h;obtain ⟨x9, x, h⟩ := bns h;refine cG mix 9 [0, 3] [(19, .agg (aF x7)), (24, .agg (aF x9))] ?_ ?_
   ·refine ⟨[(16, 0, .d (.lit w4)), (17, 1, .i c), (18, 2, .ep w4 5 c.toNat 0), (19, 3, .agg (aF x7)), (20, 4, .d (.lit w4)), (21, 5, .i c), (22, 6, .i (w64 (c - 1))), (23, 7, .ep w4 5 (w64 (c - 1)).toNat 0), (24, 8, .agg (aF x9))], ?_, ?_⟩
    · exact dk [0, 0, 102, 3, 0, 0, 6, 507, 8] ⟨go (zm (.d (.lit w4))),
 go (zm (.i c)),
 go (zia 0 rfl rfl rfl cL.of (bC aF h8)),
 go fun S hS => cP (aI rfl) (aT hS rfl) (l := 0) rfl (dN aF h8) fF (es := (aF x7)) rfl rfl,
 go (zm (.d (.lit w4))),
 go (zm (.i c)),
 go (zar rfl rfl rfl),
 go (zia 0 rfl rfl rfl cL.of (bC aF x)),
 go fun S hS => cP (aI rfl) (aT hS rfl) (l := 0) rfl (dN aF x) fF (es := (aF x9)) rfl rfl, trivial⟩
    · exact bP (aL rfl (aL rfl (aP ⟨rfl, rfl, trivial⟩)))
   ·refine to (aTk (a := x7) (b := x9) (aI rfl) rfl rfl rfl rfl Tryz.eqGuardType51 aKx) ?_;refine aC ?_;refine tih h (fun C h => ?_) (fun C h => ?_)
    ·refine aD (aB (tm (.d (.lit w4)) (tm (.i c) ?_)));obtain ⟨K, E, h⟩ := bns h;refine to (sS (m := 0) (aI rfl) rfl rfl rfl cL.of E) ?_;refine ta (.d (.lit (kN w4 c.toNat 5))) (aC (aD (aD (aB (ta (.i 1) (aC (bF ?_)))))));refine bY (S := Int × Int × Z78) [] (fun o => [(0, .d (.lit w4)), (3, .i o.1), (4, .d (.lit (kN w4 c.toNat 5))), (5, .i o.2.1)]) (fun o => [.arr w4 51 5 (o.2.2.map aF)]) (fun k o => eG (dI k5) c k o.1 o.2.1 o.2.2) (fun _ => rfl) (c, 1, p) h (aR [0] rfl rfl (aL rfl (aL rfl (aL rfl (aL rfl (aP trivial)))))) ?_;rintro L ⟨g, e, n⟩ h;simp only [eG] at h;refine aD (aD (aB (tm (.i e) (tm (.d (.lit (kN w4 c.toNat 5))) (to (aHv (m := 0) (aI rfl) rfl rfl cL.of) ?_)))));refine to (scm rfl rfl rfl) (aC ?_);refine tih h (fun F h => ?_) (fun F h => ?_)
     ·refine aV (aD (bF (aD ?_)));obtain ⟨t, y, h⟩ := bns h;obtain ⟨u, z, h⟩ := bns h;refine cG mix 9 [0, 3, 4, 5] [(38, .agg (aF t)), (43, .agg (aF u))] ?_ ?_
      ·refine ⟨[(35, 0, .d (.lit (kN w4 c.toNat 5))), (36, 1, .i e), (37, 2, .ep w4 5 (c.toNat + e.toNat) 0), (38, 3, .agg (aF t)), (39, 4, .d (.lit (kN w4 c.toNat 5))), (40, 5, .i e), (41, 6, .i (w64 (e - 1))), (42, 7, .ep w4 5 (c.toNat + (w64 (e - 1)).toNat) 0), (43, 8, .agg (aF u))], ?_, ?_⟩
       · exact dk [0, 0, 102, 3, 0, 0, 6, 507, 8] ⟨go (zm (.d (.lit (kN w4 c.toNat 5)))),
 go (zm (.i e)),
 go fun S hS => rT (m := 0) (aI rfl) (aT hS rfl) rfl (aT hS rfl) cL.of (qT (f := aF) y),
 go fun S hS => cP (aI rfl) (aT hS rfl) (l := 0) rfl (yJ aF y) fF (es := (aF t)) rfl rfl,
 go (zm (.d (.lit (kN w4 c.toNat 5)))),
 go (zm (.i e)),
 go (zar rfl rfl rfl),
 go fun S hS => rT (m := 0) (aI rfl) (aT hS rfl) rfl (aT hS rfl) cL.of (qT (f := aF) z),
 go fun S hS => cP (aI rfl) (aT hS rfl) (l := 0) rfl (yJ aF z) fF (es := (aF u)) rfl rfl, trivial⟩
       · exact bP (aL rfl (aL rfl (aP ⟨rfl, rfl, rfl, rfl, trivial⟩)))
      ·refine to (aHx (a := t) (b := u) (aI rfl) rfl rfl rfl rfl Tryz.eqGuardType51 aKx) ?_;refine aC ?_;refine tih h (fun G h => ?_) (fun G h => ?_)
       ·refine aD (aB (tm (.d (.lit w4)) (tm (.i g) (tm (.d (.lit (kN w4 c.toNat 5))) (tm (.i e) ?_)))));obtain ⟨w, A, h⟩ := bns h;refine to (rT (m := 0) (aI rfl) rfl rfl rfl cL.of (qT (f := aF) A)) ?_;refine to (cP (aI rfl) rfl (l := 0) rfl (yJ aF A) fF (es := (aF w)) rfl rfl) ?_;obtain ⟨M, B, h⟩ := bns h;refine to (iX (m := 0) (aI rfl) rfl rfl rfl cL.of (bC aF B)) ?_;refine to (kM (l := 0) rfl rfl (dN aF B) rfl rfl rfl sizeOf51 rfl (aI rfl) (Nat.le_of_ble_eq_true rfl) (rows' := ((n.set g.toNat w)).map aF) (oS _ _ _ _ rfl)) ?_;refine aC (aB (tm (.i g) (to (sar rfl rfl rfl) (ta (.i (w64 (g + 1))) ?_))));refine cM ?_;refine aB (tm (.i e) (to (sar rfl rfl rfl) (ta (.i (w64 (e + 1))) (aC ?_))));exact ⟨(w64 (g + 1), w64 (e + 1), (n.set g.toNat w)), h, aR [0] rfl rfl (aL rfl (aL rfl (aL rfl (aL rfl (aP trivial)))))⟩
       ·refine cK ?_;refine aB (tm (.i e) (to (sar rfl rfl rfl) (ta (.i (w64 (e + 1))) (aC ?_))));exact ⟨(g, w64 (e + 1), n), h, aR [0] rfl rfl (aL rfl (aL rfl (aL rfl (aL rfl (aP trivial)))))⟩
     ·refine cE ?_;refine .inl ⟨rfl, ?_⟩;simp only [nH] at h;refine aD (aB (tm (.d (.lit w4)) (tm (.i g) ?_)));obtain ⟨N, H, h⟩ := bns h;refine to (sS (m := 0) (aI rfl) rfl rfl rfl cL.of H) ?_;obtain ⟨O, I, h⟩ := bns h;refine to (aGj (f := aF) (m := 0) cL rfl rfl I (by decide)) ?_;refine aC (aD (aB (tm (.d (.lit w4)) (tm (.i g) ?_))));obtain ⟨P, J, h⟩ := bns h;refine to (sR (m := 0) (q := g.toNat) (v := w4) (aI rfl) rfl rfl rfl rfl (aDd J) cL.of) ?_;refine ta (.d (.lit (gM w4 g.toNat))) (aC ?_);obtain rfl := sIn h;exact cS ⟨rfl, _, [.arr (gM w4 g.toNat) 51 5 ((n.take g.toNat).map aF)], [], _, .one (.tmp 2 (v := .d (.lit (gM w4 g.toNat))) rfl), .refl _, .same _, (gM w4 g.toNat), rfl, rfl⟩
    ·refine cK ?_;simp only [nG] at h;refine aB (tm (.i c) (to (sar rfl rfl rfl) (ta (.i (w64 (c + 1))) (aC ?_))));exact ⟨(w64 (c + 1), p, w4), h, aR [0] rfl rfl (aL rfl (aL rfl (aP trivial)))⟩
  ·refine cE ?_;refine .inl ⟨rfl, ?_⟩;simp only [nF] at h;refine aD (aB (tm (.d (.lit w4)) (ta (.d (.lit w4)) (aC ?_))));obtain rfl := sIn h;exact cS ⟨rfl, _, [.arr w4 51 5 (p.map aF)], [], _, .one (.tmp 2 (v := .d (.lit w4)) rfl), .refl _, .same _, w4, rfl, rfl⟩

theorem aFh (e : List aG) {r : (List aG) × Bool} (h : pX e = some r) : dB Tryz.prog 56 [.d (Z33 e)] [] (fun r' o' => ∃ (w0 : Value), r' = .tup [.d (.lit w0), .b r.2] ∧ o' = [.arr w0 51 5 (r.1.map aF)]) := by
 unfold pX at h;refine iN func56 rfl (rs := [.tmp 2, .tmp 3]) results56 ntmps56 (Nat.le_of_ble_eq_true rfl) ?_;refine aD (aB (to (fP 51 5 (.inl rfl) (aI rfl)) ?_));refine ta Z12 (aC (aD (aB (tm (.d (Z33 e)) ?_))));obtain ⟨r2, h3, h⟩ := bns h;refine bA rfl (mD (aI rfl) (.func _ _ call60) rfl rfl (rN _ h3)) ?_;rintro _ ⟨v4, rfl⟩;refine ta (.d (.lit v4)) (aC (aD (aB (tm (.d (.lit v4)) ?_))));obtain ⟨r7, h8, h⟩ := bns h;refine dR (aR [1, 0] rfl rfl (le_refl _)) ?_;refine bA rfl (cU (passed := [.arr v4 51 5 (r2.map aF)]) (aI rfl) rfl (.func _ _ call61) rfl rfl (oJ r2 (fun y5 y6 => rS y5 y6) 79 [] call79 (fun _ _ _ h => aKg _ _ h) h8)) ?_;rintro _ ⟨_, _, ⟨rfl, rfl⟩, rfl⟩;refine aC (aD (aB (tm (.d (.lit v4)) ?_)));obtain ⟨r9, o, h⟩ := bns h;refine bA rfl (cU (passed := [.arr v4 51 5 (r7.map aF)]) (aI rfl) rfl (.func _ _ call80) rfl rfl (xG r7 o)) ?_;rintro _ ⟨_, _, ⟨c, rfl, rfl⟩, rfl⟩;refine ta (.d (.lit c)) (aC (aD (aD (aB (ta (.i 1) (aC (bF ?_)))))));refine bY (S := Int) [4] (fun f => [(5, .i f)]) (fun f => [.arr c 51 5 (r9.map aF)]) (fun k f => jI r9 k f) (fun _ => rfl) (1) h (aR [0] rfl rfl (aL rfl (aP ⟨rfl, trivial⟩))) ?_;rintro s a h;simp only [jI] at h;refine aD (aD (aB (tm (.i a) (tm (.d (.lit c)) (to (fJ (m := 0) (aI rfl) rfl rfl cL.of) ?_)))));refine to (scm rfl rfl rfl) (aC ?_);refine tih h (fun p h => ?_) (fun p h => ?_)
 ·refine aV (aD (bF (aD ?_)));obtain ⟨g, j, h⟩ := bns h;obtain ⟨l, n, h⟩ := bns h;refine cG mix 11 [4, 5] [(22, .i g.Id), (28, .i l.Id)] ?_ ?_
  ·refine ⟨[(18, 0, .d (.lit c)), (19, 1, .i a), (20, 2, .ep c 5 a.toNat 0), (21, 3, .ep c 5 a.toNat 0), (22, 4, .i g.Id), (23, 5, .d (.lit c)), (24, 6, .i a), (25, 7, .i (w64 (a - 1))), (26, 8, .ep c 5 (w64 (a - 1)).toNat 0), (27, 9, .ep c 5 (w64 (a - 1)).toNat 0), (28, 10, .i l.Id)], ?_, ?_⟩
   · exact dk [0, 0, 102, 3, 4, 0, 0, 7, 608, 9, 10] ⟨go (zm (.d (.lit c))),
 go (zm (.i a)),
 go (zia 0 rfl rfl rfl cL.of (bC aF j)),
 go fun S hS => aHu (aI rfl) (aT hS rfl) oB,
 go fun S hS => xC (aI rfl) (aT hS rfl) (m := 0) rfl (dN aF j) rfl aS,
 go (zm (.d (.lit c))),
 go (zm (.i a)),
 go (zar rfl rfl rfl),
 go (zia 0 rfl rfl rfl cL.of (bC aF n)),
 go fun S hS => aHu (aI rfl) (aT hS rfl) oB,
 go fun S hS => xC (aI rfl) (aT hS rfl) (m := 0) rfl (dN aF n) rfl aS, trivial⟩
   · exact bP (aL rfl (aL rfl (aP ⟨rfl, rfl, trivial⟩)))
  ·refine to (scm rfl rfl rfl) (aC ?_);refine tih h (fun q h => ?_) (fun q h => ?_)
   ·refine aD (aB (to (fP 51 5 (.inl rfl) (aI rfl)) ?_));refine ta Z12 (aC ?_);obtain rfl := sIn h;refine bL (aR [1, 0] rfl rfl (le_refl _)) ?_;exact cS ⟨rfl, _, Z38, [.arr c 51 5 (r9.map aF)], _, .two (.tmp 2 (v := .d Z31) rfl) (.tmp 3 (v := .b false) rfl), .refl _, .same _, (.slice none 0 0), rfl, rfl⟩
   ·refine cK ?_;refine aB (tm (.i a) (to (sar rfl rfl rfl) (ta (.i (w64 (a + 1))) (aC ?_))));exact ⟨(w64 (a + 1)), h, aR [0] rfl rfl (aL rfl (aP ⟨rfl, trivial⟩))⟩
 ·refine cE ?_;refine .inl ⟨rfl, ?_⟩;simp only [zD] at h;refine aD (aB (tm (.d (.lit c)) (ta (.d (.lit c)) (ta Z44 (aC ?_)))));obtain rfl := sIn h;exact cS ⟨rfl, _, [.arr c 51 5 (r9.map aF)], [], _, .two (.tmp 2 (v := .d (.lit c)) rfl) (.tmp 3 (v := .b true) rfl), .refl _, .same _, c, rfl, rfl⟩

theorem aMc (a : aU) {r : Int} (h : vA a = some r) : Fn Tryz.prog 55 [.agg (aY a)] (.i r) := by
 unfold vA at h;refine oT [.tmp 2] func55 results55 ntmps55 ?_;refine aD (aB ?_);refine bA rfl (eN (v := .agg (aY a)) (aI rfl) rfl rfl rfl) ?_;rintro _ ⟨b1, rfl⟩;refine ta (.i 0) (aC (aD (aD (aB (to (sla 0 (aY a) rfl rfl oF) ?_)))));obtain ⟨r2, h3, h⟩ := bns h;refine to (scr call78 (aHq _ h3)) (to (sn rfl) (aC ?_));refine tih h (fun c4 h => ?_) (fun c4 h => ?_)
 ·refine aD (aB (ta (.i 40) (aC ?_)));obtain rfl := sIn h;refine bL (bG (bI (l := [2]) ⟨rfl, trivial⟩)) ?_;exact rt
 ·refine aV (aD (aD (aB (tfl 0 rfl rfl lZ rfl qQ ?_))));obtain ⟨r5, h6, h⟩ := bns h;refine bA rfl (cU (passed := []) (aI rfl) rfl (.func _ _ call56) rfl rfl (aFh _ h6)) ?_;rintro _ ⟨_, _, ⟨w7, rfl, rfl⟩, rfl⟩;refine tm (.tup [.d (.lit w7), .b r5.2]) (to (sex rfl rfl) (to (sex rfl rfl) (ta (.d (.lit w7)) (ta (.b r5.2) (aC (aD (aB (tm (.b r5.2) (to (sn rfl) (aC ?_))))))))));refine tih h (fun c8 h => ?_) (fun c8 h => ?_)
  ·refine aD (aB (ta (.i 41) (aC ?_)));obtain rfl := sIn h;refine bL (bG (bI (l := [2]) ⟨rfl, trivial⟩)) ?_;exact rt
  ·refine aV (aD (aB (ta (.i 0) (aC ?_))));obtain rfl := sIn h;refine bL (bG (bI (l := [2]) ⟨rfl, trivial⟩)) ?_;exact rt

theorem aNf (a : aU) {r : (Option dF) × Int} (h : xA a = some r) : dB Tryz.prog 33 [.agg (aY a)] [] (fun r' o' => ∃ (b : Nat) (w0 : Value), r' = .tup [(match r.1 with | none => .d Z34 | some _ => .bp b 0 0), .i r.2] ∧ o' = (match r.1 with | none => [] | some x => [.box b 0 [.j x.Ledger.Players, .j x.Ledger.Counts, .lit w0, .sl 3 (x.Ledger.Bans.map aM), .sl 3 (x.Ledger.Frozen.map aM)], .arr w0 51 5 (x.Ledger.Reports.map aF)])) := by
 unfold xA at h;refine iN func33 rfl (rs := [.tmp 2, .tmp 3]) results33 ntmps33 (Nat.le_of_ble_eq_true rfl) ?_;refine aD (aB ?_);refine bA rfl (eN (v := .agg (aY a)) (aI rfl) rfl rfl rfl) ?_;rintro _ ⟨b1, rfl⟩;refine ta Z48 (ta (.i 0) (aC (aD (aD (aB (to (sla 0 (aY a) rfl rfl oF) ?_))))));obtain ⟨r2, h3, h⟩ := bns h;refine to (scr call55 (aMc _ h3)) (ta (.i r2) (aC (aD (aB (tm (.i r2) (to (scm rfl rfl rfl) (aC ?_)))))));refine tih h (fun c4 h => ?_) (fun c4 h => ?_)
 ·refine aD (aB (tm (.i r2) (ta Z48 (ta (.i r2) (aC ?_)))));obtain rfl := sIn h;exact cS ⟨rfl, _, [], [.box b1 0 (aY a)], _, .two (.tmp 2 (v := jT gD (none : Option dF)) rfl) (.tmp 3 (v := .i r2) rfl), .refl _, .same _, 0, undef, rfl, rfl⟩
 ·refine aV (aD (aB (tfl 0 rfl rfl lZ rfl qQ ?_)));obtain ⟨r5, h6, h⟩ := bns h;refine bA rfl (cU (passed := []) (aI rfl) rfl (.func _ _ call56) rfl rfl (aFh _ h6)) ?_;rintro _ ⟨_, _, ⟨w7, rfl, rfl⟩, rfl⟩;refine tm (.tup [.d (.lit w7), .b r5.2]) (to (sex rfl rfl) (to (sex rfl rfl) (to (sf rfl lZ) (to (sst 1 rfl rfl sizeOf22 [.j a.Players, .j a.Counts, .lit w7, .sl 3 (a.Bans.map aM), .sl 3 (Z61 a)]) (aC (aD (aB (to (sla 1 [.j a.Players, .j a.Counts, .lit w7, .sl 3 (a.Bans.map aM), .sl 3 (Z61 a)] rfl rfl oF) (to (kZ (aI rfl) aWa (zs := [.j 0, .j 0, .sl 5 Z77, .sl 3 Z53, .sl 3 Z53]) rfl rfl rfl rfl (es := [.j a.Players, .j a.Counts, .lit w7, .sl 3 (a.Bans.map aM), .sl 3 (Z61 a)]) rfl) ?_)))))))));refine bA rfl (eN (v := .agg [.j a.Players, .j a.Counts, .lit w7, .sl 3 (a.Bans.map aM), .sl 3 (Z61 a)]) (aI rfl) rfl rfl rfl) ?_;rintro _ ⟨b8, rfl⟩;refine ta (.bp b8 0 0) (ta (.i 0) (aC ?_));obtain rfl := sIn h;refine bL (aR [2, 0, 1] rfl rfl (le_refl _)) ?_;exact cS ⟨rfl, _, [.box b8 0 [.j a.Players, .j a.Counts, .lit w7, .sl 3 (a.Bans.map aM), .sl 3 (Z61 a)], .arr w7 51 5 (r5.1.map aF)], [.box b1 0 [.j a.Players, .j a.Counts, .lit w7, .sl 3 (a.Bans.map aM), .sl 3 (Z61 a)]], _, .two (.tmp 2 (v := .bp b8 0 0) rfl) (.tmp 3 (v := .i 0) rfl), .refl _, .same _, b8, w7, rfl, rfl⟩

theorem aHp (c : aU) (a : Int) (e : Int) {r : (Option dF) × Int} (h : wE c a e = some r) : dB Tryz.prog 19 [.agg (aY c), .i a, .i e] [] (fun r' o' => ∃ (b : Nat) (w0 : Value), r' = .tup [(match r.1 with | none => .d Z34 | some _ => .bp b 0 0), .i r.2] ∧ o' = (match r.1 with | none => [] | some x => [.box b 0 [.j x.Ledger.Players, .j x.Ledger.Counts, .lit w0, .sl 3 (x.Ledger.Bans.map aM), .sl 3 (x.Ledger.Frozen.map aM)], .arr w0 51 5 (x.Ledger.Reports.map aF)])) := by
 unfold wE at h;refine iN func19 rfl (rs := [.tmp 6, .tmp 7]) results19 ntmps19 (Nat.le_of_ble_eq_true rfl) ?_;refine aD (aB ?_);refine bA rfl (eN (v := .agg (aY c)) (aI rfl) rfl rfl rfl) ?_;rintro _ ⟨b1, rfl⟩;refine ta Z48 (ta (.i 0) (aC (aD (aB (to (sla 0 (aY c) rfl rfl oF) ?_)))));obtain ⟨r2, h3, h⟩ := bns h;refine bA rfl (cU (passed := []) (aI rfl) rfl (.func _ _ call33) rfl rfl (aNf _ h3)) ?_;rintro _ ⟨_, _, ⟨b5, w6, rfl, rfl⟩, rfl⟩;obtain ⟨_ | y4, e7⟩ := r2
 ·have h := aLx h;refine dR (aR [0] rfl rfl (le_refl _)) ?_;refine tm (.tup [.d Z34, .i e7]) (to (sex rfl rfl) (to (sex rfl rfl) (ta (.d Z34) (ta (.i e7) (aC (aD (aD (aB (tm (.i e7) (to (scm rfl rfl rfl) (aC ?_)))))))))));refine tih h (fun c8 h => ?_) (fun c8 h => ?_)
  ·refine aD (aB (tm (.i e7) (ta Z48 (ta (.i e7) (aC ?_)))));obtain rfl := sIn h;exact cS ⟨rfl, _, [], [.box b1 0 (aY c)], _, .two (.tmp 6 (v := jT gD (none : Option dF)) rfl) (.tmp 7 (v := .i e7) rfl), .refl _, .same _, 0, undef, rfl, rfl⟩
  ·refine aV (aD (aD (aB (tm (.i a) (tfl 0 rfl rfl lY rfl aS (to (sar rfl rfl rfl) ?_))))));obtain ⟨r9, l, h⟩ := bns h;refine to (scr call34 (gH _ _ _ l)) (to (sn rfl) (tm (.b (!r9)) ?_));obtain ⟨m, j, h⟩ := bns h;refine aZ 4 [8] 28 m ?_ ?_
   ·refine bch j (fun f j => ?_) (fun f j => ?_)
    ·refine tp f (tp f (tp f (to (spt Z44 f) ?_)));obtain rfl := sIn j;refine aC (aQ rfl ⟨rfl, trivial⟩ rfl)
    ·refine tk f (sm (.i e)) ?_;obtain ⟨n, o, j⟩ := bns j;refine tk f (scr call34 (gH _ _ _ o)) (tk f (sn rfl) (to (spf (.b (!n)) f) ?_));obtain rfl := sIn j;refine aC (aQ rfl ⟨rfl, trivial⟩ rfl)
   ·refine aC ?_;refine tih h (fun p h => ?_) (fun p h => ?_)
    ·refine aD (aB (ta Z48 (ta (.i 1) (aC ?_))));obtain rfl := sIn h;exact cS ⟨rfl, _, [], [.box b1 0 (aY c)], _, .two (.tmp 6 (v := jT gD (none : Option dF)) rfl) (.tmp 7 (v := .i 1) rfl), .refl _, .same _, 0, undef, rfl, rfl⟩
    ·refine aV (aD (aB (tm (.d Z34) (ta (.d Z34) (ta (.i 0) (aC ?_))))));obtain rfl := sIn h;exact cS ⟨rfl, _, [], [.box b1 0 (aY c)], _, .two (.tmp 6 (v := .d Z34) rfl) (.tmp 7 (v := .i 0) rfl), .refl _, .same _, 0, undef, rfl, rfl⟩
 ·have h := aLy h;refine dR (aR [0, 1, 2] rfl rfl (le_refl _)) ?_;refine tm (.tup [.bp b5 0 0, .i e7]) (to (sex rfl rfl) (to (sex rfl rfl) (ta (.bp b5 0 0) (ta (.i e7) (aC (aD (aD (aB (tm (.i e7) (to (scm rfl rfl rfl) (aC ?_)))))))))));refine tih h (fun q h => ?_) (fun q h => ?_)
  ·refine aD (aB (tm (.i e7) (ta Z48 (ta (.i e7) (aC ?_)))));obtain rfl := sIn h;exact cS ⟨rfl, _, [], [.box b5 0 [.j y4.Ledger.Players, .j y4.Ledger.Counts, .lit w6, .sl 3 (y4.Ledger.Bans.map aM), .sl 3 (y4.Ledger.Frozen.map aM)], .arr w6 51 5 (y4.Ledger.Reports.map aF), .box b1 0 (aY c)], _, .two (.tmp 6 (v := jT gD (none : Option dF)) rfl) (.tmp 7 (v := .i e7) rfl), .refl _, .same _, 0, undef, rfl, rfl⟩
  ·refine aV (aD (aD (aB (tm (.i a) (tfl 2 rfl rfl lY rfl aS (to (sar rfl rfl rfl) ?_))))));obtain ⟨s, t, h⟩ := bns h;refine to (scr call34 (gH _ _ _ t)) (to (sn rfl) (tm (.b (!s)) ?_));obtain ⟨u, k, h⟩ := bns h;refine aZ 4 [8] 28 u ?_ ?_
   ·refine bch k (fun g k => ?_) (fun g k => ?_)
    ·refine tp g (tp g (tp g (to (spt Z44 g) ?_)));obtain rfl := sIn k;refine aC (aQ rfl ⟨rfl, trivial⟩ rfl)
    ·refine tk g (sm (.i e)) ?_;obtain ⟨w, y, k⟩ := bns k;refine tk g (scr call34 (gH _ _ _ y)) (tk g (sn rfl) (to (spf (.b (!w)) g) ?_));obtain rfl := sIn k;refine aC (aQ rfl ⟨rfl, trivial⟩ rfl)
   ·refine aC ?_;refine tih h (fun z h => ?_) (fun z h => ?_)
    ·refine aD (aB (ta Z48 (ta (.i 1) (aC ?_))));obtain rfl := sIn h;exact cS ⟨rfl, _, [], [.box b5 0 [.j y4.Ledger.Players, .j y4.Ledger.Counts, .lit w6, .sl 3 (y4.Ledger.Bans.map aM), .sl 3 (y4.Ledger.Frozen.map aM)], .arr w6 51 5 (y4.Ledger.Reports.map aF), .box b1 0 (aY c)], _, .two (.tmp 6 (v := jT gD (none : Option dF)) rfl) (.tmp 7 (v := .i 1) rfl), .refl _, .same _, 0, undef, rfl, rfl⟩
    ·refine aV (aD (aB (tm (.bp b5 0 0) (ta (.bp b5 0 0) (ta (.i 0) (aC ?_))))));obtain rfl := sIn h;exact cS ⟨rfl, _, [.box b5 0 [.j y4.Ledger.Players, .j y4.Ledger.Counts, .lit w6, .sl 3 (y4.Ledger.Bans.map aM), .sl 3 (y4.Ledger.Frozen.map aM)], .arr w6 51 5 (y4.Ledger.Reports.map aF)], [.box b1 0 (aY c)], _, .two (.tmp 6 (v := .bp b5 0 0) rfl) (.tmp 7 (v := .i 0) rfl), .refl _, .same _, b5, w6, rfl, rfl⟩

theorem zW (b : dF) (e : aG) (a : Int) {r : Int} (h : pL b e a = some r) : Fn Tryz.prog 57 [.cp (gD b), .agg (aF e), .i a] (.i r) := by
 unfold pL at h;refine oT [.tmp 6] func57 results57 ntmps57 ?_;refine aD (aB ?_);refine bA rfl (eN (v := .agg (aF e)) (aI rfl) rfl rfl rfl) ?_;rintro _ ⟨b1, rfl⟩;refine ta (.i 0) (aC (aD (aB (tm (.i a) (tfl 0 rfl rfl rE rfl aS (to (sar rfl rfl rfl) (ta (.i (w64 (a - e.Week))) (aC (aD (aD (aB (tm (Z9 b) ?_))))))))))));refine to (dZ (aI rfl) rfl) ?_;refine to (sfc [.j b.Ledger.Players, .j b.Ledger.Counts, .sl 5 (Z43 b), .sl 3 (Z40 b), .sl 3 (Z45 b)] rfl vX) (to (sfc [.sl 3 (Z45 b)] rfl rD) (to (slc rfl pQ) (to (sle rfl jU.of) (tm (.i 0) (aC (bF ?_))))));refine bY (S := Int × Int) [2, 4, 18, 19] (fun s2 => [(7, .i s2.1), (20, .i s2.2)]) (fun s2 => [.box b1 0 (aF e)]) (fun k s2 => kD a b.Ledger.Frozen (b.Ledger.Frozen.length : Int) e k s2.1 s2.2) (fun _ => rfl) (w64 (a - e.Week), 0) h (aR [0] rfl rfl (aL rfl (aL rfl (aP ⟨rfl, rfl, rfl, rfl, trivial⟩)))) ?_;rintro k3 ⟨c, d⟩ h;simp only [kD] at h;refine aD (aB (to (scm rfl rfl rfl) (aC (aD ?_))));refine tih h (fun c4 h => ?_) (fun c4 h => ?_)
 ·refine aV (aD (bF (aD (aB ?_))));obtain ⟨x5, h6, h⟩ := bns h;refine to (six rfl rfl jU.of (bC aM h6)) (to (aAl (aM x5) rfl aCz) ?_);refine bA rfl (eA (zs := [.j 0, .j 0, .j 0]) (aI rfl) zeroValue79 rfl rfl) ?_;rintro _ ⟨b7, rfl⟩;refine to (sst 1 rfl rfl sizeOf79 (aM x5)) (aC (aD (aB (tfl 1 rfl rfl oY rfl aS (tfl 0 rfl rfl uD rfl aS (to (scm rfl rfl rfl) (aC ?_)))))));refine tih h (fun c8 h => ?_) (fun c8 h => ?_)
  ·refine aB (tm (.i c) (tfl 1 rfl rfl oZ rfl aS (tm (.i a) (to (aPo (aI rfl) rfl rfl) ?_))));refine tfl 1 rfl rfl nA rfl aS (tfl 0 rfl rfl rE rfl aS (to (sar rfl rfl rfl) (to (aPn (aI rfl) rfl rfl) ?_)));refine to (sar rfl rfl rfl) (to (sar rfl rfl rfl) (to (aPn (aI rfl) rfl rfl) ?_));refine to (sar rfl rfl rfl) (ta (.i (w64 (c - (max 0 (w64 ((w64 ((min x5.To a) - (max x5.From (w64 (e.Week + 1))))) + 1)))))) ?_);refine cM ?_;refine aB (to (sar rfl rfl rfl) (tm (.i (w64 (d + 1))) (aC ?_)));exact ⟨(w64 (c - (max 0 (w64 ((w64 ((min x5.To a) - (max x5.From (w64 (e.Week + 1))))) + 1)))), w64 (d + 1)), h, aR [0] rfl rfl (aL rfl (aL rfl (aP ⟨rfl, rfl, rfl, rfl, trivial⟩)))⟩
  ·refine cK ?_;refine aB (to (sar rfl rfl rfl) (tm (.i (w64 (d + 1))) (aC ?_)));exact ⟨(c, w64 (d + 1)), h, aR [0] rfl rfl (aL rfl (aL rfl (aP ⟨rfl, rfl, rfl, rfl, trivial⟩)))⟩
 ·refine cE ?_;refine .inl ⟨rfl, ?_⟩;simp only [uG] at h;refine aD (aB (tm (.i c) (ta (.i c) (aC ?_))));obtain rfl := sIn h;refine bL (bG (bI (l := [6]) ⟨rfl, trivial⟩)) ?_;exact rt

theorem aKf (a : bB) (c : Int) (d : Int) {r : Bool} (h : tN a c d = some r) : Fn Tryz.prog 59 [.agg (aM a), .cp [.j c], .cp [.j d]] (.b r) := by
 unfold tN at h;refine oT [.tmp 4] func59 results59 ntmps59 ?_;refine aD (aB ?_);refine bA rfl (eN (v := .agg (aM a)) (aI rfl) rfl rfl rfl) ?_;rintro _ ⟨b1, rfl⟩;refine ta Z12 (aC (aD (aB (tfl 0 rfl rfl oY rfl aS (to (slc rfl aS) (to (scm rfl rfl rfl) (tm (.b (decide (a.Player = c))) ?_)))))));obtain ⟨b2, h3, h⟩ := bns h;refine aZ 7 [] 16 b2 ?_ ?_
 ·refine bch h3 (fun c4 h3 => ?_) (fun c4 h3 => ?_)
  ·refine tk c4 (slc rfl aS) (tkl 0 c4 rfl rfl nA rfl aS (tkl 0 c4 rfl rfl oZ rfl aS ?_));obtain ⟨r5, h6, h3⟩ := bns h3;refine tk c4 (scr call34 (gH _ _ _ h6)) (to (spt (.b r5) c4) ?_);obtain rfl := sIn h3;refine aC (aQ rfl trivial rfl)
  ·refine tp c4 (tp c4 (tp c4 (tp c4 (tp c4 (tp c4 (to (spf Z12 c4) ?_))))));obtain rfl := sIn h3;refine aC (aQ rfl trivial rfl)
 ·refine ta (.b b2) (aC ?_);obtain rfl := sIn h;refine bL (bG (bI (l := [4]) ⟨rfl, trivial⟩)) ?_;exact rt

theorem aFg (e : List bB) (a : Int) (c : Int) {r : Bool} (h : qX e a c = some r) : Fn Tryz.prog 37 [.d (Z22 e), .i a, .i c] (.b r) := by
 unfold qX at h;refine oT [.tmp 6] func37 results37 ntmps37 ?_;refine aD (aB ?_);refine bA rfl (eN (v := .i a) (aI rfl) rfl rfl rfl) ?_;rintro _ ⟨b1, rfl⟩;refine bA rfl (eN (v := .i c) (aI rfl) rfl rfl rfl) ?_;rintro _ ⟨b2, rfl⟩;refine ta Z12 (aC (aD (aB (tm (Z62 e) (to (qR (aI rfl) rfl rfl) ?_)))));obtain ⟨r4, h5, h⟩ := bns h;refine to (sc call58 (lA _ _ 59 [.cp [.j a], .cp [.j c]] call59 (fun _ _ h => aKf _ _ _ h) h5) (.cons (.same _) (.cons (sE (.cons (eM 0 rfl rfl (dvc (.same _) dvn)) (.cons (eM 1 rfl rfl (dvc (.same _) dvn)) .nil))) .nil))) (ta (.b r4) (aC ?_));obtain rfl := sIn h;refine bL (bG (bI (l := [6]) ⟨rfl, trivial⟩)) ?_;exact rt

theorem aEs (c : dF) (a : Int) (e : Int) {r : (List aG)} (h : pR c a e = some r) : Fn Tryz.prog 36 [.cp (gD c), .i a, .i e] (.d (.sl 5 (r.map aF))) := by
 unfold pR at h;refine oT [.tmp 6] func36 results36 ntmps36 ?_;refine aD (aB (to (yB 5 (aI rfl)) ?_));refine aC (aD (aB (to (fP 51 5 (.inl rfl) (aI rfl)) ?_)));refine aC (aD (aD (aB (tm (Z9 c) (to (dZ (aI rfl) rfl) ?_)))));refine to (sfc [.j c.Ledger.Players, .j c.Ledger.Counts, .sl 5 (Z43 c), .sl 3 (Z40 c), .sl 3 (Z45 c)] rfl vX) (to (sfc [.sl 5 (Z43 c)] rfl lZ) (to (slc rfl qQ) (to (sle rfl cL.of) (tm (.i 0) (aC (bF ?_))))));refine bY (S := Int × Z78 × Value) [0, 1, 2, 14, 15] (fun s2 => [(7, .d (.lit s2.2.2)), (16, .i s2.1)]) (fun s2 => [.arr s2.2.2 51 5 (s2.2.1.map aF)]) (fun k s2 => jB c a e c.Ledger.Reports (c.Ledger.Reports.length : Int) k s2.1 s2.2.1) (fun _ => rfl) (0, ([] : List aG), (.slice none 0 0)) h (aR [0] rfl rfl (aL rfl (aL rfl (aP ⟨rfl, rfl, rfl, rfl, rfl, trivial⟩)))) ?_;rintro k4 ⟨o, q, w3⟩ h;simp only [jB] at h;refine aD (aB (to (scm rfl rfl rfl) (aC (aD ?_))));refine tih h (fun c5 h => ?_) (fun c5 h => ?_)
 ·refine aV (aD (bF (aD (aB ?_))));obtain ⟨x6, h7, h⟩ := bns h;refine to (six rfl rfl cL.of (bC aF h7)) (to (aAl (aF x6) rfl fF) ?_);refine bA rfl (eA (zs := [.j 0, .j 0, .j 0, .j 0, .k false]) (aI rfl) zeroValue51 rfl rfl) ?_;rintro _ ⟨b8, rfl⟩;refine to (sst 1 rfl rfl sizeOf51 (aF x6)) (aC (aD ?_));obtain ⟨b9, s, h⟩ := bns h;obtain ⟨C, p, h⟩ := bns h;obtain ⟨x, m, h⟩ := bns h;refine cG mix 29 [0, 1, 2, 7, 9, 14, 15, 16] [(48, .b x)] ?_ ?_
  ·refine bch s (fun l s => ?_) (fun l s => ?_)
   ·obtain rfl := sIn s;refine bch p (fun j p => ?_) (fun j p => ?_)
    ·obtain ⟨n, u, p⟩ := bns p;obtain rfl := sIn p;refine bch m (fun g m => ?_) (fun g m => ?_)
     ·obtain ⟨t, y, m⟩ := bns m;obtain rfl := sIn m;refine ⟨[(20, 0, .bp b8 0 1), (21, 1, .i x6.Player), (22, 2, .i a), (23, 3, .b (decide (x6.Player = a))), (24, 4, .b (decide (x6.Player = a))), (25, 5, .bp b8 0 2), (26, 6, .i x6.Week), (27, 7, .i e), (28, 8, .b (decide (x6.Week ≤ e))), (29, 9, .b (decide (x6.Week ≤ e))), (30, 10, .b (decide (x6.Week ≤ e))), (31, 11, .cp [.j c.Ledger.Players, .j c.Ledger.Counts, .sl 5 (Z43 c), .sl 3 (Z40 c), .sl 3 (Z45 c)]), (32, 12, .agg (aF x6)), (33, 13, .i e), (34, 14, .i n), (35, 15, .b (decide (n < 52))), (36, 16, .b (decide (n < 52))), (37, 17, .b (decide (n < 52))), (38, 18, .cp [.j c.Ledger.Players, .j c.Ledger.Counts, .sl 5 (Z43 c), .sl 3 (Z40 c), .sl 3 (Z45 c)]), (39, 19, .cp [.j c.Ledger.Players, .j c.Ledger.Counts, .sl 5 (Z43 c), .sl 3 (Z40 c), .sl 3 (Z45 c)]), (40, 20, .cp [.j c.Ledger.Players, .j c.Ledger.Counts, .sl 5 (Z43 c), .sl 3 (Z40 c), .sl 3 (Z45 c)]), (41, 21, .cp [.sl 3 (Z40 c)]), (42, 22, .d (.sl 3 (Z40 c))), (43, 23, .i a), (44, 24, .bp b8 0 2), (45, 25, .i x6.Week), (46, 26, .b t), (47, 27, .b (!t)), (48, 28, .b (!t))], ?_, ?_⟩
      · exact dk [0, 1, 0, 203, 4, 5, 506, 5, 50708, 509, 10, 11, 11, 11, 11121314, 1115, 1116, 17, 18, 1819, 1820, 1821, 1822, 18, 18, 1825, 18232426, 1827, 1828] ⟨go (zf rfl uD),
 go (zl 1 rfl rfl rfl aS),
 go (zm (.i a)),
 go (zcm rfl rfl rfl),
 go (zm (.b (decide (x6.Player = a)))),
 gt l (zf rfl rE),
 gt l (zl 1 rfl rfl rfl aS),
 gt l (zm (.i e)),
 gt l (zcm rfl rfl rfl),
 go (zpt (.b (decide (x6.Week ≤ e))) l),
 go (zm (.b (decide (x6.Week ≤ e)))),
 gt j (zm (Z9 c)),
 gt j (zla 1 (aF x6) rfl rfl fF),
 gt j (zm (.i e)),
 gt j fun S hS => fX (aI rfl) (.func _ _ call57) (ev2 (aT hS rfl) (ev2 (aT hS rfl) (ev2 (aT hS rfl) evn))) rfl (BVs.refl _ _) (zW _ _ _ u) rfl,
 gt j (zcm rfl rfl rfl),
 go (zpt (.b (decide (n < 52))) j),
 go (zm (.b (decide (n < 52)))),
 gt g (zm (Z9 c)),
 gt g fun S hS => dZ (aI rfl) (aT hS rfl),
 gt g (zfc [.j c.Ledger.Players, .j c.Ledger.Counts, .sl 5 (Z43 c), .sl 3 (Z40 c), .sl 3 (Z45 c)] rfl vX),
 gt g (zfc [.sl 3 (Z40 c)] rfl yQ),
 gt g (zlc rfl pQ),
 gt g (zm (.i a)),
 gt g (zf rfl rE),
 gt g (zl 1 rfl rfl rfl aS),
 gt g fun S hS => fX (aI rfl) (.func _ _ call37) (ev2 (aT hS rfl) (ev2 (aT hS rfl) (ev2 (aT hS rfl) evn))) rfl (BVs.refl _ _) (aFg _ _ _ y) rfl,
 gt g (zn rfl),
 go (zpt (.b (!t)) g), trivial⟩
      · exact bP (aL rfl (aP ⟨rfl, rfl, rfl, rfl, rfl, rfl, rfl, rfl, trivial⟩))
     ·obtain rfl := sIn m;refine ⟨[(20, 0, .bp b8 0 1), (21, 1, .i x6.Player), (22, 2, .i a), (23, 3, .b (decide (x6.Player = a))), (24, 4, .b (decide (x6.Player = a))), (25, 5, .bp b8 0 2), (26, 6, .i x6.Week), (27, 7, .i e), (28, 8, .b (decide (x6.Week ≤ e))), (29, 9, .b (decide (x6.Week ≤ e))), (30, 10, .b (decide (x6.Week ≤ e))), (31, 11, .cp [.j c.Ledger.Players, .j c.Ledger.Counts, .sl 5 (Z43 c), .sl 3 (Z40 c), .sl 3 (Z45 c)]), (32, 12, .agg (aF x6)), (33, 13, .i e), (34, 14, .i n), (35, 15, .b (decide (n < 52))), (36, 16, .b (decide (n < 52))), (37, 17, .b (decide (n < 52))), (38, 18, .tup []), (39, 19, .tup []), (40, 20, .tup []), (41, 21, .tup []), (42, 22, .tup []), (43, 23, .tup []), (44, 24, .tup []), (45, 25, .tup []), (46, 26, .tup []), (47, 27, .tup []), (48, 28, .b false)], ?_, ?_⟩
      · exact dk [0, 1, 0, 203, 4, 5, 506, 5, 50708, 509, 10, 11, 11, 11, 11121314, 1115, 1116, 17, 18, 1819, 1820, 1821, 1822, 18, 18, 1825, 18232426, 1827, 1828] ⟨go (zf rfl uD),
 go (zl 1 rfl rfl rfl aS),
 go (zm (.i a)),
 go (zcm rfl rfl rfl),
 go (zm (.b (decide (x6.Player = a)))),
 gt l (zf rfl rE),
 gt l (zl 1 rfl rfl rfl aS),
 gt l (zm (.i e)),
 gt l (zcm rfl rfl rfl),
 go (zpt (.b (decide (x6.Week ≤ e))) l),
 go (zm (.b (decide (x6.Week ≤ e)))),
 gt j (zm (Z9 c)),
 gt j (zla 1 (aF x6) rfl rfl fF),
 gt j (zm (.i e)),
 gt j fun S hS => fX (aI rfl) (.func _ _ call57) (ev2 (aT hS rfl) (ev2 (aT hS rfl) (ev2 (aT hS rfl) evn))) rfl (BVs.refl _ _) (zW _ _ _ u) rfl,
 gt j (zcm rfl rfl rfl),
 go (zpt (.b (decide (n < 52))) j),
 go (zm (.b (decide (n < 52)))),
 gp g,
 gp g,
 gp g,
 gp g,
 gp g,
 gp g,
 gp g,
 gp g,
 gp g,
 gp g,
 go (zpf Z12 g), trivial⟩
      · exact bP (aL rfl (aP ⟨rfl, rfl, rfl, rfl, rfl, rfl, rfl, rfl, trivial⟩))
    ·obtain rfl := sIn p;have g : false = false := rfl;have m := nQ g m;obtain rfl := sIn m;refine ⟨[(20, 0, .bp b8 0 1), (21, 1, .i x6.Player), (22, 2, .i a), (23, 3, .b (decide (x6.Player = a))), (24, 4, .b (decide (x6.Player = a))), (25, 5, .bp b8 0 2), (26, 6, .i x6.Week), (27, 7, .i e), (28, 8, .b (decide (x6.Week ≤ e))), (29, 9, .b (decide (x6.Week ≤ e))), (30, 10, .b (decide (x6.Week ≤ e))), (31, 11, .tup []), (32, 12, .tup []), (33, 13, .tup []), (34, 14, .tup []), (35, 15, .tup []), (36, 16, .b false), (37, 17, .b (false)), (38, 18, .tup []), (39, 19, .tup []), (40, 20, .tup []), (41, 21, .tup []), (42, 22, .tup []), (43, 23, .tup []), (44, 24, .tup []), (45, 25, .tup []), (46, 26, .tup []), (47, 27, .tup []), (48, 28, .b false)], ?_, ?_⟩
     · exact dk [0, 1, 0, 203, 4, 5, 506, 5, 50708, 509, 10, 11, 11, 11, 11121314, 1115, 1116, 17, 18, 1819, 1820, 1821, 1822, 18, 18, 1825, 18232426, 1827, 1828] ⟨go (zf rfl uD),
 go (zl 1 rfl rfl rfl aS),
 go (zm (.i a)),
 go (zcm rfl rfl rfl),
 go (zm (.b (decide (x6.Player = a)))),
 gt l (zf rfl rE),
 gt l (zl 1 rfl rfl rfl aS),
 gt l (zm (.i e)),
 gt l (zcm rfl rfl rfl),
 go (zpt (.b (decide (x6.Week ≤ e))) l),
 go (zm (.b (decide (x6.Week ≤ e)))),
 gp j,
 gp j,
 gp j,
 gp j,
 gp j,
 go (zpf Z12 j),
 go (zm Z66),
 gp g,
 gp g,
 gp g,
 gp g,
 gp g,
 gp g,
 gp g,
 gp g,
 gp g,
 gp g,
 go (zpf Z12 g), trivial⟩
     · exact bP (aL rfl (aP ⟨rfl, rfl, rfl, rfl, rfl, rfl, rfl, rfl, trivial⟩))
   ·obtain rfl := sIn s;have j : false = false := rfl;have p := nQ j p;obtain rfl := sIn p;have g : false = false := rfl;have m := nQ g m;obtain rfl := sIn m;refine ⟨[(20, 0, .bp b8 0 1), (21, 1, .i x6.Player), (22, 2, .i a), (23, 3, .b (decide (x6.Player = a))), (24, 4, .b (decide (x6.Player = a))), (25, 5, .tup []), (26, 6, .tup []), (27, 7, .tup []), (28, 8, .tup []), (29, 9, .b false), (30, 10, .b (false)), (31, 11, .tup []), (32, 12, .tup []), (33, 13, .tup []), (34, 14, .tup []), (35, 15, .tup []), (36, 16, .b false), (37, 17, .b (false)), (38, 18, .tup []), (39, 19, .tup []), (40, 20, .tup []), (41, 21, .tup []), (42, 22, .tup []), (43, 23, .tup []), (44, 24, .tup []), (45, 25, .tup []), (46, 26, .tup []), (47, 27, .tup []), (48, 28, .b false)], ?_, ?_⟩
    · exact dk [0, 1, 0, 203, 4, 5, 506, 5, 50708, 509, 10, 11, 11, 11, 11121314, 1115, 1116, 17, 18, 1819, 1820, 1821, 1822, 18, 18, 1825, 18232426, 1827, 1828] ⟨go (zf rfl uD),
 go (zl 1 rfl rfl rfl aS),
 go (zm (.i a)),
 go (zcm rfl rfl rfl),
 go (zm (.b (decide (x6.Player = a)))),
 gp l,
 gp l,
 gp l,
 gp l,
 go (zpf Z12 l),
 go (zm Z66),
 gp j,
 gp j,
 gp j,
 gp j,
 gp j,
 go (zpf Z12 j),
 go (zm Z66),
 gp g,
 gp g,
 gp g,
 gp g,
 gp g,
 gp g,
 gp g,
 gp g,
 gp g,
 gp g,
 go (zpf Z12 g), trivial⟩
    · exact bP (aL rfl (aP ⟨rfl, rfl, rfl, rfl, rfl, rfl, rfl, rfl, trivial⟩))
  ·refine aC ?_;refine tih h (fun z h => ?_) (fun z h => ?_)
   ·refine aB (tm (.d (.lit w3)) (to (sla 1 (aF x6) rfl rfl fF) (to (gK (aI rfl) cL rfl rfl (rows := ([x6]).map aF) rfl (bD (f := aF) fun _ => rfl) rfl (by decide)) ?_)));obtain ⟨A, B, h⟩ := bns h;refine bA rfl (jC (i := 0) (aI rfl) cL rfl rfl rfl (fun _ => rfl) B rfl) ?_;rintro _ ⟨w, rfl⟩;refine ta (.d (.lit w)) ?_;refine cM ?_;refine aB (to (sar rfl rfl rfl) (tm (.i (w64 (o + 1))) (aC ?_)));exact ⟨(w64 (o + 1), A, w), h, aR [0] rfl rfl (aL rfl (aL rfl (aP ⟨rfl, rfl, rfl, rfl, rfl, trivial⟩)))⟩
   ·refine cK ?_;refine aB (to (sar rfl rfl rfl) (tm (.i (w64 (o + 1))) (aC ?_)));exact ⟨(w64 (o + 1), q, w3), h, aR [0] rfl rfl (aL rfl (aL rfl (aP ⟨rfl, rfl, rfl, rfl, rfl, trivial⟩)))⟩
 ·refine cE ?_;refine .inl ⟨rfl, ?_⟩;simp only [sP] at h;refine aD (aB (tm (.d (.lit w3)) (ta (.d (.lit w3)) (aC ?_))));obtain rfl := sIn h;refine bL (bG (dK (k := 6) (v := .d (.sl 5 (q.map aF))) (.d (bW 0 rfl (bD (f := aF) fun _ => rfl))) (aAo))) ?_;exact rt

theorem uO (a : List Int) {r : Int} (h : lD a = some r) : Fn Tryz.prog 54 [.d (Z35 a)] (.i r) := by
 unfold lD at h;refine oT [.tmp 2] func54 results54 ntmps54 ?_;refine aD (aB (ta (.i 0) (aC (aD (aB (ta (.i 0) (aC (aD (aD (aB (tm (.d (Z35 a)) (to (sle rfl bZ.of) (tm (.i 0) ?_)))))))))))));refine aC (bF ?_);refine bY (S := Int) [3, 6, 7] (fun s1 => [(8, .i s1)]) (fun s1 => []) (fun k s1 => lE 0 a (a.length : Int) k s1) (fun _ => rfl) (0) h (aR [] rfl rfl (aL rfl (aP ⟨rfl, rfl, rfl, trivial⟩))) ?_;rintro k2 b h;simp only [lE] at h;refine aD (aB (to (scm rfl rfl rfl) (aC (aD ?_))));refine tih h (fun c3 h => ?_) (fun c3 h => ?_)
 ·refine aV (aD (bF (aD (aB ?_))));obtain ⟨x4, h5, h⟩ := bns h;refine to (six rfl rfl bZ.of (bC aJ h5)) (to (slc rfl aS) (ta (.i x4) (aC (aD (aB (tm (.i x4) (tm (.i 0) (to (scm rfl rfl rfl) (aC ?_)))))))));refine tih h (fun c6 h => ?_) (fun c6 h => ?_)
  ·refine aD (aB (tm (.i x4) (ta (.i x4) (aC ?_))));obtain rfl := sIn h;exact rt
  ·refine cK ?_;refine aB (to (sar rfl rfl rfl) (tm (.i (w64 (b + 1))) (aC ?_)));exact ⟨(w64 (b + 1)), h, aR [] rfl rfl (aL rfl (aP ⟨rfl, rfl, rfl, trivial⟩))⟩
 ·refine cE ?_;refine .inl ⟨rfl, ?_⟩;simp only [rK] at h;refine aD (aB (tm (.i 0) (ta (.i 0) (aC ?_))));obtain rfl := sIn h;exact rt

theorem aCw (a : aG) (c : aG) {r : Int} (h : mN a c = some r) : Fn Tryz.prog 62 [.agg (aF a), .agg (aF c)] (.i r) := by
 unfold mN at h;refine oT [.tmp 4] func62 results62 ntmps62 ?_;refine aD (aB ?_);refine bA rfl (eN (v := .agg (aF a)) (aI rfl) rfl rfl rfl) ?_;rintro _ ⟨b1, rfl⟩;refine bA rfl (eN (v := .agg (aF c)) (aI rfl) rfl rfl rfl) ?_;rintro _ ⟨b2, rfl⟩;refine ta (.i 0) (aC (aD (bF (aD (aB (tfl 0 rfl rfl uE rfl fI (tfl 1 rfl rfl uE rfl fI (to (aTl (aI rfl) rfl rfl underlying4) ?_))))))));refine tm (.b (!decide (a.Must = c.Must))) ?_;obtain ⟨b3, h4, h⟩ := bns h;refine aZ 3 [2, 3] 14 b3 ?_ ?_
 ·refine bch h4 (fun c9 h4 => ?_) (fun c9 h4 => ?_)
  ·refine tkl 0 c9 rfl rfl uE rfl fI (to (spt (.b a.Must) c9) ?_);obtain rfl := sIn h4;refine aC (aQ rfl ⟨rfl, rfl, trivial⟩ rfl)
  ·refine tp c9 (tp c9 (to (spf Z12 c9) ?_));obtain rfl := sIn h4;refine aC (aQ rfl ⟨rfl, rfl, trivial⟩ rfl)
 ·refine ta (.b b3) (aC ?_);refine tih h (fun c5 h => ?_) (fun c5 h => ?_)
  ·refine aD (aB (ta (.i (-1)) (aC ?_)));obtain rfl := sIn h;refine bL (bG (bI (l := [4]) ⟨rfl, trivial⟩)) ?_;exact rt
  ·refine aD (aB (tfl 0 rfl rfl uE rfl fI (tfl 1 rfl rfl uE rfl fI (to (aTl (aI rfl) rfl rfl underlying4) ?_))));refine ta (.b (!decide (a.Must = c.Must))) (aC ?_);refine tih h (fun c6 h => ?_) (fun c6 h => ?_)
   ·refine aD (aB (ta (.i 1) (aC ?_)));obtain rfl := sIn h;refine bL (bG (bI (l := [4]) ⟨rfl, trivial⟩)) ?_;exact rt
   ·refine cK ?_;refine aD (aB (tfl 1 rfl rfl vR rfl aS (tfl 0 rfl rfl vR rfl aS (to (sar rfl rfl rfl) (tfl 0 rfl rfl oB rfl aS (tfl 1 rfl rfl oB rfl aS (to (sar rfl rfl rfl) (to (gK (aI rfl) bZ rfl rfl (rows := ([w64 (c.Points - a.Points), w64 (a.Id - c.Id)]).map aJ) rfl (bD (f := aJ) fun _ => rfl) rfl (by decide)) ?_))))))));obtain ⟨r7, h8, h⟩ := bns h;refine to (scr call54 (uO _ h8)) (ta (.i r7) (aC ?_));obtain rfl := sIn h;refine bL (bG (bI (l := [4]) ⟨rfl, trivial⟩)) ?_;exact rt

theorem aEu (b : dF) (e : List aG) {r : (List aG)} (h : pT b e = some r) : Fn Tryz.prog 39 [.cp (gD b), .d (Z33 e)] (.d (.sl 5 (r.map aF))) := by
 unfold pT at h;refine oT [.tmp 4] func39 results39 ntmps39 ?_;refine aD (aB (to (yB 5 (aI rfl)) ?_));refine aC (aD (aB (tm (.d (Z33 e)) ?_)));obtain ⟨r1, h2, h⟩ := bns h;refine bA rfl (mD (aI rfl) (.func _ _ call60) rfl rfl (rN _ h2)) ?_;rintro _ ⟨v3, rfl⟩;refine ta (.d (.lit v3)) (aC (aD (aB (tm (.d (.lit v3)) ?_))));obtain ⟨r6, h7, h⟩ := bns h;refine bA rfl (cU (passed := [.arr v3 51 5 (r1.map aF)]) (aI rfl) rfl (.func _ _ call61) rfl rfl (oJ r1 (fun y4 y5 => mN y4 y5) 62 [] call62 (fun _ _ _ h => aCw _ _ h) h7)) ?_;rintro _ ⟨_, _, ⟨rfl, rfl⟩, rfl⟩;refine aC (aD (aB (ta (.i 0) (aC (aD (aD (aB (tm (.d (.lit v3)) (to (fJ (m := 0) (aI rfl) rfl rfl cL.of) ?_)))))))));refine tm (.i 0) (aC (bF ?_));refine bY (S := Int × Int) [0, 5, 13, 14] (fun s8 => [(6, .i s8.1), (15, .i s8.2)]) (fun s8 => [.arr v3 51 5 (r6.map aF)]) (fun k s8 => iC b (r6.length : Int) r6 k s8.1 s8.2) (fun _ => rfl) (0, 0) h (aR [0] rfl rfl (aL rfl (aL rfl (aP ⟨rfl, rfl, rfl, rfl, trivial⟩)))) ?_;rintro k9 ⟨a, c⟩ h;simp only [iC] at h;refine aD (aB (to (scm rfl rfl rfl) (aC (aD ?_))));refine tih h (fun n h => ?_) (fun n h => ?_)
 ·refine aV (aD (bF (aD (aB ?_))));obtain ⟨g, j, h⟩ := bns h;refine to (iX (m := 0) (aI rfl) rfl rfl rfl cL.of (bC aF j)) ?_;refine to (cP (aI rfl) rfl (l := 0) rfl (dN aF j) fF (es := (aF g)) rfl rfl) ?_;refine bA rfl (eA (zs := [.j 0, .j 0, .j 0, .j 0, .k false]) (aI rfl) zeroValue51 rfl rfl) ?_;rintro _ ⟨s, rfl⟩;refine to (sst 1 rfl rfl sizeOf51 (aF g)) (aC (aD (aB (tfl 1 rfl rfl uE rfl fI (aC ?_)))));refine tih h (fun o h => ?_) (fun o h => ?_)
  ·refine aB (tm (.i a) (to (sar rfl rfl rfl) (ta (.i (w64 (a + 1))) ?_)));refine cM ?_;refine aB (to (sar rfl rfl rfl) (tm (.i (w64 (c + 1))) (aC ?_)));exact ⟨(w64 (a + 1), w64 (c + 1)), h, aR [0] rfl rfl (aL rfl (aL rfl (aP ⟨rfl, rfl, rfl, rfl, trivial⟩)))⟩
  ·refine cK ?_;refine aB (to (sar rfl rfl rfl) (tm (.i (w64 (c + 1))) (aC ?_)));exact ⟨(a, w64 (c + 1)), h, aR [0] rfl rfl (aL rfl (aL rfl (aP ⟨rfl, rfl, rfl, rfl, trivial⟩)))⟩
 ·refine cE ?_;refine .inl ⟨rfl, ?_⟩;simp only [nN] at h;refine aD (aB (tm (.d (.lit v3)) (tm (.d (.lit v3)) (to (fJ (m := 0) (aI rfl) rfl rfl cL.of) ?_))));refine tm (.i a) (tm (Z9 b) (to (dZ (aI rfl) rfl) ?_));refine to (sfc [.j b.Ledger.Players, .j b.Ledger.Counts, .sl 5 (Z43 b), .sl 3 (Z40 b), .sl 3 (Z45 b)] rfl vX) (to (sfc [.j b.Ledger.Counts] rfl aFw) (to (slc rfl aS) (to (aPn (aI rfl) rfl rfl) ?_)));refine to (aPo (aI rfl) rfl rfl) ?_;refine dR (aAt [] [.arr v3 51 5 (r6.map aF)] rfl (dK (k := 25) (v := .d (.sl 5 (r6.map aF))) (.d (bW 0 rfl (bD (f := aF) fun _ => rfl))) (dK (k := 24) (v := .d (.sl 5 (r6.map aF))) (.d (bW 0 rfl (bD (f := aF) fun _ => rfl))) (dK (k := 13) (v := .d (.sl 5 (r6.map aF))) (.d (bW 0 rfl (bD (f := aF) fun _ => rfl))) (dK (k := 5) (v := .d (.sl 5 (r6.map aF))) (.d (bW 0 rfl (bD (f := aF) fun _ => rfl))) (lU _ _)))))) ?_;obtain ⟨p, q, h⟩ := bns h;refine to (aCk (aI rfl) cL.of rfl rfl rfl (aIu aF q)) ?_;refine ta (.d (.sl 5 (p.map aF))) (aC ?_);obtain rfl := sIn h;exact rt

theorem aPi (b : List aG) {r : Int} (h : zE b = some r) : Fn Tryz.prog 38 [.d (Z33 b)] (.i r) := by
 unfold zE at h;refine oT [.tmp 2] func38 results38 ntmps38 ?_;refine aD (aB (ta (.i 0) (aC (aD (aD (aB (tm (.d (Z33 b)) (to (sle rfl cL.of) (tm (.i 0) (aC (bF ?_)))))))))));refine bY (S := Int × Int) [5, 6] (fun s1 => [(2, .i s1.1), (7, .i s1.2)]) (fun s1 => []) (fun k s1 => qG b (b.length : Int) k s1.1 s1.2) (fun _ => rfl) (0, 0) h (aR [] rfl rfl (aL rfl (aL rfl (aP ⟨rfl, rfl, trivial⟩)))) ?_;rintro k2 ⟨a, c⟩ h;simp only [qG] at h;refine aD (aB (to (scm rfl rfl rfl) (aC (aD ?_))));refine tih h (fun c3 h => ?_) (fun c3 h => ?_)
 ·refine aV (aD (bF (aD (aB ?_))));obtain ⟨x4, h5, h⟩ := bns h;refine to (six rfl rfl cL.of (bC aF h5)) (to (aAl (aF x4) rfl fF) ?_);refine bA rfl (eA (zs := [.j 0, .j 0, .j 0, .j 0, .k false]) (aI rfl) zeroValue51 rfl rfl) ?_;rintro _ ⟨b6, rfl⟩;refine to (sst 0 rfl rfl sizeOf51 (aF x4)) (aC (aB (tm (.i a) (tfl 0 rfl rfl vR rfl aS (to (sar rfl rfl rfl) (ta (.i (w64 (a + x4.Points))) ?_))))));refine cM ?_;refine aB (to (sar rfl rfl rfl) (tm (.i (w64 (c + 1))) (aC ?_)));exact ⟨(w64 (a + x4.Points), w64 (c + 1)), h, aR [] rfl rfl (aL rfl (aL rfl (aP ⟨rfl, rfl, trivial⟩)))⟩
 ·refine cE ?_;refine .inl ⟨rfl, ?_⟩;simp only [aAi] at h;refine aD (aB (tm (.i a) (ta (.i a) (aC ?_))));obtain rfl := sIn h;exact rt

theorem aHh (x : Int) {r : Int} (h : tW x = some r) : Fn Tryz.prog 64 [.d (.lit (.int .u64 x))] (.i r) := aTo (fun x w => Tryz.bits_Len x w) h

theorem rP (p : List aW) (f : Int) (t : Int) (o : aW → aW → Option Int) {r : (List aW)} {a : Value} (g : Nat) (n : List AV) (y : ∀ args w, (callFunc g args).run Tryz.prog w = .ok (.enter g args) w) (z : ∀ (x0 : aW) (x1 : aW) r, o x0 x1 = some r → Fn Tryz.prog g ([.agg (bH x0), .agg (bH x1)] ++ n) (.i r)) (h : dL p f t o = some r) : dB Tryz.prog 83 [.d (.lit a), .i f, .i t, .fn g n] [.arr a 91 4 (p.map bH)] (fun r' o' => r' = .tup [] ∧ o' = [.arr a 91 4 (r.map bH)]) := by
 unfold dL at h;refine iV func83 rfl (rs := []) results83 ntmps83 (Nat.le_of_ble_eq_true rfl) ?_;refine aD (aB (tm (.i f) (to (sar rfl rfl rfl) (ta (.i (w64 (f + 1))) (aC (bF ?_))))));refine bY (S := Int × (List aW)) [1, 2, 3] (fun s1 => [(0, .d (.lit a)), (8, .i s1.1)]) (fun s1 => [.arr a 91 4 (s1.2.map bH)]) (fun k s1 => cD f t o k s1.1 s1.2) (fun _ => rfl) (w64 (f + 1), p) h (aR [0] rfl rfl (aL rfl (aL rfl (aP ⟨rfl, rfl, rfl, trivial⟩)))) ?_;rintro k2 ⟨j, q⟩ h;simp only [cD] at h;refine aD (aD (aB (tm (.i j) (tm (.i t) (to (scm rfl rfl rfl) (aC ?_))))));refine tih h (fun c3 h => ?_) (fun c3 h => ?_)
 ·refine aV (aD (bF (aD (aB (tm (.i j) (ta (.i j) (aC ?_)))))));refine aBh ?_;refine bY (S := Int × (List aW)) [1, 2, 3, 8] (fun s4 => [(0, .d (.lit a)), (9, .i s4.1)]) (fun s4 => [.arr a 91 4 (s4.2.map bH)]) (fun k s4 => cQ (cD f t o k2) f t o j k s4.1 s4.2) (fun _ => rfl) (j, q) h (aR [0] rfl rfl (aL rfl (aL rfl (aP ⟨rfl, rfl, rfl, rfl, trivial⟩)))) ?_;rintro k5 ⟨c, e⟩ h;simp only [cQ] at h;refine aD (aD ?_);obtain ⟨b6, h7, h⟩ := bns h;refine cG mix 17 [0, 1, 2, 3, 8, 9] [(34, .b b6)] ?_ ?_
  ·refine bch h7 (fun c8 h7 => ?_) (fun c8 h7 => ?_)
   ·obtain ⟨x9, A, h7⟩ := bns h7;obtain ⟨B, C, h7⟩ := bns h7;obtain ⟨x, I, h7⟩ := bns h7;obtain rfl := sIn h7;refine ⟨[(18, 0, .i c), (19, 1, .i f), (20, 2, .b (decide (f < c))), (21, 3, .b (decide (f < c))), (22, 4, .fn g n), (23, 5, .d (.lit a)), (24, 6, .i c), (25, 7, .ep a 4 c.toNat 0), (26, 8, .agg (bH x9)), (27, 9, .d (.lit a)), (28, 10, .i c), (29, 11, .i (w64 (c - 1))), (30, 12, .ep a 4 (w64 (c - 1)).toNat 0), (31, 13, .agg (bH B)), (32, 14, .i x), (33, 15, .b (decide (x < 0))), (34, 16, .b (decide (x < 0)))], ?_, ?_⟩
    · exact dk [0, 0, 102, 3, 4, 4, 4, 40607, 408, 4, 4, 411, 41012, 413, 4050914, 415, 416] ⟨go (zm (.i c)),
 go (zm (.i f)),
 go (zcm rfl rfl rfl),
 go (zm (.b (decide (f < c)))),
 gt c8 (zm (.fn g n)),
 gt c8 (zm (Z39 a)),
 gt c8 (zm (.i c)),
 gt c8 (zia 0 rfl rfl rfl vF.of (bC bH A)),
 gt c8 fun S hS => cP (aI rfl) (aT hS rfl) (l := 0) rfl (dN bH A) aAn (es := (bH x9)) rfl rfl,
 gt c8 (zm (Z39 a)),
 gt c8 (zm (.i c)),
 gt c8 (zar rfl rfl rfl),
 gt c8 (zia 0 rfl rfl rfl vF.of (bC bH C)),
 gt c8 fun S hS => cP (aI rfl) (aT hS rfl) (l := 0) rfl (dN bH C) aAn (es := (bH B)) rfl rfl,
 gt c8 fun S hS => fX (aI rfl) (.clo _ _ _ _ y (aCd hS rfl)) (yN (ev2 (aT hS rfl) (ev2 (aT hS rfl) evn))) rfl (BVs.refl _ _) (z _ _ _  I) rfl,
 gt c8 (zcm rfl rfl rfl),
 go (zpt (.b (decide (x < 0))) c8), trivial⟩
    · exact bP (aL rfl (aP ⟨rfl, rfl, rfl, rfl, rfl, rfl, trivial⟩))
   ·obtain rfl := sIn h7;refine ⟨[(18, 0, .i c), (19, 1, .i f), (20, 2, .b (decide (f < c))), (21, 3, .b (decide (f < c))), (22, 4, .tup []), (23, 5, .tup []), (24, 6, .tup []), (25, 7, .tup []), (26, 8, .tup []), (27, 9, .tup []), (28, 10, .tup []), (29, 11, .tup []), (30, 12, .tup []), (31, 13, .tup []), (32, 14, .tup []), (33, 15, .tup []), (34, 16, .b false)], ?_, ?_⟩
    · exact dk [0, 0, 102, 3, 4, 4, 4, 40607, 408, 4, 4, 411, 41012, 413, 4050914, 415, 416] ⟨go (zm (.i c)),
 go (zm (.i f)),
 go (zcm rfl rfl rfl),
 go (zm (.b (decide (f < c)))),
 gp c8,
 gp c8,
 gp c8,
 gp c8,
 gp c8,
 gp c8,
 gp c8,
 gp c8,
 gp c8,
 gp c8,
 gp c8,
 gp c8,
 go (zpf Z12 c8), trivial⟩
    · exact bP (aL rfl (aP ⟨rfl, rfl, rfl, rfl, rfl, rfl, trivial⟩))
  ·refine aC ?_;refine tih h (fun J h => ?_) (fun J h => ?_)
   ·refine aV (aD (bF ?_));obtain ⟨s, E, h⟩ := bns h;obtain ⟨u, F, h⟩ := bns h;obtain ⟨K, G, h⟩ := bns h;refine jP mix 16 [0, 1, 2, 3, 8, 9] (fun v => [(39, .d (.lit a)), (41, .i (w64 (c - 1))), (50, .agg (bH u))]) (fun v => [.arr a 91 4 ((e.set c.toNat s).map bH)]) ?_ ?_
    ·refine ⟨0, fun v => [(37, 0, .d (.lit a)), (38, 1, .i c), (39, 2, .d (.lit a)), (40, 3, .i c), (41, 4, .i (w64 (c - 1))), (42, 5, .d (.lit a)), (43, 6, .i c), (44, 7, .i (w64 (c - 1))), (45, 8, .ep a 4 (w64 (c - 1)).toNat 0), (46, 9, .agg (bH s)), (47, 10, .d (.lit a)), (48, 11, .i c), (49, 12, .ep a 4 c.toNat 0), (50, 13, .agg (bH u)), (51, 14, .ep a 4 c.toNat 0)], fun v => [([(15, .arr a 91 4 ((e.set c.toNat s).map bH))], .arr a 91 4 (e.map bH))], ?_, ?_⟩
     · exact xok [(0, 16), (0, 16), (0, 0), (0, 0), (4, 0), (0, 16), (0, 16), (7, 16), (608, 16), (9, 16), (0, 16), (0, 16), (1112, 16), (13, 16), (102, 16), (1015, 0)] ⟨fun _ _ w _ k => xp w (ym k (Z39 a)),
 fun _ _ w _ k => xp w (ym k (.i c)),
 fun _ _ w _ k => xp w (ym k (Z39 a)),
 fun _ _ w _ k => xp w (ym k (.i c)),
 fun _ _ w _ k => xp w (yar k rfl rfl rfl),
 fun _ _ w _ k => xp w (ym k (Z39 a)),
 fun _ _ w _ k => xp w (ym k (.i c)),
 fun _ _ w _ k => xp w (yar k rfl rfl rfl),
 fun _ _ w _ k => xp w (yia k 0 rfl (og k rfl rfl) rfl vF.of (bC bH E)),
 fun _ _ w _ k => xp w (cP (aI rfl) (aT k rfl) (l := 0) (og k rfl rfl) (dN bH E) aAn (es := (bH s)) rfl rfl),
 fun _ _ w _ k => xp w (ym k (Z39 a)),
 fun _ _ w _ k => xp w (ym k (.i c)),
 fun _ _ w _ k => xp w (yia k 0 rfl (og k rfl rfl) rfl vF.of (bC bH F)),
 fun _ _ w _ k => xp w (cP (aI rfl) (aT k rfl) (l := 0) (og k rfl rfl) (dN bH F) aAn (es := (bH u)) rfl rfl),
 fun _ _ w _ k => xp w (yia k 0 rfl (og k rfl rfl) rfl vF.of (bC bH G)),
 fun _ _ _ _ k => xs 0 k rfl rfl (kM (l := 0) (aT k rfl) (og k rfl rfl) (dN bH G) (aT k rfl) rfl rfl sizeOf91 rfl (aI rfl) (Nat.le_of_ble_eq_true rfl) (rows' := ((e.set c.toNat s)).map bH) (oS _ _ _ _ rfl)), trivial⟩
     · exact fun v => bP (aL rfl (aL rfl (aL rfl (aP ⟨rfl, rfl, rfl, rfl, rfl, rfl, trivial⟩))))
    ·intro v;obtain ⟨L, H, h⟩ := bns h;refine to (iX (m := 0) (aI rfl) rfl rfl rfl vF.of (bC bH H)) ?_;refine to (kM (l := 0) rfl rfl (dN bH H) rfl rfl rfl sizeOf91 rfl (aI rfl) (Nat.le_of_ble_eq_true rfl) (rows' := (((e.set c.toNat s).set (w64 (c - 1)).toNat u)).map bH) (oS _ _ _ _ rfl)) ?_;refine cM ?_;refine aB (tm (.i c) (to (sar rfl rfl rfl) (ta (.i (w64 (c - 1))) (aC ?_))));exact ⟨(w64 (c - 1), ((e.set c.toNat s).set (w64 (c - 1)).toNat u)), h, aR [0] rfl rfl (aL rfl (aL rfl (aP ⟨rfl, rfl, rfl, rfl, trivial⟩)))⟩
   ·refine cE ?_;refine .inl ⟨rfl, ?_⟩;simp only [gB] at h;simp only [gA] at h;refine aB (tm (.i j) (to (sar rfl rfl rfl) (ta (.i (w64 (j + 1))) (aC ?_))));exact ⟨(w64 (j + 1), e), h, aR [0] rfl rfl (aL rfl (aL rfl (aP ⟨rfl, rfl, rfl, trivial⟩)))⟩
 ·refine cE ?_;refine .inl ⟨rfl, ?_⟩;simp only [fZ] at h;obtain rfl := sIn h;exact ⟨_, [.arr a 91 4 (q.map bH)], [], _, .none, .refl _, .same _, rfl, rfl⟩

theorem tQ (m : List aW) (t : Int) (u : Int) (j : Int) (l : aW → aW → Option Int) {r : (List aW)} {a : Value} (c : Nat) (e : List AV) (q : ∀ args w, (callFunc c args).run Tryz.prog w = .ok (.enter c args) w) (s : ∀ (x0 : aW) (x1 : aW) r, l x0 x1 = some r → Fn Tryz.prog c ([.agg (bH x0), .agg (bH x1)] ++ e) (.i r)) (h : jJ m t u j l = some r) : dB Tryz.prog 63 [.d (.lit a), .i t, .i u, .i j, .fn c e] [.arr a 91 4 (m.map bH)] (fun r' o' => r' = .tup [] ∧ o' = [.arr a 91 4 (r.map bH)]) := by
 unfold jJ at h;refine iV func63 rfl (rs := []) results63 ntmps63 (Nat.le_of_ble_eq_true rfl) ?_;refine aD (aB (ta Z44 (aC (aD (aB (ta Z44 (aC (bF ?_))))))));refine bY (S := Int × Int × Int × Bool × Bool × (List aW)) [4] (fun s1 => [(0, .d (.lit a)), (1, .i s1.1), (2, .i s1.2.1), (3, .i s1.2.2.1), (10, .b s1.2.2.2.1), (11, .b s1.2.2.2.2.1)]) (fun s1 => [.arr a 91 4 (s1.2.2.2.2.2.map bH)]) (fun k s1 => iP l k s1.1 s1.2.1 s1.2.2.1 s1.2.2.2.1 s1.2.2.2.2.1 s1.2.2.2.2.2) (fun _ => rfl) (t, u, j, true, true, m) h (aR [0] rfl rfl (aL rfl (aL rfl (aL rfl (aL rfl (aL rfl (aL rfl (aP ⟨rfl, trivial⟩)))))))) ?_;rintro k2 ⟨f, g, v, p, o, n⟩ h;simp only [iP] at h;refine bF (aD (aB (tm (.i g) (tm (.i f) (to (sar rfl rfl rfl) (ta (.i (w64 (g - f))) (aC (aD (aD (aB (tm (.i (w64 (g - f))) (to (scm rfl rfl rfl) (aC ?_)))))))))))));refine tih h (fun c3 h => ?_) (fun c3 h => ?_)
 ·refine aD (aB (tm (Z39 a) (tm (.i f) (tm (.i g) (tm (.fn c e) ?_)))));obtain ⟨r4, h5, h⟩ := bns h;refine bA rfl (cU (passed := [.arr a 91 4 (n.map bH)]) (aI rfl) rfl (.func _ _ call83) rfl rfl (rP n f g l c e q s h5)) ?_;rintro _ ⟨_, _, ⟨rfl, rfl⟩, rfl⟩;refine aC ?_;obtain rfl := sIn h;exact cS ⟨rfl, _, [.arr a 91 4 (r4.map bH)], [], _, .none, .refl _, .same _, rfl, rfl⟩
 ·refine aV (aD (aD ?_));cases h

theorem xI (e : List aW) (f : aW → aW → Option Int) {r : (List aW)} {b : Value} (a : Nat) (c : List AV) (g : ∀ args w, (callFunc a args).run Tryz.prog w = .ok (.enter a args) w) (j : ∀ (x0 : aW) (x1 : aW) r, f x0 x1 = some r → Fn Tryz.prog a ([.agg (bH x0), .agg (bH x1)] ++ c) (.i r)) (h : jX e f = some r) : dB Tryz.prog 40 [.d (.lit b), .fn a c] [.arr b 91 4 (e.map bH)] (fun r' o' => r' = .tup [] ∧ o' = [.arr b 91 4 (r.map bH)]) := by
 unfold jX at h;refine iV func40 rfl (rs := []) results40 ntmps40 (Nat.le_of_ble_eq_true rfl) ?_;refine aD (aB (tm (Z39 b) (to (fJ (m := 0) (aI rfl) rfl rfl vF.of) ?_)));refine ta (.i (e.length : Int)) (aC (aB (tm (Z39 b) (tm (.i (e.length : Int)) (tm (.i (e.length : Int)) (to (sQ (aI rfl) rfl runUnderlying3 runUnderlying112) ?_))))));obtain ⟨r1, h2, h⟩ := bns h;refine to (scr call64 (aHh _ h2)) (tm (.fn a c) ?_);obtain ⟨r3, h4, h⟩ := bns h;refine bA rfl (cU (passed := [.arr b 91 4 (e.map bH)]) (aI rfl) rfl (.func _ _ call63) rfl rfl (tQ e 0 (e.length : Int) r1 f a c g j h4)) ?_;rintro _ ⟨_, _, ⟨rfl, rfl⟩, rfl⟩;refine aC ?_;obtain rfl := sIn h;exact ⟨_, [.arr b 91 4 (r3.map bH)], [], _, .none, .refl _, .same _, rfl, rfl⟩

theorem aCx (a : aW) (b : aW) {r : Int} (h : mO a b = some r) : Fn Tryz.prog 41 [.agg (bH a), .agg (bH b)] (.i r) := by
 unfold mO at h;refine oT [.tmp 4] func41 results41 ntmps41 ?_;refine aD (aB ?_);refine bA rfl (eN (v := .agg (bH a)) (aI rfl) rfl rfl rfl) ?_;rintro _ ⟨b1, rfl⟩;refine bA rfl (eN (v := .agg (bH b)) (aI rfl) rfl rfl rfl) ?_;rintro _ ⟨b2, rfl⟩;refine ta (.i 0) (aC (aD (aB (tfl 1 rfl rfl aLd rfl aS (tfl 0 rfl rfl aLd rfl aS (to (sar rfl rfl rfl) (tfl 1 rfl rfl aBx rfl aS (tfl 0 rfl rfl aBx rfl aS (to (sar rfl rfl rfl) ?_)))))))));refine tfl 0 rfl rfl aLe rfl aS (tfl 1 rfl rfl aLe rfl aS (to (sar rfl rfl rfl) (tfl 0 rfl rfl aFy rfl aS (tfl 1 rfl rfl aFy rfl aS (to (sar rfl rfl rfl) (to (gK (aI rfl) bZ rfl rfl (rows := ([w64 (b.points - a.points), w64 (b.musts - a.musts), w64 (a.many - b.many), w64 (a.player - b.player)]).map aJ) rfl (bD (f := aJ) fun _ => rfl) rfl (by decide)) ?_))))));obtain ⟨r3, h4, h⟩ := bns h;refine to (scr call54 (uO _ h4)) (ta (.i r3) (aC ?_));obtain rfl := sIn h;refine bL (bG (bI (l := [4]) ⟨rfl, trivial⟩)) ?_;exact rt

theorem zC (a : dF) (j : Int) {r : (List Int)} (h : jN a j = some r) : Fn Tryz.prog 21 [.cp (gD a), .i j] (.d (.sl 1 (r.map aJ))) := by
 unfold jN at h;refine oT [.tmp 4] func21 results21 ntmps21 ?_;refine aD (aB (to (yB 1 (aI rfl)) ?_));refine aC (aD (aB (to (fP 91 4 (.inl rfl) (aI rfl)) ?_)));refine aC (aD (aD (aB (tm (Z9 a) (to (dZ (aI rfl) rfl) ?_)))));refine to (sfc [.j a.Ledger.Players, .j a.Ledger.Counts, .sl 5 (Z43 a), .sl 3 (Z40 a), .sl 3 (Z45 a)] rfl vX) (to (sfc [.j a.Ledger.Players] rfl lY) (to (slc rfl aS) (tm (.i 0) (aC (bF ?_)))));refine bY (S := Int × (List aW) × Value) [0, 1, 18] (fun s2 => [(5, .d (.lit s2.2.2)), (19, .i s2.1)]) (fun s2 => [.arr s2.2.2 91 4 (s2.2.1.map bH)]) (fun k s2 => fW a j a.Ledger.Players k s2.1 s2.2.1) (fun _ => rfl) (0, ([] : List aW), (.slice none 0 0)) h (aR [0] rfl rfl (aL rfl (aL rfl (aP ⟨rfl, rfl, rfl, trivial⟩)))) ?_;rintro k4 ⟨c, g, w3⟩ h;simp only [fW] at h;refine aD (aB (to (scm rfl rfl rfl) (aC (aD ?_))));refine tih h (fun c5 h => ?_) (fun c5 h => ?_)
 ·refine aV (aD (bF (aD (aB (tm (.i c) (ta (.i c) (aC (aD (aB (tm (Z9 a) (tm (.i c) (tm (.i j) ?_))))))))))));obtain ⟨r6, h7, h⟩ := bns h;refine to (eQ (aI rfl) (.func _ _ call36) rfl rfl (aEs _ _ _ h7)) ?_;refine ta (.d (.sl 5 (r6.map aF))) (aC (aD (aD (aB (tm (Z9 a) (to (dZ (aI rfl) rfl) ?_))))));refine to (sfc [.j a.Ledger.Players, .j a.Ledger.Counts, .sl 5 (Z43 a), .sl 3 (Z40 a), .sl 3 (Z45 a)] rfl vX) (to (sfc [.sl 3 (Z40 a)] rfl yQ) (to (slc rfl pQ) (tm (.i c) (tm (.i j) ?_))));obtain ⟨r8, h9, h⟩ := bns h;refine to (scr call37 (aFg _ _ _ h9)) (tm (.b r8) ?_);obtain ⟨F, t, h⟩ := bns h;refine aZ 4 [0, 1, 5, 6, 7, 18, 19] 38 F ?_ ?_
  ·refine bch t (fun o t => ?_) (fun o t => ?_)
   ·refine tp o (tp o (tp o (to (spt Z44 o) ?_)));obtain rfl := sIn t;refine aC (aQ rfl ⟨rfl, rfl, rfl, rfl, rfl, rfl, rfl, trivial⟩ rfl)
   ·refine tk o (sm (.d (.sl 5 (r6.map aF)))) (tk o (sle rfl cL.of) (tk o (scm rfl rfl rfl) (to (spf (.b (decide ((r6.length : Int) = 0))) o) ?_)));obtain rfl := sIn t;refine aC (aQ rfl ⟨rfl, rfl, rfl, rfl, rfl, rfl, rfl, trivial⟩ rfl)
  ·refine aC ?_;refine tih h (fun G h => ?_) (fun G h => ?_)
   ·refine cE ?_;refine .inl ⟨rfl, ?_⟩;simp only [mM] at h;refine aB (to (sar rfl rfl rfl) (tm (.i (w64 (c + 1))) (aC ?_)));exact ⟨(w64 (c + 1), g, w3), h, aR [0] rfl rfl (aL rfl (aL rfl (aP ⟨rfl, rfl, rfl, trivial⟩)))⟩
   ·refine aV (aD (aB (tm (.i c) (tm (Z9 a) (tm (.d (.sl 5 (r6.map aF))) ?_)))));obtain ⟨X, H, h⟩ := bns h;refine to (eQ (aI rfl) (.func _ _ call39) rfl rfl (aEu _ _ H)) ?_;obtain ⟨x, I, h⟩ := bns h;refine to (scr call38 (aPi _ I)) (tm (.d (.sl 5 (r6.map aF))) (to (sle rfl cL.of) (to (kZ (aI rfl) aWb (zs := [.j 0, .j 0, .j 0, .j 0]) rfl rfl rfl rfl (es := [.j c, .j x, .j 0, .j (r6.length : Int)]) rfl) ?_)));refine bA rfl (eA (zs := [.j 0, .j 0, .j 0, .j 0]) (aI rfl) zeroValue91 rfl rfl) ?_;rintro _ ⟨J, rfl⟩;refine to (sst 1 rfl rfl sizeOf91 (bH (aW.mk c x 0 (r6.length : Int)))) (aC (aD (aD (aB (tm (.d (.sl 5 (r6.map aF))) (to (sle rfl cL.of) (tm (.i 0) (aC (bF ?_)))))))));refine bY (S := Int × aW) [0, 1, 5, 8, 18, 19, 47, 48] (fun s => [(49, .i s.1)]) (fun s => [.arr w3 91 4 (g.map bH), .box J 0 (bH s.2)]) (fun k s => jO (fW a j a.Ledger.Players k4) a j a.Ledger.Players c r6 (r6.length : Int) g k s.1 s.2) (fun _ => rfl) (0, (aW.mk c x 0 (r6.length : Int))) h (aR [0, 1] rfl rfl (aL rfl (aP ⟨rfl, rfl, rfl, rfl, rfl, rfl, rfl, rfl, trivial⟩))) ?_;rintro Y ⟨n, e⟩ h;simp only [jO] at h;refine aD (aB (to (scm rfl rfl rfl) (aC (aD ?_))));refine tih h (fun K h => ?_) (fun K h => ?_)
    ·refine aV (aD (bF (aD (aB ?_))));obtain ⟨w, L, h⟩ := bns h;refine to (six rfl rfl cL.of (bC aF L)) (to (aAl (aF w) rfl fF) ?_);refine bA rfl (eA (zs := [.j 0, .j 0, .j 0, .j 0, .k false]) (aI rfl) zeroValue51 rfl rfl) ?_;rintro _ ⟨Z, rfl⟩;refine to (sst 2 rfl rfl sizeOf51 (aF w)) (aC (aD (aB (tfl 2 rfl rfl uE rfl fI (aC ?_)))));refine tih h (fun M h => ?_) (fun M h => ?_)
     ·refine aB (tfl 1 rfl rfl aBx rfl aS (tfl 2 rfl rfl vR rfl aS (to (sar rfl rfl rfl) (to (sf rfl aBx) (to (sst 1 rfl rfl sizeOf3 (bH (aW.mk e.player e.points (w64 (e.musts + w.Points)) e.many))) ?_)))));refine cM ?_;refine aB (to (sar rfl rfl rfl) (tm (.i (w64 (n + 1))) (aC ?_)));exact ⟨(w64 (n + 1), (aW.mk e.player e.points (w64 (e.musts + w.Points)) e.many)), h, aR [0, 1] rfl rfl (aL rfl (aP ⟨rfl, rfl, rfl, rfl, rfl, rfl, rfl, rfl, trivial⟩))⟩
     ·refine cK ?_;refine aB (to (sar rfl rfl rfl) (tm (.i (w64 (n + 1))) (aC ?_)));exact ⟨(w64 (n + 1), e), h, aR [0, 1] rfl rfl (aL rfl (aP ⟨rfl, rfl, rfl, rfl, rfl, rfl, rfl, rfl, trivial⟩))⟩
    ·refine cE ?_;refine .inl ⟨rfl, ?_⟩;simp only [qL] at h;refine aB (tm (.d (.lit w3)) (to (sla 1 (bH e) rfl rfl aAn) (to (gK (aI rfl) vF rfl rfl (rows := ([e]).map bH) rfl (bD (f := bH) fun _ => rfl) rfl (by decide)) ?_)));obtain ⟨N, O, h⟩ := bns h;refine bA rfl (jC (i := 0) (aI rfl) vF rfl rfl rfl (fun _ => rfl) O rfl) ?_;rintro _ ⟨B, rfl⟩;refine ta (.d (.lit B)) ?_;refine cM ?_;simp only [mM] at h;refine aB (to (sar rfl rfl rfl) (tm (.i (w64 (c + 1))) (aC ?_)));exact ⟨(w64 (c + 1), N, B), h, aR [0] rfl rfl (aL rfl (aL rfl (aP ⟨rfl, rfl, rfl, trivial⟩)))⟩
 ·refine cE ?_;refine .inl ⟨rfl, ?_⟩;simp only [oG] at h;refine aD (aB (tm (.d (.lit w3)) ?_));obtain ⟨y, P, h⟩ := bns h;refine bA rfl (cU (passed := [.arr w3 91 4 (g.map bH)]) (aI rfl) rfl (.func _ _ call40) rfl rfl (xI g (fun Q T => mO Q T) 41 [] call41 (fun _ _ _ h => aCx _ _ h) P)) ?_;rintro _ ⟨_, _, ⟨rfl, rfl⟩, rfl⟩;refine aC (aD (aB (to (fP 3 1 (.inl rfl) (aI rfl)) ?_)));refine aC (aD (aD (aB (tm (.d (.lit w3)) (to (fJ (m := 0) (aI rfl) rfl rfl vF.of) ?_)))));refine tm (.i 0) (aC (bF ?_));refine bY (S := Int × Z75 × Value) [69, 70] (fun p => [(11, .d (.lit p.2.2)), (71, .i p.1)]) (fun p => [.arr w3 91 4 (y.map bH), .arr p.2.2 3 1 (p.2.1.map aJ)]) (fun k p => kS (y.length : Int) y k p.1 p.2.1) (fun _ => rfl) (0, ([] : List Int), (.slice none 0 0)) h (aR [0, 1] rfl rfl (aL rfl (aL rfl (aP ⟨rfl, rfl, trivial⟩)))) ?_;rintro a0 ⟨q, u, z⟩ h;simp only [kS] at h;refine aD (aB (to (scm rfl rfl rfl) (aC (aD ?_))));refine tih h (fun U h => ?_) (fun U h => ?_)
  ·refine aV (aD (bF (aD (aB ?_))));obtain ⟨A, C, h⟩ := bns h;refine to (iX (m := 0) (aI rfl) rfl rfl rfl vF.of (bC bH C)) ?_;refine to (cP (aI rfl) rfl (l := 0) rfl (dN bH C) aAn (es := (bH A)) rfl rfl) ?_;refine bA rfl (eA (zs := [.j 0, .j 0, .j 0, .j 0]) (aI rfl) zeroValue91 rfl rfl) ?_;rintro _ ⟨a1, rfl⟩;refine to (sst 2 rfl rfl sizeOf91 (bH A)) (aC (aB (tm (.d (.lit z)) (tfl 2 rfl rfl aFy rfl aS (to (gK (aI rfl) bZ rfl rfl (rows := ([A.player]).map aJ) rfl (bD (f := aJ) fun _ => rfl) rfl (by decide)) ?_)))));obtain ⟨V, W, h⟩ := bns h;refine bA rfl (jC (i := 1) (aI rfl) bZ rfl rfl rfl (fun _ => rfl) W rfl) ?_;rintro _ ⟨E, rfl⟩;refine ta (.d (.lit E)) ?_;refine cM ?_;refine aB (to (sar rfl rfl rfl) (tm (.i (w64 (q + 1))) (aC ?_)));exact ⟨(w64 (q + 1), V, E), h, aR [0, 1] rfl rfl (aL rfl (aL rfl (aP ⟨rfl, rfl, trivial⟩)))⟩
  ·refine cE ?_;refine .inl ⟨rfl, ?_⟩;simp only [tD] at h;refine aD (aB (tm (.d (.lit z)) (ta (.d (.lit z)) (aC ?_))));obtain rfl := sIn h;refine bL (bG (dK (k := 4) (v := .d (.sl 1 (u.map aJ))) (.d (bW 1 rfl (bD (f := aJ) fun _ => rfl))) (aAo))) ?_;exact rt

theorem aFf (b : aU) (a : Int) {r : (List Int) × Int} (h : qW b a = some r) : Fn Tryz.prog 10 [.agg (aY b), .i a] (.tup [.d (.sl 1 (r.1.map aJ)), .i r.2]) := by
 unfold qW at h;refine oT [.tmp 4, .tmp 5] func10 results10 ntmps10 ?_;refine aD (aB ?_);refine bA rfl (eN (v := .agg (aY b)) (aI rfl) rfl rfl rfl) ?_;rintro _ ⟨b1, rfl⟩;refine to (yB 1 (aI rfl)) ?_;refine ta (.i 0) (aC (aD (aB (to (sla 0 (aY b) rfl rfl oF) (tm (.i a) ?_)))));obtain ⟨r2, h3, h⟩ := bns h;refine bA rfl (cU (passed := []) (aI rfl) rfl (.func _ _ call19) rfl rfl (aHp _ _ _ h3)) ?_;rintro _ ⟨_, _, ⟨b5, w6, rfl, rfl⟩, rfl⟩;obtain ⟨_ | y4, e7⟩ := r2
 ·have h := aLx h;refine dR (aR [0] rfl rfl (le_refl _)) ?_;refine tm (.tup [.d Z34, .i e7]) (to (sex rfl rfl) (to (sex rfl rfl) (ta (.d Z34) (ta (.i e7) (aC (aD (aD (aB (tm (.i e7) (to (scm rfl rfl rfl) (aC ?_)))))))))));refine tih h (fun c8 h => ?_) (fun c8 h => ?_)
  ·refine aD (aB (tm (.i e7) (to (yB 1 (aI rfl)) ?_)));refine ta (.i e7) (aC ?_);obtain rfl := sIn h;refine bL (bG (bI (l := [4, 5]) ⟨rfl, rfl, trivial⟩)) ?_;exact cS ⟨rfl, _, .two _ _, rfl, rfl⟩
  ·refine aV (aD (aB (tm (.d Z34) (tm (.i a) ?_))));cases h
 ·have h := aLy h;refine dR (aR [0, 1, 2] rfl rfl (le_refl _)) ?_;refine tm (.tup [.bp b5 0 0, .i e7]) (to (sex rfl rfl) (to (sex rfl rfl) (ta (.bp b5 0 0) (ta (.i e7) (aC (aD (aD (aB (tm (.i e7) (to (scm rfl rfl rfl) (aC ?_)))))))))));refine tih h (fun c9 h => ?_) (fun c9 h => ?_)
  ·refine aD (aB (tm (.i e7) (to (yB 1 (aI rfl)) ?_)));refine ta (.i e7) (aC ?_);obtain rfl := sIn h;refine bL (bG (bI (l := [4, 5]) ⟨rfl, rfl, trivial⟩)) ?_;exact cS ⟨rfl, _, .two _ _, rfl, rfl⟩
  ·refine aV (aD (aB (tm (.bp b5 0 0) (tm (.i a) ?_))));refine dR (aR [2, 0, 1] rfl rfl (le_refl _)) ?_;apply wI [.box b1 0 (aY b)] [.box b5 0 [.j y4.Ledger.Players, .j y4.Ledger.Counts, .lit w6, .sl 3 (y4.Ledger.Bans.map aM), .sl 3 (y4.Ledger.Frozen.map aM)], .arr w6 51 5 (y4.Ledger.Reports.map aF)] rfl;exact dK (k := 17) (v := .cp [.j y4.Ledger.Players, .j y4.Ledger.Counts, .sl 5 (y4.Ledger.Reports.map aF), .sl 3 (y4.Ledger.Bans.map aM), .sl 3 (y4.Ledger.Frozen.map aM)]) (eM 0 rfl rfl (dvc (.same _) (dvc (.same _) (dvc (bW 1 rfl (bD (f := aF) fun _ => rfl)) (dvc (.same _) (dvc (.same _) dvn)))))) (dK (k := 12) (v := .cp [.j y4.Ledger.Players, .j y4.Ledger.Counts, .sl 5 (y4.Ledger.Reports.map aF), .sl 3 (y4.Ledger.Bans.map aM), .sl 3 (y4.Ledger.Frozen.map aM)]) (eM 0 rfl rfl (dvc (.same _) (dvc (.same _) (dvc (bW 1 rfl (bD (f := aF) fun _ => rfl)) (dvc (.same _) (dvc (.same _) dvn)))))) (dK (k := 11) (v := .any) (.any _) (dK (k := 8) (v := .any) (.any _) (dK (k := 6) (v := .cp [.j y4.Ledger.Players, .j y4.Ledger.Counts, .sl 5 (y4.Ledger.Reports.map aF), .sl 3 (y4.Ledger.Bans.map aM), .sl 3 (y4.Ledger.Frozen.map aM)]) (eM 0 rfl rfl (dvc (.same _) (dvc (.same _) (dvc (bW 1 rfl (bD (f := aF) fun _ => rfl)) (dvc (.same _) (dvc (.same _) dvn)))))) (lU _ _)))));obtain ⟨c, e, h⟩ := bns h;refine to (eQ (aI rfl) (.func _ _ call21) rfl rfl (zC _ _ e)) ?_;refine ta (.d (.sl 1 (c.map aJ))) (ta (.i 0) (aC ?_));obtain rfl := sIn h;refine bL (bG (bI (l := [4, 5]) ⟨rfl, rfl, trivial⟩)) ?_;exact cS ⟨rfl, _, .two _ _, rfl, rfl⟩

theorem eS (e : Int) (b : Int) (c : Int) (a : Int) (d : Int) {r : aN} (h : eL e b c a d = some r) : Fn Tryz.prog 32 [.i e, .i b, .i c, .i a, .i d] (.agg (aK r)) := by
 unfold eL at h;refine nY func32 rfl (rs := [.cell 10 41]) results32 ntmps32 (Nat.le_of_ble_eq_true rfl) ?_;refine aD (aB ?_);refine bA rfl (eA (zs := [.j 0, .j 0, .j 0, .j 0, .j 0]) (aI rfl) zeroValue41 rfl rfl) ?_;rintro _ ⟨b1, rfl⟩;refine aC (aD (aB (tm (.i e) (tm (.i b) (tm (.i c) (tm (.i a) (tm (.i d) (to (kZ (aI rfl) aMk (zs := [.j 0, .j 0, .j 0, .j 0, .j 0]) rfl rfl rfl rfl (es := [.j e, .j b, .j c, .j a, .j d]) rfl) ?_))))))));refine to (sst 0 rfl rfl sizeOf41 (aK (aN.mk e b c a d))) (aC ?_);obtain rfl := sIn h;exact cS ⟨rfl, _, [.box b1 0 (aK (aN.mk e b c a d))], .one (.cell 10 41 rfl (i := 0) rfl lL (es := (aK (aN.mk e b c a d))) rfl rfl), .refl _, .same _⟩

theorem aBp {r : bE × (List aN)} (h : lM = some r) : Fn Tryz.prog 18 [] (.tup [.agg (bJ r.1), .d (.sl 5 (r.2.map aK))]) := by
 unfold lM at h;refine nY func18 rfl (rs := [.cell 0 27, .tmp 1]) results18 ntmps18 (Nat.le_of_ble_eq_true rfl) ?_;refine aD (aB ?_);refine bA rfl (eA (zs := [.j 0, .j 0, .j 0, .j 0, .j 0]) (aI rfl) zeroValue27 rfl rfl) ?_;rintro _ ⟨b1, rfl⟩;refine to (yB 5 (aI rfl)) ?_;refine aC (aD (aB (to (kZ (aI rfl) aVy (zs := [.j 0, .j 0, .j 0, .j 0, .j 0]) rfl rfl rfl rfl (es := [.j 3, .j 1, .j 1, .j 10, .j 20]) rfl) ?_)));refine bA rfl (eA (zs := [.j 0, .j 0, .j 0, .j 0, .j 0]) (aI rfl) zeroValue27 rfl rfl) ?_;rintro _ ⟨b2, rfl⟩;refine to (sst 1 rfl rfl sizeOf27 Z41) (aC (aD ?_));obtain ⟨r4, h5, h⟩ := bns h;obtain ⟨r6, h7, h⟩ := bns h;obtain ⟨r8, h9, h⟩ := bns h;obtain ⟨a, n, h⟩ := bns h;obtain ⟨b, o, h⟩ := bns h;obtain ⟨c, p, h⟩ := bns h;obtain ⟨e, q, h⟩ := bns h;obtain ⟨g, s, h⟩ := bns h;obtain ⟨j, t, h⟩ := bns h;obtain ⟨l, u, h⟩ := bns h;obtain ⟨m, x, h⟩ := bns h;refine jP mix 14 [0] (fun X3 => [(16, .d (.sl 5 ((([r4, r6, r8, a, b, c, e, g, j, l, m])).map aK)))]) (fun X3 => [.box b1 0 Z41, .box b2 0 Z41]) ?_ ?_
 ·refine ⟨0, fun X3 => [(4, 0, .agg Z41), (5, 1, .agg (aK r4)), (6, 2, .agg (aK r6)), (7, 3, .agg (aK r8)), (8, 4, .agg (aK a)), (9, 5, .agg (aK b)), (10, 6, .agg (aK c)), (11, 7, .agg (aK e)), (12, 8, .agg (aK g)), (13, 9, .agg (aK j)), (14, 10, .agg (aK l)), (15, 11, .agg (aK m)), (16, 12, .d (.sl 5 ((([r4, r6, r8, a, b, c, e, g, j, l, m])).map aK)))], fun X3 => [([(13, .box b1 0 Z41)], .box b1 0 (bJ (bE.mk 0 0 0 0 0))), ([], .box b2 0 Z41)], ?_, ?_⟩
  · exact xok [(0, 14), (0, 14), (0, 14), (0, 14), (0, 14), (0, 14), (0, 14), (0, 14), (0, 14), (0, 14), (0, 14), (0, 14), (203040506070809101112, 0), (1, 0)] ⟨fun _ _ w _ k => xp w (yla k 1 Z41 rfl (og k rfl rfl) rI),
 fun _ _ w _ _ => xp w (eQ (aI rfl) (.func _ _ call32) (ev2 rfl (ev2 rfl (ev2 rfl (ev2 rfl (ev2 rfl evn))))) rfl (eS _ _ _ _ _ h5)),
 fun _ _ w _ _ => xp w (eQ (aI rfl) (.func _ _ call32) (ev2 rfl (ev2 rfl (ev2 rfl (ev2 rfl (ev2 rfl evn))))) rfl (eS _ _ _ _ _ h7)),
 fun _ _ w _ _ => xp w (eQ (aI rfl) (.func _ _ call32) (ev2 rfl (ev2 rfl (ev2 rfl (ev2 rfl (ev2 rfl evn))))) rfl (eS _ _ _ _ _ h9)),
 fun _ _ w _ _ => xp w (eQ (aI rfl) (.func _ _ call32) (ev2 rfl (ev2 rfl (ev2 rfl (ev2 rfl (ev2 rfl evn))))) rfl (eS _ _ _ _ _ n)),
 fun _ _ w _ _ => xp w (eQ (aI rfl) (.func _ _ call32) (ev2 rfl (ev2 rfl (ev2 rfl (ev2 rfl (ev2 rfl evn))))) rfl (eS _ _ _ _ _ o)),
 fun _ _ w _ _ => xp w (eQ (aI rfl) (.func _ _ call32) (ev2 rfl (ev2 rfl (ev2 rfl (ev2 rfl (ev2 rfl evn))))) rfl (eS _ _ _ _ _ p)),
 fun _ _ w _ _ => xp w (eQ (aI rfl) (.func _ _ call32) (ev2 rfl (ev2 rfl (ev2 rfl (ev2 rfl (ev2 rfl evn))))) rfl (eS _ _ _ _ _ q)),
 fun _ _ w _ _ => xp w (eQ (aI rfl) (.func _ _ call32) (ev2 rfl (ev2 rfl (ev2 rfl (ev2 rfl (ev2 rfl evn))))) rfl (eS _ _ _ _ _ s)),
 fun _ _ w _ _ => xp w (eQ (aI rfl) (.func _ _ call32) (ev2 rfl (ev2 rfl (ev2 rfl (ev2 rfl (ev2 rfl evn))))) rfl (eS _ _ _ _ _ t)),
 fun _ _ w _ _ => xp w (eQ (aI rfl) (.func _ _ call32) (ev2 rfl (ev2 rfl (ev2 rfl (ev2 rfl (ev2 rfl evn))))) rfl (eS _ _ _ _ _ u)),
 fun _ _ w _ _ => xp w (eQ (aI rfl) (.func _ _ call32) (ev2 rfl (ev2 rfl (ev2 rfl (ev2 rfl (ev2 rfl evn))))) rfl (eS _ _ _ _ _ x)),
 fun _ _ w _ k => xp w (gK (aI rfl) gS rfl (pa2 (aT k rfl) (pa2 (aT k rfl) (pa2 (aT k rfl) (pa2 (aT k rfl) (pa2 (aT k rfl) (pa2 (aT k rfl) (pa2 (aT k rfl) (pa2 (aT k rfl) (pa2 (aT k rfl) (pa2 (aT k rfl) (pa2 (aT k rfl) pan))))))))))) (rows := ([r4, r6, r8, a, b, c, e, g, j, l, m]).map aK) rfl (bD (f := aK) fun _ => rfl) rfl (by decide)),
 fun _ _ _ _ k => xs 0 k rfl rfl (mE (i := 0) (aT k rfl) (og k rfl rfl) (aT k rfl) rfl rfl sizeOf27 rfl (aI rfl) (Nat.le_of_ble_eq_true rfl) (ds' := Z41) rfl), trivial⟩
  · exact fun X3 => bP (aL rfl (aP ⟨rfl, trivial⟩))
 ·intro X3;refine ta (.d (.sl 5 ((([r4, r6, r8, a, b, c, e, g, j, l, m])).map aK))) (aC ?_);obtain rfl := sIn h;exact cS ⟨rfl, _, [.box b1 0 Z41, .box b2 0 Z41], .two (.cell 0 27 rfl (i := 0) rfl rI (es := Z41) rfl rfl) (.tmp 1 (v := .d (.sl 5 ((([r4, r6, r8, a, b, c, e, g, j, l, m])).map aK))) rfl), .refl _, .same _⟩

theorem cJ (d : Int) (c : Int) (a : Int) {r : Bool} (h : cN d c a = some r) : Fn Tryz.prog 43 [.i d, .i c, .i a] (.b r) := by
 unfold cN at h;refine oT [.tmp 6] func43 results43 ntmps43 ?_;refine aD (aB (ta Z12 (aC (aD (aB (tm (.i c) (tm (.i d) (to (scm rfl rfl rfl) (tm (Z69 c d) ?_)))))))));obtain ⟨b1, h2, h⟩ := bns h;refine aZ 4 [] 14 b1 ?_ ?_
 ·refine bch h2 (fun c3 h2 => ?_) (fun c3 h2 => ?_)
  ·refine tk c3 (sm (.i d)) (tk c3 (sm (.i a)) (tk c3 (scm rfl rfl rfl) (to (spt (Z69 d a) c3) ?_)));obtain rfl := sIn h2;refine aC (aQ rfl trivial rfl)
  ·refine tp c3 (tp c3 (tp c3 (to (spf Z12 c3) ?_)));obtain rfl := sIn h2;refine aC (aQ rfl trivial rfl)
 ·refine ta (.b b1) (aC ?_);obtain rfl := sIn h;exact rt

theorem aGt (g : bE) {r : Bool} (h : rL g = some r) : Fn Tryz.prog 65 [.agg (bJ g)] (.b r) := by
 unfold rL at h;refine oT [.tmp 2] func65 results65 ntmps65 ?_;refine aD (aB ?_);refine bA rfl (eN (v := .agg (bJ g)) (aI rfl) rfl rfl rfl) ?_;rintro _ ⟨b1, rfl⟩;refine ta Z12 (aC (aD (aB (tfl 0 rfl rfl yR rfl aS ?_))));obtain ⟨r2, h3, h⟩ := bns h;refine to (scr call43 (cJ _ _ _ h3)) (tm (.b r2) ?_);obtain ⟨b4, h5, h⟩ := bns h;refine aZ 4 [1] 10 b4 ?_ ?_
 ·refine bch h5 (fun c h5 => ?_) (fun c h5 => ?_)
  ·refine tkl 0 c rfl rfl aBu rfl aS ?_;obtain ⟨j, k, h5⟩ := bns h5;refine tk c (scr call43 (cJ _ _ _ k)) (to (spt (.b j) c) ?_);obtain rfl := sIn h5;refine aC (aQ rfl ⟨rfl, trivial⟩ rfl)
  ·refine tp c (tp c (tp c (to (spf Z12 c) ?_)));obtain rfl := sIn h5;refine aC (aQ rfl ⟨rfl, trivial⟩ rfl)
 ·refine tm (.b b4) ?_;obtain ⟨b6, h7, h⟩ := bns h;refine aZ 4 [1] 15 b6 ?_ ?_
  ·refine bch h7 (fun d h7 => ?_) (fun d h7 => ?_)
   ·refine tkl 0 d rfl rfl aBv rfl aS ?_;obtain ⟨m, n, h7⟩ := bns h7;refine tk d (scr call43 (cJ _ _ _ n)) (to (spt (.b m) d) ?_);obtain rfl := sIn h7;refine aC (aQ rfl ⟨rfl, trivial⟩ rfl)
   ·refine tp d (tp d (tp d (to (spf Z12 d) ?_)));obtain rfl := sIn h7;refine aC (aQ rfl ⟨rfl, trivial⟩ rfl)
  ·refine tm (.b b6) ?_;obtain ⟨b8, h9, h⟩ := bns h;refine aZ 4 [1] 20 b8 ?_ ?_
   ·refine bch h9 (fun e h9 => ?_) (fun e h9 => ?_)
    ·refine tkl 0 e rfl rfl sK rfl aS ?_;obtain ⟨o, p, h9⟩ := bns h9;refine tk e (scr call43 (cJ _ _ _ p)) (to (spt (.b o) e) ?_);obtain rfl := sIn h9;refine aC (aQ rfl ⟨rfl, trivial⟩ rfl)
    ·refine tp e (tp e (tp e (to (spf Z12 e) ?_)));obtain rfl := sIn h9;refine aC (aQ rfl ⟨rfl, trivial⟩ rfl)
   ·refine tm (.b b8) ?_;obtain ⟨i, f, h⟩ := bns h;refine aZ 6 [] 27 i ?_ ?_
    ·refine bch f (fun a f => ?_) (fun a f => ?_)
     ·refine tkl 0 a rfl rfl lI rfl aS (tkl 0 a rfl rfl sK rfl aS ?_);obtain ⟨q, s, f⟩ := bns f;refine tk a (scr call43 (cJ _ _ _ s)) (to (spt (.b q) a) ?_);obtain rfl := sIn f;refine aC (aQ rfl trivial rfl)
     ·refine tp a (tp a (tp a (tp a (tp a (to (spf Z12 a) ?_)))));obtain rfl := sIn f;refine aC (aQ rfl trivial rfl)
    ·refine ta (.b i) (aC ?_);obtain rfl := sIn h;refine bL (bG (bI (l := [2]) ⟨rfl, trivial⟩)) ?_;exact rt

end Go.Am
