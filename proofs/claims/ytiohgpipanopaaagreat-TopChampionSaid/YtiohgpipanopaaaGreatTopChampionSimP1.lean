/- The functions compute what the shallow ones say: printed by program. -/
import Derived.Test.YtiohgpipanopaaaGreatTlSh
import Derived.Test.YtiohgpipanopaaaGreatAmFam2
import Derived.Test.YtiohgpipanopaaaGreatAmRange
import Derived.Test.YtiohgpipanopaaaGreatAmSort
import Derived.Test.YtiohgpipanopaaaGreatTlShelf
import Derived.Test.YtiohgpipanopaaaGreatAmEnt
import Derived.Test.YtiohgpipanopaaaGreatAmSortF
import Derived.Test.YtiohgpipanopaaaGreatAmRangeC
import Derived.Test.YtiohgpipanopaaaGreatAmBox
import Derived.Test.YtiohgpipanopaaaGreatAmPtr
import Derived.Test.YtiohgpipanopaaaGreatAmLent
import Derived.Test.YtiohgpipanopaaaGreatAmPrim
import Derived.Test.YtiohgpipanopaaaGreatBbDet
import Derived.Test.YtiohgpipanopaaaGreatChecked
import Derived.Test.YtiohgpipanopaaaGreatAmShort
import Derived.KernelRfl
namespace Go.Am
open Go.Proofs
open Go.Proofs.Tryz
set_option maxRecDepth 100000
set_option maxHeartbeats 40000000

abbrev D.j (n : Int) : D := .lit (.int .i64 n)
abbrev D.k (b : Bool) : D := .lit (.bool b)
abbrev VI (n : Int) : Value := .int .i64 n
abbrev Z0 (p0 : bK) : AV := .cp [.j p0.rules.Format.Sets, .j p0.rules.Format.Games, .k p0.rules.Format.NoAd, .j p0.rules.Format.Tie, .j p0.rules.Format.To, .j p0.rules.Format.LastTie, .j p0.rules.Format.LastTo, .j p0.rules.Format.First, .j p0.rules.Format.Then, .k p0.rules.Format.Doubles, .sl 2 (p0.Score.Board.Sets.map aG), .j p0.Score.Board.Games.A, .j p0.Score.Board.Games.B, .j p0.Score.Board.Points.A, .j p0.Score.Board.Points.B, .j p0.Score.Server, .j p0.Score.Ends, .j p0.Score.Balls, .j p0.Score.Winner, .j p0.first, .j p0.won.A, .j p0.won.B, .sl 1 (p0.ties.map dC), .sl 7 (p0.games.map aU)]
abbrev Z1 := aE (aJ.mk (aP.mk (aQ.mk ([] : List aI) (aI.mk 0 0) (aI.mk 0 0)) 0 0 0 0) 0 ([] : List bO) false)
abbrev Z2 (p0 : bA) : AV := .cp [.j p0.Tree.Rounds, .sl 1 (p0.Tree.Slots.map aL), .sl 1 (p0.players.map aL), .mp false (p0.won.map fun p : aD × Int => ((fun a : aD => Value.agg ((aK a).map bJ).toArray) p.1, aL p.2))]
abbrev Z3 : List D := [.sl 2 ((([] : List aI)).map aG), .j 0, .j 0, .j 0, .j 0, .j 0, .j 0, .j 0, .j 0, .j 0, .sl 7 ((([] : List bO)).map aU), .k false]
abbrev Z4 (p0 : aD) (p1 : Int) := aD.mk (w64 (p0.round - 1)) (w64 ((w64 (2 * p0.place)) + p1))
abbrev Z5 := bI (bQ.mk 4 0 ([(bC.mk 1 1 false), (bC.mk 2 1 false), (bC.mk 3 2 false), (bC.mk 4 0 false)]) ([] : List Int))
abbrev Z6 (p0 : aJ) := w64 (p0.Score.Ends + 1)
abbrev Z7 := aI.mk 0 0
abbrev Z8 := bI (bQ.mk 4 1 ([(bC.mk 10 1 false), (bC.mk 20 2 false), (bC.mk 30 1 false)]) ([5, 4]))
abbrev Z9 : AV := .b false
abbrev Z10 (p0 : Int) := w64 ((w64 (p0 + 1)).tdiv 2)
abbrev Z11 (p0 : Nat) (p1 : Nat) (p2 : bK) (p3 : Value) (p4 : Value) (p5 : Value) : List MO := [.box p0 p1 [.j p2.rules.Format.Sets, .j p2.rules.Format.Games, .k p2.rules.Format.NoAd, .j p2.rules.Format.Tie, .j p2.rules.Format.To, .j p2.rules.Format.LastTie, .j p2.rules.Format.LastTo, .j p2.rules.Format.First, .j p2.rules.Format.Then, .k p2.rules.Format.Doubles, .lit p3, .j p2.Score.Board.Games.A, .j p2.Score.Board.Games.B, .j p2.Score.Board.Points.A, .j p2.Score.Board.Points.B, .j p2.Score.Server, .j p2.Score.Ends, .j p2.Score.Balls, .j p2.Score.Winner, .j p2.first, .j p2.won.A, .j p2.won.B, .lit p4, .lit p5], .arr p3 78 2 (p2.Score.Board.Sets.map aG), .arr p4 4 1 (p2.ties.map dC), .arr p5 228 7 (p2.games.map aU)]
abbrev Z12 (p0 : Nat) (p1 : Nat) (p2 : aN) (p3 : Value) (p4 : Nat) (p5 : List Int) (p6 : Nat) (p7 : List (aF × Int)) (p8 : List Nat) (p9 : Nat) : List MO := [.box p0 p1 [.j p2.Rounds, .sl 1 (p2.Slots.map aL), .lit p3, .lit (.map (some p4))], .arr p3 3 1 (p5.map aL), .map p6 (p7.map fun p : aF × Int => ((fun a : aF => Value.agg ((aS a).map bJ).toArray) p.1, (fun v : Int => AV.i v) p.2)) p8 p9]
abbrev Z13 (p0 : aJ) := aP.mk p0.Score.Board p0.Score.Server p0.Score.Ends (w64 (p0.Score.Balls + 1)) p0.Score.Winner
abbrev Z14 : List D := [.sl 2 ((([] : List aI)).map aG), .j 0, .j 0, .j 0, .j 0, .j 0, .j 0, .j 0, .j 0]
abbrev Z15 (p0 : bK) := p0.Score.Board.Sets.map aG
abbrev Z16 (p0 : aN) := p0.Slots.map aL
abbrev Z17 (p0 : List aF) : D := .sl 5 (p0.map aS)
abbrev Z18 (p0 : List Int) : D := .sl 1 (p0.map aL)
abbrev Z19 (p0 : aI) := aG (aI.mk (w64 (p0.A + 1)) p0.B)
abbrev Z20 (p0 : aI) := aG (aI.mk p0.A (w64 (p0.B + 1)))
abbrev Z21 (p0 : bQ) := p0.Persons.map aY
abbrev Z22 : AV := .b true
abbrev Z23 := (([] : List Int)).map aL
abbrev Z24 := aZ (aN.mk 3 ([1, (-1), 2, 3, 4, 5, 6, 7]))
abbrev Z25 := aP.mk (aQ.mk ([] : List aI) Z7 Z7) 0 0 0 0
abbrev Z26 := aO (bH.mk 2 2 false 2 3 0 4 2 2 false)
abbrev Z27 (p0 : bA) := p0.Tree.Slots.map aL
abbrev Z28 (p0 : bK) := w64 (p0.Score.Ends + 1)
abbrev Z29 (p0 : bQ) := w64 (p0.Size - (p0.Persons.length : Int))
abbrev Z30 (p0 : Nat) : List D := [.lit (yv p0)]
abbrev Z31 (p0 : bK) := p0.ties.map dC
abbrev Z32 (p0 : aJ) : AV := .i (p0.Score.Board.Sets.length : Int)
abbrev Z33 := ([] : List Int).map aL
abbrev Z34 (p0 : Int) (p1 : Int) (p2 : Int) := (w64 ((w64 (p0 + p1)) + (Z10 p2))).tmod 2
abbrev Z35 (p0 : bQ) := [w64 (p0.Size.tdiv 4), w64 ((w64 (p0.Size - 1)) - (w64 (p0.Size.tdiv 4)))]
abbrev Z36 (p0 : Int) (p1 : Int) := (w64 ((w64 (p0 + p1)) + 0)).tmod 2
abbrev Z37 : List Int := [0, 0, 0, 0, 1, 1, 1, 1, 0, 0, 0, 0, 0, 0, 0, 0, 1, 1, 1, 1]
abbrev Z38 (p0 : Nat) : D := .lit (.map (some p0))
abbrev Z39 := [(aF.mk 1 1 0 2 0), (aF.mk 3 0 3 7 0), (aF.mk 5 0 4 8 4)]
abbrev Z40 := ([] : List aI).map aG
abbrev Z41 := ([] : List bO).map aU
abbrev Z42 := cM fE (none : Option bK)
abbrev Z43 (p0 : Int) : AV := .b (decide (p0 = (-1)))
abbrev Z44 := (([] : List bC)).map aY
abbrev Z45 (p0 : bQ) := p0.Lots.map aL
abbrev Z46 (p0 : List Int) : List D := [.sl 1 (p0.map aL)]
abbrev Z47 (p0 : aJ) := aP.mk (aQ.mk p0.Score.Board.Sets p0.Score.Board.Games Z7) p0.Score.Server p0.Score.Ends p0.Score.Balls p0.Score.Winner
abbrev Z48 (p0 : bA) := p0.players.map aL
abbrev Z49 (p0 : bK) := p0.games.map aU
abbrev Z50 (p0 : aN) := w64 (1 * 2 ^ (min p0.Rounds.toNat 64))
abbrev Z51 := [(bC.mk 1 1 false), (bC.mk 2 1 false), (bC.mk 3 2 false), (bC.mk 4 0 false)]
abbrev Z52 (p0 : Int) (p1 : Int) : AV := .b (decide (p0 ≤ p1))
abbrev Z53 (p0 : Int) (p1 : Int) := p0.fdiv (2 ^ (min (w64 (p1 + 1)).toNat 64))
abbrev Z54 (p0 : Int) (p1 : gP) := w64 (p0 - p1.Format.First)
abbrev Z55 (p0 : aJ) : D := .sl 7 (p0.Games.map aU)
abbrev Z56 := aY (bC.mk 0 0 false)
abbrev Z57 (p0 : aJ) : AV := .i (p0.Games.length : Int)
abbrev Z58 (p0 : gP) := cP (iC.mk p0.Format.LastTie p0.Format.LastTo)
abbrev Z59 := [(bC.mk 10 1 false), (bC.mk 20 2 false), (bC.mk 30 1 false)]
abbrev Z60 (p0 : aD) (p1 : Int) := w64 ((w64 (2 * p0.place)) + p1)
abbrev Z61 : List D := [.lit (.slice none 0 0)]
abbrev Z62 : D := .lit (.slice none 0 0)
abbrev Z63 := w64 ((0 : Int).tdiv 2)
abbrev Z64 : List MO := [.arr (.slice none 0 0) 3 1 Z33]
abbrev Z65 := fV (dZ.mk 0 0)
abbrev Z66 (p0 : bQ) : AV := .i (p0.Persons.length : Int)
abbrev Z67 : AV := .b (false)
abbrev Z68 (p0 : aN) (p1 : List aF) : List AV := [.agg (aZ p0), .d (Z17 p1)]
abbrev Z69 (p0 : List Int) : AV := .d (Z18 p0)
abbrev Z70 := aF.mk 0 0 0 0 0
abbrev Z71 (p0 : gP) := cP (iC.mk p0.Format.Tie p0.Format.To)
abbrev Z72 := ([] : List aI)
abbrev Z73 (p0 : aJ) : D := .sl 2 (p0.Score.Board.Sets.map aG)
abbrev Z74 (p0 : Nat) (p1 : Nat) : AV := .bp p0 p1 0
abbrev Z75 (p0 : aN) (p1 : List aF) (p2 : Int) (p3 : Int) : List AV := [.agg (aZ p0), .d (Z17 p1), .i p2, .i p3]
abbrev Z76 (p0 : aJ) := w64 ((Z6 p0) + 1)
theorem mix : Tryz.prog.follows .mixedOrders = true := Checked.mixed Tryz.checked

theorem jW : jP Tryz.prog 25 4 := ⟨isAgg25, sizeOf25⟩
theorem cF : SliceTy Tryz.prog 23 3 1 8 (.int .i64 0) := ⟨underlying23, ⟨Tryz.t3, by kernel_rfl, rfl, rfl, rfl⟩, rfl, by decide⟩
theorem kN : cE Tryz.prog 25 0 0 := bW runUnderlying25 rfl rfl sizeOf3
theorem aT : iG Tryz.prog 3 := ⟨isAgg3, sizeOf3⟩
theorem aYm : iP Tryz.prog 38 (.agg #[.int .i64 0, .slice none 0 0]) [(0, 1), (1, 1)] := ⟨zeroValue38, _, runUnderlying38, fun w => by simp [sizeOf23, sizeOf3]⟩
theorem iQ : jP Tryz.prog 38 2 := ⟨isAgg38, sizeOf38⟩
theorem qV : cE Tryz.prog 25 1 1 := bW runUnderlying25 rfl rfl sizeOf3
theorem nT : cE Tryz.prog 25 2 2 := bW runUnderlying25 rfl rfl sizeOf22
theorem sO : iG Tryz.prog 22 := ⟨isAgg22, sizeOf22⟩
theorem pL : SliceTy Tryz.prog 22 43 3 24 (.agg #[.int .i64 0, .int .i64 0, .bool false]) := ⟨underlying22, ⟨Tryz.t43, by kernel_rfl, rfl, rfl, rfl⟩, rfl, by decide⟩
theorem wF : cE Tryz.prog 43 0 0 := bW runUnderlying43 rfl rfl sizeOf3
theorem iV : cE Tryz.prog 38 0 0 := bW runUnderlying38 rfl rfl sizeOf3
theorem aDj : SliceTy Tryz.prog 45 49 4 32 (.agg #[.int .i64 0, .int .i64 0, .int .i64 0, .int .i64 0]) := ⟨underlying45, ⟨Tryz.t49, by kernel_rfl, rfl, rfl, rfl⟩, rfl, by decide⟩
theorem aUt : cE Tryz.prog 49 0 0 := bW runUnderlying49 rfl rfl sizeOf3
theorem cZ : iG Tryz.prog 23 := ⟨isAgg23, sizeOf23⟩
theorem aHi : cE Tryz.prog 25 3 3 := bW runUnderlying25 rfl rfl sizeOf23
theorem aMe : SliceTy Tryz.prog 73 23 1 24 (.slice none 0 0) := ⟨underlying73, ⟨Tryz.t23, by kernel_rfl, rfl, rfl, rfl⟩, rfl, by decide⟩
theorem aIe : jP Tryz.prog 43 3 := ⟨isAgg43, sizeOf43⟩
theorem aCc : cE Tryz.prog 43 1 1 := bW runUnderlying43 rfl rfl sizeOf3
theorem aHj : cE Tryz.prog 43 2 2 := bW runUnderlying43 rfl rfl sizeOf4
theorem mO : iG Tryz.prog 4 := ⟨isAgg4, sizeOf4⟩
theorem aIf : jP Tryz.prog 63 2 := ⟨isAgg63, sizeOf63⟩
theorem zS : iP Tryz.prog 43 (.agg #[.int .i64 0, .int .i64 0, .bool false]) [(0, 1), (1, 1), (2, 1)] := ⟨zeroValue43, _, runUnderlying43, fun w => by simp [sizeOf3, sizeOf4]⟩
theorem aTx : iP Tryz.prog 25 (.agg #[.int .i64 0, .int .i64 0, .slice none 0 0, .slice none 0 0]) [(0, 1), (1, 1), (2, 1), (3, 1)] := ⟨zeroValue25, _, runUnderlying25, fun w => by simp [sizeOf22, sizeOf23, sizeOf3]⟩
theorem aPx : iG Tryz.prog 180 := ⟨isAgg180, sizeOf180⟩
theorem aXd : iG Tryz.prog 244 := ⟨isAgg244, sizeOf244⟩
theorem aBs : iP Tryz.prog 95 (.agg #[.int .i64 0, .int .i64 0, .int .i64 0, .int .i64 0, .int .i64 0]) [(0, 1), (1, 1), (2, 1), (3, 1), (4, 1)] := ⟨zeroValue95, _, runUnderlying95, fun w => by simp [sizeOf3]⟩
theorem wP : SliceTy Tryz.prog 88 95 5 40 (.agg #[.int .i64 0, .int .i64 0, .int .i64 0, .int .i64 0, .int .i64 0]) := ⟨underlying88, ⟨Tryz.t95, by kernel_rfl, rfl, rfl, rfl⟩, rfl, by decide⟩
theorem pZ : cE Tryz.prog 141 0 0 := bW runUnderlying141 rfl rfl sizeOf38
theorem eX : cE Tryz.prog 38 1 1 := bW runUnderlying38 rfl rfl sizeOf23
theorem qA : cE Tryz.prog 141 2 3 := bW runUnderlying141 rfl rfl sizeOf139
theorem uS : iG Tryz.prog 139 := ⟨isAgg139, sizeOf139⟩
theorem aQv : sW Tryz.prog 3 VI := aSv underlying3
theorem rA : jP Tryz.prog 95 5 := ⟨isAgg95, sizeOf95⟩
theorem zF : cE Tryz.prog 95 3 3 := bW runUnderlying95 rfl rfl sizeOf3
theorem aHk : cE Tryz.prog 95 0 0 := bW runUnderlying95 rfl rfl sizeOf3
theorem aCk : cE Tryz.prog 95 1 1 := bW runUnderlying95 rfl rfl sizeOf3
theorem uG : cE Tryz.prog 95 2 2 := bW runUnderlying95 rfl rfl sizeOf3
theorem aHl : cE Tryz.prog 95 4 4 := bW runUnderlying95 rfl rfl sizeOf3
theorem yW : iP Tryz.prog 143 (.agg #[.int .i64 0, .int .i64 0]) [(0, 1), (1, 1)] := ⟨zeroValue143, _, runUnderlying143, fun w => by simp [sizeOf3]⟩
theorem iL : jP Tryz.prog 143 2 := ⟨isAgg143, sizeOf143⟩
theorem oX : cE Tryz.prog 143 0 0 := bW runUnderlying143 rfl rfl sizeOf3
theorem aKw : cE Tryz.prog 143 1 1 := bW runUnderlying143 rfl rfl sizeOf3
theorem aXk : iP Tryz.prog 141 (.agg #[.int .i64 0, .slice none 0 0, .slice none 0 0, .map none]) [(0, 2), (2, 1), (3, 1)] := ⟨zeroValue141, _, runUnderlying141, fun w => by simp [sizeOf139, sizeOf23, sizeOf38]⟩
theorem aSq : aJs Tryz.prog 95 aS := by
  rintro ⟨a0, a1, a2, a3, a4⟩ ⟨b0, b1, b2, b3, b4⟩ w
  simp [aS, bJ, go_sem, Op.eqFields, Program.fieldsOf] <;> (repeat' split) <;> simp_all
theorem aYa (b : Bool) (a : aF) (w : World) : (Instr.checkKey b 10000 95 (.agg ((aS a).map bJ).toArray)).run Tryz.prog w = .ok () w := by
  obtain ⟨a1, a2, a3, a4, a5⟩ := a;rw [show (10000 : Nat) = 9990 + 10 from rfl]
  generalize (9990 : Nat) = m
  simp [Instr.checkKey, aS, bJ, go_sem, Std.Legacy.Range.forIn_eq_forIn_range', Std.Legacy.Range.size]
theorem aNk : sW Tryz.prog 95 (fun a : aF => Value.agg ((aS a).map bJ).toArray) :=
  aEn underlying95 aSq aYa (fun a w => aNj _ rfl _ _) (by
    rintro ⟨a1, a2, a3, a4, a5⟩ ⟨b1, b2, b3, b4, b5⟩ h
    simp [aS] at h ⊢
    simp_all) (fun _ => rfl)
theorem aBi : aJs Tryz.prog 143 aK := by
  rintro ⟨a0, a1⟩ ⟨b0, b1⟩ w
  simp [aK, bJ, go_sem, Op.eqFields, Program.fieldsOf] <;> (repeat' split) <;> simp_all
theorem aWt (b : Bool) (a : aD) (w : World) : (Instr.checkKey b 10000 143 (.agg ((aK a).map bJ).toArray)).run Tryz.prog w = .ok () w := by
  obtain ⟨a1, a2⟩ := a;rw [show (10000 : Nat) = 9990 + 10 from rfl]
  generalize (9990 : Nat) = m
  simp [Instr.checkKey, aK, bJ, go_sem, Std.Legacy.Range.forIn_eq_forIn_range', Std.Legacy.Range.size]
theorem tE : sW Tryz.prog 143 (fun a : aD => Value.agg ((aK a).map bJ).toArray) :=
  aEn underlying143 aBi aWt (fun a w => aNj _ rfl _ _) (by
    rintro ⟨a1, a2⟩ ⟨b1, b2⟩ h
    simp [aK] at h ⊢
    simp_all) (fun _ => rfl)
theorem lA : cE Tryz.prog 141 1 2 := bW runUnderlying141 rfl rfl sizeOf23
theorem aJq : iP Tryz.prog 63 (.agg #[.int .i64 0, .int .i64 0]) [(0, 1), (1, 1)] := ⟨zeroValue63, _, runUnderlying63, fun w => by simp [sizeOf3]⟩
theorem aXu : jP Tryz.prog 49 4 := ⟨isAgg49, sizeOf49⟩
theorem aUu : cE Tryz.prog 49 1 1 := bW runUnderlying49 rfl rfl sizeOf3
theorem aTg : iG Tryz.prog 45 := ⟨isAgg45, sizeOf45⟩
theorem aYn : iP Tryz.prog 49 (.agg #[.int .i64 0, .int .i64 0, .int .i64 0, .int .i64 0]) [(0, 1), (1, 1), (2, 1), (3, 1)] := ⟨zeroValue49, _, runUnderlying49, fun w => by simp [sizeOf3]⟩
theorem aJd : iG Tryz.prog 73 := ⟨isAgg73, sizeOf73⟩
theorem eH : jP Tryz.prog 72 10 := ⟨isAgg72, sizeOf72⟩
theorem zD : cE Tryz.prog 82 3 7 := bW runUnderlying82 rfl rfl sizeOf3
theorem aYo : iP Tryz.prog 72 (.agg #[.int .i64 0, .int .i64 0, .bool false, .int .i64 0, .int .i64 0, .int .i64 0, .int .i64 0, .int .i64 0, .int .i64 0, .bool false]) [(0, 1), (1, 1), (2, 1), (3, 1), (4, 1), (5, 1), (6, 1), (7, 1), (8, 1), (9, 1)] := ⟨zeroValue72, _, runUnderlying72, fun w => by simp [sizeOf3, sizeOf4]⟩
theorem aTy : iP Tryz.prog 82 (.agg #[.slice none 0 0, .int .i64 0, .int .i64 0, .int .i64 0, .int .i64 0, .int .i64 0, .int .i64 0, .int .i64 0, .int .i64 0]) [(0, 5), (5, 1), (6, 1), (7, 1), (8, 1)] := ⟨zeroValue82, _, runUnderlying82, fun w => by simp [sizeOf3, sizeOf80]⟩
theorem cW : cE Tryz.prog 174 1 10 := bW runUnderlying174 rfl rfl sizeOf82
theorem aMn : jP Tryz.prog 82 9 := ⟨isAgg82, sizeOf82⟩
theorem aXl : iP Tryz.prog 171 (.agg #[.int .i64 0, .int .i64 0, .bool false, .int .i64 0, .int .i64 0, .int .i64 0, .int .i64 0, .int .i64 0, .int .i64 0, .bool false]) [(0, 10)] := ⟨zeroValue171, _, runUnderlying171, fun w => by simp [sizeOf72]⟩
theorem jG : cE Tryz.prog 82 4 8 := bW runUnderlying82 rfl rfl sizeOf3
theorem lQ : cE Tryz.prog 72 0 0 := bW runUnderlying72 rfl rfl sizeOf3
theorem pE : cE Tryz.prog 72 1 1 := bW runUnderlying72 rfl rfl sizeOf3
theorem aCd : cE Tryz.prog 72 3 3 := bW runUnderlying72 rfl rfl sizeOf3
theorem aCf : cE Tryz.prog 72 5 5 := bW runUnderlying72 rfl rfl sizeOf3
theorem aCe : cE Tryz.prog 72 4 4 := bW runUnderlying72 rfl rfl sizeOf3
theorem aCg : cE Tryz.prog 72 6 6 := bW runUnderlying72 rfl rfl sizeOf3
theorem sN : cE Tryz.prog 72 7 7 := bW runUnderlying72 rfl rfl sizeOf3
theorem wG : cE Tryz.prog 72 8 8 := bW runUnderlying72 rfl rfl sizeOf3
theorem yP : jP Tryz.prog 171 10 := ⟨isAgg171, sizeOf171⟩
theorem aXm : iP Tryz.prog 174 (.agg #[.int .i64 0, .int .i64 0, .bool false, .int .i64 0, .int .i64 0, .int .i64 0, .int .i64 0, .int .i64 0, .int .i64 0, .bool false, .slice none 0 0, .int .i64 0, .int .i64 0, .int .i64 0, .int .i64 0, .int .i64 0, .int .i64 0, .int .i64 0, .int .i64 0, .int .i64 0, .int .i64 0, .int .i64 0, .slice none 0 0, .slice none 0 0]) [(0, 10), (10, 9), (19, 1), (20, 2), (22, 1), (23, 1)] := ⟨zeroValue174, _, runUnderlying174, fun w => by simp [sizeOf171, sizeOf172, sizeOf3, sizeOf78, sizeOf82, sizeOf83]⟩
theorem wH : cE Tryz.prog 82 1 5 := bW runUnderlying82 rfl rfl sizeOf3
theorem sM : cE Tryz.prog 174 4 22 := bW runUnderlying174 rfl rfl sizeOf172
theorem yU : iG Tryz.prog 172 := ⟨isAgg172, sizeOf172⟩
theorem oY : cE Tryz.prog 174 0 0 := bW runUnderlying174 rfl rfl sizeOf171
theorem uR : cE Tryz.prog 174 3 20 := bW runUnderlying174 rfl rfl sizeOf78
theorem dI : jP Tryz.prog 78 2 := ⟨isAgg78, sizeOf78⟩
theorem cS : cE Tryz.prog 82 0 0 := bW runUnderlying82 rfl rfl sizeOf80
theorem jT : cE Tryz.prog 80 1 1 := bW runUnderlying80 rfl rfl sizeOf78
theorem zR : SliceTy Tryz.prog 172 4 1 1 (.bool false) := ⟨underlying172, ⟨Tryz.t4, by kernel_rfl, rfl, rfl, rfl⟩, rfl, by decide⟩
theorem dT : cE Tryz.prog 78 0 0 := bW runUnderlying78 rfl rfl sizeOf3
theorem iU : cE Tryz.prog 171 0 0 := bW runUnderlying171 rfl rfl sizeOf72
theorem dU : cE Tryz.prog 78 1 1 := bW runUnderlying78 rfl rfl sizeOf3
theorem aQd : iP Tryz.prog 283 (.agg #[.int .i64 0, .int .i64 0]) [(0, 1), (1, 1)] := ⟨zeroValue283, _, runUnderlying283, fun w => by simp [sizeOf3]⟩
theorem aJu : jP Tryz.prog 283 2 := ⟨isAgg283, sizeOf283⟩
theorem aKz : cE Tryz.prog 283 0 0 := bW runUnderlying283 rfl rfl sizeOf3
theorem aKx : cE Tryz.prog 174 2 19 := bW runUnderlying174 rfl rfl sizeOf3
theorem aCh : cE Tryz.prog 72 9 9 := bW runUnderlying72 rfl rfl sizeOf4
theorem kO : cE Tryz.prog 80 2 3 := bW runUnderlying80 rfl rfl sizeOf78
theorem fN : cE Tryz.prog 82 2 6 := bW runUnderlying82 rfl rfl sizeOf3
theorem aKy : cE Tryz.prog 174 5 23 := bW runUnderlying174 rfl rfl sizeOf83
theorem tU : iG Tryz.prog 83 := ⟨isAgg83, sizeOf83⟩
theorem jF : cE Tryz.prog 80 0 0 := bW runUnderlying80 rfl rfl sizeOf76
theorem rE : iG Tryz.prog 76 := ⟨isAgg76, sizeOf76⟩
theorem lW : SliceTy Tryz.prog 76 78 2 16 (.agg #[.int .i64 0, .int .i64 0]) := ⟨underlying76, ⟨Tryz.t78, by kernel_rfl, rfl, rfl, rfl⟩, rfl, by decide⟩
theorem aFz : iP Tryz.prog 228 (.agg #[.int .i64 0, .bool false, .int .i64 0, .int .i64 0, .int .i64 0, .int .i64 0, .bool false]) [(0, 1), (1, 1), (2, 1), (3, 1), (4, 2), (6, 1)] := ⟨zeroValue228, _, runUnderlying228, fun w => by simp [sizeOf3, sizeOf4, sizeOf78]⟩
theorem mQ : SliceTy Tryz.prog 83 228 7 56 (.agg #[.int .i64 0, .bool false, .int .i64 0, .int .i64 0, .int .i64 0, .int .i64 0, .bool false]) := ⟨underlying83, ⟨Tryz.t228, by kernel_rfl, rfl, rfl, rfl⟩, rfl, by decide⟩
theorem xH : iP Tryz.prog 78 (.agg #[.int .i64 0, .int .i64 0]) [(0, 1), (1, 1)] := ⟨zeroValue78, _, runUnderlying78, fun w => by simp [sizeOf3]⟩
theorem aSt : cE Tryz.prog 283 1 1 := bW runUnderlying283 rfl rfl sizeOf3
theorem aNh : cE Tryz.prog 72 2 2 := bW runUnderlying72 rfl rfl sizeOf4
theorem zC : cE Tryz.prog 75 0 0 := bW runUnderlying75 rfl rfl sizeOf23
theorem aCi : cE Tryz.prog 75 1 1 := bW runUnderlying75 rfl rfl sizeOf73
theorem cJ : cE Tryz.prog 85 0 0 := bW runUnderlying85 rfl rfl sizeOf82
theorem aNf : cE Tryz.prog 49 2 2 := bW runUnderlying49 rfl rfl sizeOf3
theorem aNg : cE Tryz.prog 49 3 3 := bW runUnderlying49 rfl rfl sizeOf3
theorem aYb : aJs Tryz.prog 63 fV := by
  rintro ⟨a0, a1⟩ ⟨b0, b1⟩ w
  simp [fV, bJ, go_sem, Op.eqFields, Program.fieldsOf] <;> (repeat' split) <;> simp_all
theorem aFo : iP Tryz.prog 85 (.agg #[.slice none 0 0, .int .i64 0, .int .i64 0, .int .i64 0, .int .i64 0, .int .i64 0, .int .i64 0, .int .i64 0, .int .i64 0, .int .i64 0, .slice none 0 0, .bool false]) [(0, 9), (9, 1), (10, 1), (11, 1)] := ⟨zeroValue85, _, runUnderlying85, fun w => by simp [sizeOf3, sizeOf4, sizeOf82, sizeOf83]⟩
theorem dG : jP Tryz.prog 85 12 := ⟨isAgg85, sizeOf85⟩
theorem mT : cE Tryz.prog 85 2 10 := bW runUnderlying85 rfl rfl sizeOf83
theorem aMm : jP Tryz.prog 80 5 := ⟨isAgg80, sizeOf80⟩
theorem aSs : cE Tryz.prog 228 1 1 := bW runUnderlying228 rfl rfl sizeOf4
theorem zE : cE Tryz.prog 85 3 11 := bW runUnderlying85 rfl rfl sizeOf4
theorem aCj : cE Tryz.prog 85 1 9 := bW runUnderlying85 rfl rfl sizeOf3
theorem aPw : iG Tryz.prog 133 := ⟨isAgg133, sizeOf133⟩

theorem aBy {r : bQ × bQ} (h : oQ = some r) : Fn Tryz.prog 47 [] (.tup [.agg (bI r.1), .agg (bI r.2)]) := by
 unfold oQ at h;refine eU func47 rfl (rs := [.cell 0 25, .cell 1 25]) results47 ntmps47 (Nat.le_of_ble_eq_true rfl) ?_;refine aC (aA ?_);refine bF rfl (cG (zs := [.j 0, .j 0, .sl 3 Z44, .sl 1 Z23]) (aH rfl) zeroValue25 rfl rfl) ?_;rintro _ ⟨b1, rfl⟩;refine bF rfl (cG (zs := [.j 0, .j 0, .sl 3 Z44, .sl 1 Z23]) (aH rfl) zeroValue25 rfl rfl) ?_;rintro _ ⟨b2, rfl⟩;refine aB (aC (aA (to (cQ (aH rfl) zS (zs := [.j 0, .j 0, .k false]) rfl rfl rfl rfl (es := [.j 10, .j 1, .k false]) rfl) ?_)));refine to (cQ (aH rfl) zS (zs := [.j 0, .j 0, .k false]) rfl rfl rfl rfl (es := [.j 20, .j 2, .k false]) rfl) ?_;refine to (cQ (aH rfl) zS (zs := [.j 0, .j 0, .k false]) rfl rfl rfl rfl (es := [.j 30, .j 1, .k false]) rfl) ?_;refine to (eM (aH rfl) pL rfl rfl (rows := Z59.map aY) rfl (bL (f := aY) fun _ => rfl) rfl (by decide)) ?_;refine to (eM (aH rfl) cF rfl rfl (rows := ([5, 4]).map aL) rfl (bL (f := aL) fun _ => rfl) rfl (by decide)) ?_;refine to (cQ (aH rfl) aTx (zs := [.j 0, .j 0, .sl 3 Z44, .sl 1 Z23]) rfl rfl rfl rfl (es := [.j 4, .j 1, .sl 3 ((Z59).map aY), .sl 1 ((([5, 4])).map aL)]) rfl) ?_;refine to (sst 0 rfl rfl sizeOf25 Z8) (aB (aC (aA (to (cQ (aH rfl) zS (zs := [.j 0, .j 0, .k false]) rfl rfl rfl rfl (es := [.j 1, .j 1, .k false]) rfl) ?_))));refine to (cQ (aH rfl) zS (zs := [.j 0, .j 0, .k false]) rfl rfl rfl rfl (es := [.j 2, .j 1, .k false]) rfl) ?_;refine to (cQ (aH rfl) zS (zs := [.j 0, .j 0, .k false]) rfl rfl rfl rfl (es := [.j 3, .j 2, .k false]) rfl) ?_;refine to (cQ (aH rfl) zS (zs := [.j 0, .j 0, .k false]) rfl rfl rfl rfl (es := [.j 4, .j 0, .k false]) rfl) ?_;refine to (eM (aH rfl) pL rfl rfl (rows := Z51.map aY) rfl (bL (f := aY) fun _ => rfl) rfl (by decide)) ?_;refine to (cQ (aH rfl) aTx (zs := [.j 0, .j 0, .sl 3 Z44, .sl 1 Z23]) rfl rfl rfl rfl (es := [.j 4, .j 0, .sl 3 ((Z51).map aY), .sl 1 Z23]) rfl) ?_;refine to (sst 1 rfl rfl sizeOf25 Z5) (aB (aC ?_));refine fB mix 3 [0, 1] (fun X3 => [(15, .agg Z5)]) (fun X3 => [.box b1 0 Z8, .box b2 0 Z5]) ?_ ?_
 ·refine ⟨0, fun X3 => [(14, 0, .agg Z8), (15, 1, .agg Z5)], fun X3 => [([(2, .box b1 0 Z8)], .box b1 0 Z8), ([], .box b2 0 Z5)], ?_, ?_⟩
  · exact xok [(0, 3), (0, 0), (1, 0)] ⟨fun _ _ w _ k => xp w (yla k 0 Z8 rfl (og k rfl rfl) jW),
 fun _ _ w _ k => xp w (yla k 1 Z5 rfl (og k rfl rfl) jW),
 fun _ _ _ _ k => xs 0 k rfl rfl (qX (i := 0) (aX k rfl) (og k rfl rfl) (aX k rfl) rfl rfl sizeOf25 rfl (aH rfl) (Nat.le_of_ble_eq_true rfl) (ds' := Z8) rfl), trivial⟩
  · exact fun X3 => cN (aR rfl (bB (ae rfl)))
 ·intro X3;refine to (sst 1 rfl rfl sizeOf25 Z5) (aB ?_);obtain rfl := sIn h;exact bY ⟨rfl, _, [.box b1 0 Z8, .box b2 0 Z5], .two (.cell 0 25 rfl (i := 0) rfl jW (es := Z8) rfl rfl) (.cell 1 25 rfl (i := 1) rfl jW (es := Z5) rfl rfl), .refl _, .same _⟩

theorem pT (d : Int) (c : Int) (a : Int) {r : Bool} (h : nR d c a = some r) : Fn Tryz.prog 92 [.i d, .i c, .i a] (.b r) := by
 unfold nR at h;refine oT [.tmp 6] func92 results92 ntmps92 ?_;refine aC (aA (ta Z9 (aB (aC (aA (tm (.i c) (tm (.i d) (to (scm rfl rfl rfl) (tm (Z52 c d) ?_)))))))));obtain ⟨b1, h2, h⟩ := bns h;refine bE 4 [] 14 b1 ?_ ?_
 ·refine bch h2 (fun c3 h2 => ?_) (fun c3 h2 => ?_)
  ·refine tk c3 (sm (.i d)) (tk c3 (sm (.i a)) (tk c3 (scm rfl rfl rfl) (to (spt (Z52 d a) c3) ?_)));obtain rfl := sIn h2;refine aB (aM rfl trivial rfl)
  ·refine tp c3 (tp c3 (tp c3 (to (spf Z9 c3) ?_)));obtain rfl := sIn h2;refine aB (aM rfl trivial rfl)
 ·refine ta (.b b1) (aB ?_);obtain rfl := sIn h;exact rt

theorem vP (e : List bC) (g : bC → Option Bool) {r : Int} (c : Nat) (f : List AV) (j : ∀ args w, (callFunc c args).run Tryz.prog w = .ok (.enter c args) w) (l : ∀ (x0 : bC) r, g x0 = some r → Fn Tryz.prog c ([.agg (aY x0)] ++ f) (.b r)) (h : mH e g = some r) : Fn Tryz.prog 199 [.d (.sl 3 (e.map aY)), .fn c f] (.i r) := by
 unfold mH at h;refine oT [.tmp 4] func199 results199 ntmps199 ?_;refine aC (aA (ta (.i 0) (aB (aC (aC (aA (tm (.d (.sl 3 (e.map aY))) (to (sle rfl pL.of) (tm (.i 0) (aB (cH ?_)))))))))));refine eO (S := Int) [0, 1, 7] (fun s1 => [(8, .i s1)]) (fun s1 => []) (fun k s1 => iI e g (e.length : Int) k s1) (fun _ => rfl) (0) h (bD [] rfl rfl (aR rfl (bB (ae rfl)))) ?_;rintro k2 a h;simp only [iI] at h;refine aC (aA (to (scm rfl rfl rfl) (aB (aC ?_))));refine tih h (fun c3 h => ?_) (fun c3 h => ?_)
 ·refine bG (aC (cH (aC (aA (tm (.i a) (ta (.i a) (aB (aC (aA (tm (.fn c f) (tm (.d (.sl 3 (e.map aY))) (tm (.i a) ?_))))))))))));obtain ⟨x4, h5, h⟩ := bns h;refine to (six rfl rfl pL.of (cL aY h5)) (to (aFl (aY x4) rfl aIe) ?_);obtain ⟨r6, h7, h⟩ := bns h;refine to (eE (aH rfl) (.clo _ _ _ _ j rfl) (aCb rfl) rfl (BVs.refl _ _) (l _ _  h7) rfl) ?_;refine aB ?_;refine tih h (fun c8 h => ?_) (fun c8 h => ?_)
  ·refine aC (aA (tm (.i a) (ta (.i a) (aB ?_))));obtain rfl := sIn h;exact rt
  ·refine eY ?_;refine aA (to (sar rfl rfl rfl) (tm (.i (w64 (a + 1))) (aB ?_)));exact ⟨(w64 (a + 1)), h, bD [] rfl rfl (aR rfl (bB (ae rfl)))⟩
 ·refine dP ?_;refine .inl ⟨rfl, ?_⟩;simp only [pB] at h;refine aC (aA (ta (.i (-1)) (aB ?_)));obtain rfl := sIn h;exact rt

theorem uJ (e : List bC) (i : bC → Option Bool) {r : Bool} (a : Nat) (c : List AV) (f : ∀ args w, (callFunc a args).run Tryz.prog w = .ok (.enter a args) w) (g : ∀ (x0 : bC) r, i x0 = some r → Fn Tryz.prog a ([.agg (aY x0)] ++ c) (.b r)) (h : kU e i = some r) : Fn Tryz.prog 148 [.d (.sl 3 (e.map aY)), .fn a c] (.b r) := by
 unfold kU at h;refine oT [.tmp 4] func148 results148 ntmps148 ?_;refine aC (aA (ta Z9 (aB (aC (aA (tm (.d (.sl 3 (e.map aY))) (tm (.fn a c) ?_)))))));obtain ⟨r1, h2, h⟩ := bns h;refine to (scr call199 (vP _ _ a c f g h2)) (to (scm rfl rfl rfl) (ta (.b (decide (0 ≤ r1))) (aB ?_)));obtain rfl := sIn h;exact rt

theorem aIo (a : bC) (c : bC) {r : Bool} (h : xN a c = some r) : Fn Tryz.prog 149 [.agg (aY a), .cp (aY c)] (.b r) := by
 unfold xN at h;refine oT [.tmp 3] func149 results149 ntmps149 ?_;refine aC (aA ?_);refine bF rfl (cT (v := .agg (aY a)) (aH rfl) rfl rfl rfl) ?_;rintro _ ⟨b1, rfl⟩;refine ta Z9 (aB (aC (aA (tfl 0 rfl rfl wF rfl aT (to (sfc [.j c.Player] rfl wF) (to (slc rfl aT) (to (scm rfl rfl rfl) (ta (.b (decide (a.Player = c.Player))) (aB ?_)))))))));obtain rfl := sIn h;refine bX (bP (bS (l := [3]) (ae rfl))) ?_;exact rt

theorem aBb (e : List Int) (g : Int → Option Bool) {r : Int} (c : Nat) (f : List AV) (j : ∀ args w, (callFunc c args).run Tryz.prog w = .ok (.enter c args) w) (l : ∀ (x0 : Int) r, g x0 = some r → Fn Tryz.prog c ([.i x0] ++ f) (.b r)) (h : qZ e g = some r) : Fn Tryz.prog 182 [.d (Z18 e), .fn c f] (.i r) := by
 unfold qZ at h;refine oT [.tmp 4] func182 results182 ntmps182 ?_;refine aC (aA (ta (.i 0) (aB (aC (aC (aA (tm (Z69 e) (to (sle rfl cF.of) (tm (.i 0) (aB (cH ?_)))))))))));refine eO (S := Int) [0, 1, 7] (fun s1 => [(8, .i s1)]) (fun s1 => []) (fun k s1 => lI e g (e.length : Int) k s1) (fun _ => rfl) (0) h (bD [] rfl rfl (aR rfl (bB (ae rfl)))) ?_;rintro k2 a h;simp only [lI] at h;refine aC (aA (to (scm rfl rfl rfl) (aB (aC ?_))));refine tih h (fun c3 h => ?_) (fun c3 h => ?_)
 ·refine bG (aC (cH (aC (aA (tm (.i a) (ta (.i a) (aB (aC (aA (tm (.fn c f) (tm (Z69 e) (tm (.i a) ?_))))))))))));obtain ⟨x4, h5, h⟩ := bns h;refine to (six rfl rfl cF.of (cL aL h5)) (to (slc rfl aT) ?_);obtain ⟨r6, h7, h⟩ := bns h;refine to (eE (aH rfl) (.clo _ _ _ _ j rfl) (aCb rfl) rfl (BVs.refl _ _) (l _ _  h7) rfl) ?_;refine aB ?_;refine tih h (fun c8 h => ?_) (fun c8 h => ?_)
  ·refine aC (aA (tm (.i a) (ta (.i a) (aB ?_))));obtain rfl := sIn h;exact rt
  ·refine eY ?_;refine aA (to (sar rfl rfl rfl) (tm (.i (w64 (a + 1))) (aB ?_)));exact ⟨(w64 (a + 1)), h, bD [] rfl rfl (aR rfl (bB (ae rfl)))⟩
 ·refine dP ?_;refine .inl ⟨rfl, ?_⟩;simp only [tH] at h;refine aC (aA (ta (.i (-1)) (aB ?_)));obtain rfl := sIn h;exact rt

theorem yJ (e : List Int) (j : Int → Option Bool) {r : Bool} (a : Nat) (c : List AV) (f : ∀ args w, (callFunc a args).run Tryz.prog w = .ok (.enter a args) w) (g : ∀ (x0 : Int) r, j x0 = some r → Fn Tryz.prog a ([.i x0] ++ c) (.b r)) (h : oF e j = some r) : Fn Tryz.prog 130 [.d (Z18 e), .fn a c] (.b r) := by
 unfold oF at h;refine oT [.tmp 4] func130 results130 ntmps130 ?_;refine aC (aA (ta Z9 (aB (aC (aA (tm (Z69 e) (tm (.fn a c) ?_)))))));obtain ⟨r1, h2, h⟩ := bns h;refine to (scr call182 (aBb _ _ a c f g h2)) (to (scm rfl rfl rfl) (ta (.b (decide (0 ≤ r1))) (aB ?_)));obtain rfl := sIn h;exact rt

theorem aIp (a : Int) {r : Bool} (h : xO a = some r) : Fn Tryz.prog 150 [.i a] (.b r) := by
 unfold xO at h;refine oT [.tmp 2] func150 results150 ntmps150 ?_;refine aC (aA (ta Z9 (aB (aC (aA (tm (.i a) ?_))))));obtain ⟨r1, h2, h⟩ := bns h;refine to (scr call92 (pT _ _ _ h2)) (to (sn rfl) (ta (.b (!r1)) (aB ?_)));obtain rfl := sIn h;exact rt

theorem aLt (d : bQ) {r : Int} (h : aAs d = some r) : Fn Tryz.prog 95 [.agg (bI d)] (.i r) := by
 unfold aAs at h;refine oT [.tmp 2] func95 results95 ntmps95 ?_;refine aC (aA ?_);refine bF rfl (cT (v := .agg (bI d)) (aH rfl) rfl rfl rfl) ?_;rintro _ ⟨b1, rfl⟩;refine ta (.i 0) (aB (aC (aA (tfl 0 rfl rfl nT rfl sO (to (sle rfl pL.of) (ta (Z66 d) (aB (aC (aC (aA (tfl 0 rfl rfl kN rfl aT ?_)))))))))));refine to (scm rfl rfl rfl) (tm (.b (!decide (d.Size = 4))) ?_);obtain ⟨b2, h3, h⟩ := bns h;refine bE 4 [1, 3] 17 b2 ?_ ?_
 ·refine bch h3 (fun o h3 => ?_) (fun o h3 => ?_)
  ·refine tkl 0 o rfl rfl kN rfl aT (tk o (scm rfl rfl rfl) (to (spt (.b (!decide (d.Size = 8))) o) ?_));obtain rfl := sIn h3;refine aB (aM rfl (ae rfl) rfl)
  ·refine tp o (tp o (tp o (to (spf Z9 o) ?_)));obtain rfl := sIn h3;refine aB (aM rfl (ae rfl) rfl)
 ·refine tm (.b b2) ?_;obtain ⟨b4, h5, h⟩ := bns h;refine bE 6 [1, 3] 24 b4 ?_ ?_
  ·refine bch h5 (fun g h5 => ?_) (fun g h5 => ?_)
   ·refine tp g (tp g (tp g (tp g (tp g (to (spt Z22 g) ?_)))));obtain rfl := sIn h5;refine aB (aM rfl (ae rfl) rfl)
   ·refine tk g (sm (Z66 d)) (tkl 0 g rfl rfl kN rfl aT ?_);obtain ⟨E, F, h5⟩ := bns h5;refine tk g (scr call92 (pT _ _ _ F)) (tk g (sn rfl) (to (spf (.b (!E)) g) ?_));obtain rfl := sIn h5;refine aB (aM rfl (ae rfl) rfl)
  ·refine tm (.b b4) ?_;obtain ⟨b6, h7, h⟩ := bns h;refine bE 9 [1, 3] 34 b6 ?_ ?_
   ·refine bch h7 (fun e h7 => ?_) (fun e h7 => ?_)
    ·refine tp e (tp e (tp e (tp e (tp e (tp e (tp e (tp e (to (spt Z22 e) ?_))))))));obtain rfl := sIn h7;refine aB (aM rfl (ae rfl) rfl)
    ·refine tkl 0 e rfl rfl kN rfl aT (tk e (sm (Z66 d)) (tk e (sar rfl rfl rfl) (tkl 0 e rfl rfl kN rfl aT (tk e (uC (aH rfl) rfl rfl (by decide)) ?_))));refine tk e (scm rfl rfl rfl) (to (spf (.b (decide ((w64 (d.Size.tdiv 2)) < (Z29 d)))) e) ?_);obtain rfl := sIn h7;refine aB (aM rfl (ae rfl) rfl)
   ·refine tm (.b b6) ?_;obtain ⟨b8, h9, h⟩ := bns h;refine bE 10 [1] 45 b8 ?_ ?_
    ·refine bch h9 (fun c h9 => ?_) (fun c h9 => ?_)
     ·refine tp c (tp c (tp c (tp c (tp c (tp c (tp c (tp c (tp c (to (spt Z22 c) ?_)))))))));obtain rfl := sIn h9;refine aB (aM rfl (ae rfl) rfl)
     ·refine tkl 0 c rfl rfl qV rfl aT (tkl 0 c rfl rfl kN rfl aT (tk c (uC (aH rfl) rfl rfl (by decide)) ?_));refine tk c (sm (Z66 d)) (tk c (aWk (aH rfl) rfl rfl) ?_);obtain ⟨G, H, h9⟩ := bns h9;refine tk c (scr call92 (pT _ _ _ H)) (tk c (sn rfl) (to (spf (.b (!G)) c) ?_));obtain rfl := sIn h9;refine aB (aM rfl (ae rfl) rfl)
    ·refine tm (.b b8) ?_;obtain ⟨I, w, h⟩ := bns h;refine bE 5 [1] 51 I ?_ ?_
     ·refine bch w (fun j w => ?_) (fun j w => ?_)
      ·refine tp j (tp j (tp j (tp j (to (spt Z22 j) ?_))));obtain rfl := sIn w;refine aB (aM rfl (ae rfl) rfl)
      ·refine tkl 0 j rfl rfl aHi rfl cZ (tk j (sle rfl cF.of) (tk j (scm rfl rfl rfl) (to (spf (.b (decide (10 < (d.Lots.length : Int)))) j) ?_)));obtain rfl := sIn w;refine aB (aM rfl (ae rfl) rfl)
     ·refine aB ?_;refine tih h (fun J h => ?_) (fun J h => ?_)
      ·refine aC (aA (ta (.i 60) (aB ?_)));obtain rfl := sIn h;refine bX (bP (bS (l := [2]) (ae rfl))) ?_;exact rt
      ·refine bG (aC (aC (aA (tfl 0 rfl rfl nT rfl sO (to (sle rfl pL.of) (tm (.i 0) (aB (cH ?_))))))));refine eO (S := Int) [1, 53, 54] (fun y => [(55, .i y)]) (fun y => [.box b1 0 (bI d)]) (fun k y => sZ d.Persons (d.Persons.length : Int) d k y) (fun _ => rfl) (0) h (bD [0] rfl rfl (aR rfl (bB (ae rfl)))) ?_;rintro Y a h;simp only [sZ] at h;refine aC (aA (to (scm rfl rfl rfl) (aB (aC ?_))));refine tih h (fun K h => ?_) (fun K h => ?_)
       ·refine bG (aC (cH (aC (aA (tm (.i a) ?_)))));obtain ⟨t, L, h⟩ := bns h;refine to (six rfl rfl pL.of (cL aY L)) (to (aFl (aY t) rfl aIe) ?_);refine bF rfl (cG (zs := [.j 0, .j 0, .k false]) (aH rfl) zeroValue43 rfl rfl) ?_;rintro _ ⟨Z, rfl⟩;refine ta (.i a) (to (sst 1 rfl rfl sizeOf43 (aY t)) (aB (aC (aA (tfl 0 rfl rfl nT rfl sO (tm (.i a) ?_))))));obtain ⟨a0, M, h⟩ := bns h;refine to (aJo (aH rfl) pL.of rfl rfl rfl (aQe aY M)) ?_;refine to (zQ (aH rfl) rfl rfl) ?_;obtain ⟨z, N, h⟩ := bns h;refine to (sc call148 (uJ _ _ 149 [.cp [.j t.Player, .j t.Nation, .k t.Qualified]] call149 (fun _ _ h => aIo _ _ h) N) (.cons (.same _) (.cons (aIm (.cons (jQ 1 rfl rfl (dvc (.same _) (dvc (.same _) (dvc (.same _) dvn)))) .nil)) .nil))) (ta (.b z) (aB (aC (aA (tm (.b z) (tm (.b z) ?_))))));obtain ⟨A, p, h⟩ := bns h;refine bE 5 [1, 4, 5, 53, 54, 55] 72 A ?_ ?_
        ·refine bch p (fun m p => ?_) (fun m p => ?_)
         ·refine tp m (tp m (tp m (tp m (to (spt Z22 m) ?_))));obtain rfl := sIn p;refine aB (aM rfl (ae rfl) rfl)
         ·refine tkl 1 m rfl rfl wF rfl aT ?_;obtain ⟨O, P, p⟩ := bns p;refine tk m (scr call92 (pT _ _ _ P)) (tk m (sn rfl) (to (spf (.b (!O)) m) ?_));obtain rfl := sIn p;refine aB (aM rfl (ae rfl) rfl)
        ·refine tm (.b A) ?_;obtain ⟨B, q, h⟩ := bns h;refine bE 5 [1, 4, 5, 53, 54, 55] 78 B ?_ ?_
         ·refine bch q (fun n q => ?_) (fun n q => ?_)
          ·refine tp n (tp n (tp n (tp n (to (spt Z22 n) ?_))));obtain rfl := sIn q;refine aB (aM rfl (ae rfl) rfl)
          ·refine tkl 1 n rfl rfl aCc rfl aT ?_;obtain ⟨Q, T, q⟩ := bns q;refine tk n (scr call92 (pT _ _ _ T)) (tk n (sn rfl) (to (spf (.b (!Q)) n) ?_));obtain rfl := sIn q;refine aB (aM rfl (ae rfl) rfl)
         ·refine tm (.b B) ?_;obtain ⟨U, s, h⟩ := bns h;refine bE 9 [1, 53, 54, 55] 88 U ?_ ?_
          ·refine bch s (fun f s => ?_) (fun f s => ?_)
           ·refine tp f (tp f (tp f (tp f (tp f (tq (tq (tp f (to (spt Z22 f) ?_))))))));obtain rfl := sIn s;refine aB (aM rfl (ae rfl) rfl)
           ·refine tk f (sm (.i a)) (tkl 0 f rfl rfl qV rfl aT (tk f (scm rfl rfl rfl) (tk f (sm (.b (decide (a < d.Seeds)))) ?_)));obtain ⟨C, x, s⟩ := bns s;refine bE 3 [1, 53, 54, 55, 79, 80, 81, 82, 83, 84] 87 C ?_ ?_
            ·refine bch x (fun u x => ?_) (fun u x => ?_)
             ·refine tkl 1 u rfl rfl aHj rfl mO (tk f (spt (.b t.Qualified) u) ?_);obtain rfl := sIn x;refine aB (aM rfl (ae rfl) rfl)
             ·refine tp u (tp u (tk f (spf Z9 u) ?_));obtain rfl := sIn x;refine aB (aM rfl (ae rfl) rfl)
            ·refine to (spf (.b C) f) ?_;obtain rfl := sIn s;refine aB (aM rfl (ae rfl) rfl)
          ·refine aB ?_;refine tih h (fun V h => ?_) (fun V h => ?_)
           ·refine aC (aA (ta (.i 60) (aB ?_)));obtain rfl := sIn h;refine bX (bP (bS (l := [2]) (ae rfl))) ?_;exact rt
           ·refine eY ?_;refine aA (to (sar rfl rfl rfl) (tm (.i (w64 (a + 1))) (aB ?_)));exact ⟨(w64 (a + 1)), h, bD [0] rfl rfl (aR rfl (bB (ae rfl)))⟩
       ·refine dP ?_;refine .inl ⟨rfl, ?_⟩;simp only [aBg] at h;refine aC (aC (aA (tfl 0 rfl rfl aHi rfl cZ ?_)));obtain ⟨a1, W, h⟩ := bns h;refine to (scr call130 (yJ _ _ 150 [] call150 (fun _ _ h => aIp _ h) W)) (aB ?_);refine tih h (fun X h => ?_) (fun X h => ?_)
        ·refine aC (aA (ta (.i 60) (aB ?_)));obtain rfl := sIn h;refine bX (bP (bS (l := [2]) (ae rfl))) ?_;exact rt
        ·refine bG (aC (aA (ta (.i 0) (aB ?_))));obtain rfl := sIn h;refine bX (bP (bS (l := [2]) (ae rfl))) ?_;exact rt

theorem aBq (x : List Int) (cmp : Int → Int → Option Int) {r : List Int} {x_v : Value} {e : TypeId} (f : Nat) (v : List AV) (he : ∀ args w, (callFunc f args).run Tryz.prog w = .ok (.enter f args) w) (hh : ∀ x0 x1 r, cmp x0 x1 = some r → Fn Tryz.prog f ([.i x0, .i x1] ++ v) (.i r)) (h : rV x cmp = some r) : dR Tryz.prog 167 [.d (.lit x_v), .fn f v] [.arr x_v e 1 (x.map aL)] (fun r' o' => r' = .tup [] ∧ o' = [.arr x_v e 1 (r.map aL)]) := aTv (fun enc h1 cf hO g cb blk off cap d w => Tryz.slices_SortFunc_total enc h1 cf hO g cb blk off cap d w) (fun p cap fv w => Tryz.slices_SortFunc_none (α := Int) p cap fv w) he hh h

theorem aIq (b : Int) (c : Int) (a : bQ) {r : Int} (h : oI b c a = some r) : Fn Tryz.prog 168 [.i b, .i c, .cp (bI a)] (.i r) := by
 unfold oI at h;refine oT [.tmp 5] func168 results168 ntmps168 ?_;refine aC (aA (ta (.i 0) (aB (aC ?_))));obtain ⟨x1, h2, h⟩ := bns h;obtain ⟨x3, h4, h⟩ := bns h;refine eD mix 12 [] [(11, .i x1.Player), (17, .i x3.Player)] ?_ ?_
 ·refine ⟨[(6, 0, .cp [.sl 3 (Z21 a)]), (7, 1, .d (.sl 3 (Z21 a))), (8, 2, .i b), (9, 3, .cp [.j x1.Player, .j x1.Nation, .k x1.Qualified]), (10, 4, .cp [.j x1.Player]), (11, 5, .i x1.Player), (12, 6, .cp [.sl 3 (Z21 a)]), (13, 7, .d (.sl 3 (Z21 a))), (14, 8, .i c), (15, 9, .cp [.j x3.Player, .j x3.Nation, .k x3.Qualified]), (16, 10, .cp [.j x3.Player]), (17, 11, .i x3.Player)], ?_, ?_⟩
  · exact dk [0, 1, 0, 203, 4, 5, 0, 7, 0, 809, 10, 11] ⟨go (zfc [.sl 3 (Z21 a)] rfl nT),
 go (zlc rfl sO),
 go (zm (.i b)),
 go (zix rfl rfl pL.of (cL aY h2)),
 go (zfc [.j x1.Player] rfl wF),
 go (zlc rfl aT),
 go (zfc [.sl 3 (Z21 a)] rfl nT),
 go (zlc rfl sO),
 go (zm (.i c)),
 go (zix rfl rfl pL.of (cL aY h4)),
 go (zfc [.j x3.Player] rfl wF),
 go (zlc rfl aT), trivial⟩
  · exact cN (aR rfl (aR rfl (bB trivial)))
 ·refine to (sar rfl rfl rfl) (ta (.i (w64 (x1.Player - x3.Player))) (aB ?_));obtain rfl := sIn h;exact rt

theorem aDn (a : bQ) {r : List Int} (h : pD a = some r) : Fn Tryz.prog 109 [.agg (bI a)] (.fn 169 [.cp [.j a.Size, .j a.Seeds, .sl 3 (Z21 a), .sl 1 (Z45 a)], .cp (Z46 r)]) := by
 unfold pD at h;refine eU func109 rfl (rs := [.tmp 2]) results109 ntmps109 (Nat.le_of_ble_eq_true rfl) ?_;refine aC (aA ?_);refine bF rfl (cT (v := .agg (bI a)) (aH rfl) rfl rfl rfl) ?_;rintro _ ⟨b1, rfl⟩;refine ta (.d (.lit .nilFunc)) (aB (aC (aA ?_)));refine bF rfl (cG (zs := Z61) (aH rfl) zeroValue23 rfl rfl) ?_;rintro _ ⟨b2, rfl⟩;refine eP (vE 3 1) ?_;refine aB (aC (aC (aA (tfl 0 rfl rfl nT rfl sO (to (sle rfl pL.of) (tm (.i 0) (aB (cH ?_))))))));refine eO (S := Int × (List Int) × Value) [1, 3, 7] (fun s3 => [(8, .i s3.1)]) (fun s3 => [.box b1 0 (bI a), .arr s3.2.2 3 1 (s3.2.1.map aL), .box b2 0 [.lit s3.2.2]]) (fun k s3 => tC (a.Persons.length : Int) a k s3.1 s3.2.1) (fun _ => rfl) (0, ([] : List Int), (.slice none 0 0)) h (bD [0, 2, 1] rfl rfl (aR rfl (bB (ae rfl)))) ?_;rintro k5 ⟨b, c, w4⟩ h;simp only [tC] at h;refine aC (aA (to (scm rfl rfl rfl) (aB (aC ?_))));refine tih h (fun c6 h => ?_) (fun c6 h => ?_)
 ·refine bG (aC (cH (aC (aA (tm (.i b) (ta (.i b) (aB (aA (to (sl 2 rfl rfl rfl cZ) (tm (.i b) (to (eM (aH rfl) cF rfl rfl (rows := ([b]).map aL) rfl (bL (f := aL) fun _ => rfl) rfl (by decide)) ?_)))))))))));obtain ⟨x7, h8, h⟩ := bns h;refine bF rfl (eF (i := 1) (aH rfl) cF rfl rfl rfl (fun _ => rfl) h8 rfl) ?_;rintro _ ⟨v9, rfl⟩;refine to (sst 2 rfl rfl sizeOf23 [.lit v9]) ?_;refine gO ?_;refine aA (to (sar rfl rfl rfl) (tm (.i (w64 (b + 1))) (aB ?_)));exact ⟨(w64 (b + 1), x7, v9), h, bD [0, 1, 2] rfl rfl (aR rfl (bB (ae rfl)))⟩
 ·refine dP ?_;refine .inl ⟨rfl, ?_⟩;simp only [tB] at h;refine aC (aA (to (sl 2 rfl rfl rfl cZ) (to (zQ (aH rfl) rfl rfl) ?_)));refine eP (bD [1, 2, 0] rfl rfl (le_refl _)) ?_;apply aQg [.arr w4 3 1 (c.map aL), .box b2 0 [.lit w4]] [.box b1 0 (bI a)] rfl;exact oG (k := 17) (v := .fn 168 [.cp [.j a.Size, .j a.Seeds, .sl 3 (Z21 a), .sl 1 (Z45 a)]]) (aIm (.cons (jQ 0 rfl rfl (dvc (.same _) (dvc (.same _) (dvc (.same _) (dvc (.same _) dvn))))) .nil)) (oG (k := 1) (v := .cp [.j a.Size, .j a.Seeds, .sl 3 (Z21 a), .sl 1 (Z45 a)]) (jQ 0 rfl rfl (dvc (.same _) (dvc (.same _) (dvc (.same _) (dvc (.same _) dvn))))) (mS _ _));obtain ⟨g, j, h⟩ := bns h;refine bF rfl (jM (passed := [.arr w4 3 1 (c.map aL)]) (aH rfl) rfl (.func _ _ call167) rfl rfl (aBq c (fun l m => oI l m a) 168 [.cp [.j a.Size, .j a.Seeds, .sl 3 (Z21 a), .sl 1 (Z45 a)]] call168 (fun _ _ _ h => aIq _ _ _ h) j)) ?_;rintro _ ⟨_, _, ⟨rfl, rfl⟩, rfl⟩;refine aB (aC (aA ?_));refine bF rfl (qE (aH rfl) cF rfl rfl (rows := ([(-1)]).map aL) rfl (bL (f := aL) fun _ => rfl) rfl (by decide)) ?_;rintro _ ⟨n, rfl⟩;refine eP (bD [1, 2, 0] rfl rfl (le_refl _)) ?_;refine eP (aQq (ds' := [.sl 1 (g.map aL)]) [.arr n 3 1 (([(-1)]).map aL)] [.arr w4 3 1 (g.map aL)] rfl (dvc (cY 0 rfl (bL (f := aL) fun _ => rfl)) dvn) (oG (k := 16) (v := .any) (.any _) (mS _ _))) ?_;refine to (sl 0 rfl rfl rfl cZ) ?_;obtain ⟨o, p, h⟩ := bns h;refine bF rfl (eF (i := 1) (aH rfl) cF rfl rfl rfl (fun _ => rfl) p rfl) ?_;rintro _ ⟨e, rfl⟩;refine to (sst 0 rfl rfl sizeOf23 [.lit e]) (aB (aC (aA (to (zQ (aH rfl) rfl rfl) ?_))));refine ta (.fn 169 [.cp [.j a.Size, .j a.Seeds, .sl 3 (Z21 a), .sl 1 (Z45 a)], .bp b2 0 0]) (aB ?_);obtain rfl := sIn h;exact bY ⟨rfl, _, [.box b2 0 [.lit e], .arr e 3 1 (o.map aL)], .one (.tmp 2 (v := .fn 169 [.cp [.j a.Size, .j a.Seeds, .sl 3 (Z21 a), .sl 1 (Z45 a)], .bp b2 0 0]) rfl), .refl _, (aIm (.cons (.same _) (.cons (jQ 0 rfl rfl (dvc (cY 1 rfl (bL (f := aL) fun _ => rfl)) dvn)) .nil)))⟩

theorem rT (a : List Int) {r : (List Int)} (h : jU a = some r) : dR Tryz.prog 93 [.d (Z18 a)] [] (fun r' o' => ∃ (w0 : Value), r' = .d (.lit w0) ∧ o' = [.arr w0 3 1 (r.map aL)]) := by
 unfold jU at h;refine gQ func93 rfl (rs := [.tmp 2]) results93 ntmps93 (Nat.le_of_ble_eq_true rfl) ?_;refine aC (aA (to (nH 3 1 (.inl rfl) (aH rfl)) ?_));refine aB (aC (aC (aA (tm (Z69 a) ?_))));refine bF rfl (aRp (aH rfl) rfl rfl underlying23) ?_;rintro _ ⟨b2, h3, rfl⟩;refine aB ?_;refine yL rfl (fun c4 => ?_) (fun c4 => ?_)
 ·obtain rfl := aQz (h3 c4)
  simp [app] at h
  subst h;refine aC (aA (to (nH 3 1 (.inl rfl) (aH rfl)) ?_));refine aB ?_;refine bX (bD [1, 0] rfl rfl (le_refl _)) ?_;exact bY ⟨rfl, _, Z64, Z64, _, .one (.tmp 2 (v := .d Z62) rfl), .refl _, .same _, (.slice none 0 0), rfl, rfl⟩
 ·refine bG (aC (aA ?_));refine bF rfl (qE (aH rfl) cF rfl rfl (rows := (([] : List Int)).map aL) rfl (bL (f := aL) fun _ => rfl) rfl (by decide)) ?_;rintro _ ⟨v5, rfl⟩;refine tm (Z69 a) ?_;obtain ⟨x6, h7, h⟩ := bns h;refine bF rfl (eF (i := 1) (aH rfl) cF rfl rfl rfl (fun _ => rfl) h7 rfl) ?_;rintro _ ⟨v8, rfl⟩;refine ta (.d (.lit v8)) (aB ?_);obtain rfl := sIn h;refine bX (bD [1, 0] rfl rfl (le_refl _)) ?_;exact bY ⟨rfl, _, [.arr v8 3 1 (x6.map aL)], Z64, _, .one (.tmp 2 (v := .d (.lit v8)) rfl), .refl _, .same _, v8, rfl, rfl⟩

theorem sS (b : List Int) (c : Int) {r : Int} (h : fZ b c = some r) : Fn Tryz.prog 117 [.d (Z18 b), .i c] (.i r) := by
 unfold fZ at h;refine oT [.tmp 4] func117 results117 ntmps117 ?_;refine aC (aA (ta (.i 0) (aB (aC (aC (aA (tm (Z69 b) (to (sle rfl cF.of) (tm (.i 0) (aB (cH ?_)))))))))));refine eO (S := Int) [0, 1, 7] (fun s1 => [(8, .i s1)]) (fun s1 => []) (fun k s1 => iF b c (b.length : Int) k s1) (fun _ => rfl) (0) h (bD [] rfl rfl (aR rfl (bB (ae rfl)))) ?_;rintro k2 a h;simp only [iF] at h;refine aC (aA (to (scm rfl rfl rfl) (aB (aC ?_))));refine tih h (fun c3 h => ?_) (fun c3 h => ?_)
 ·refine bG (aC (cH (aC (aA (tm (.i a) (ta (.i a) (aB (aC (aA (tm (.i c) (tm (Z69 b) (tm (.i a) ?_))))))))))));obtain ⟨x4, h5, h⟩ := bns h;refine to (six rfl rfl cF.of (cL aL h5)) (to (slc rfl aT) (to (scm rfl rfl rfl) (aB ?_)));refine tih h (fun c6 h => ?_) (fun c6 h => ?_)
  ·refine aC (aA (tm (.i a) (ta (.i a) (aB ?_))));obtain rfl := sIn h;exact rt
  ·refine eY ?_;refine aA (to (sar rfl rfl rfl) (tm (.i (w64 (a + 1))) (aB ?_)));exact ⟨(w64 (a + 1)), h, bD [] rfl rfl (aR rfl (bB (ae rfl)))⟩
 ·refine dP ?_;refine .inl ⟨rfl, ?_⟩;simp only [rU] at h;refine aC (aA (ta (.i (-1)) (aB ?_)));obtain rfl := sIn h;exact rt

theorem gJ (a : List Int) (c : Int) {r : Bool} (h : fJ a c = some r) : Fn Tryz.prog 91 [.d (Z18 a), .i c] (.b r) := by
 unfold fJ at h;refine oT [.tmp 4] func91 results91 ntmps91 ?_;refine aC (aA (ta Z9 (aB (aC (aA (tm (Z69 a) (tm (.i c) ?_)))))));obtain ⟨r1, h2, h⟩ := bns h;refine to (scr call117 (sS _ _ h2)) (to (scm rfl rfl rfl) (ta (.b (decide (0 ≤ r1))) (aB ?_)));obtain rfl := sIn h;exact rt

theorem pR (a : bQ) (c : Int) (e : Int) {r : Bool} (h : aCa a c e = some r) : Fn Tryz.prog 171 [.agg (bI a), .i c, .i e] (.b r) := by
 unfold aCa at h;refine oT [.tmp 6] func171 results171 ntmps171 ?_;refine aC (aA ?_);refine bF rfl (cT (v := .agg (bI a)) (aH rfl) rfl rfl rfl) ?_;rintro _ ⟨b1, rfl⟩;refine ta Z9 (aB (aC (aA (tfl 0 rfl rfl kN rfl aT (to (uC (aH rfl) rfl rfl (by decide)) ?_)))));refine tfl 0 rfl rfl kN rfl aT (to (sar rfl rfl rfl) (tfl 0 rfl rfl kN rfl aT (to (uC (aH rfl) rfl rfl (by decide)) ?_)));refine to (sar rfl rfl rfl) (to (eM (aH rfl) cF rfl rfl (rows := (Z35 a).map aL) rfl (bL (f := aL) fun _ => rfl) rfl (by decide)) ?_);refine ta (.d (.sl 1 (((Z35 a)).map aL))) (aB (aC (cH (aC (aA (tm (.i c) (to (scm rfl rfl rfl) (tm (.b (decide (c = 0))) ?_))))))));obtain ⟨b2, h3, h⟩ := bns h;refine bE 4 [1, 2, 3, 7] 26 b2 ?_ ?_
 ·refine bch h3 (fun k h3 => ?_) (fun k h3 => ?_)
  ·refine tkl 0 k rfl rfl qV rfl aT (tk k (scm rfl rfl rfl) (to (spt (.b (decide (0 < a.Seeds))) k) ?_));obtain rfl := sIn h3;refine aB (aM rfl (ae rfl) rfl)
  ·refine tp k (tp k (tp k (to (spf Z9 k) ?_)));obtain rfl := sIn h3;refine aB (aM rfl (ae rfl) rfl)
 ·refine ta (.b b2) (aB ?_);refine tih h (fun c4 h => ?_) (fun c4 h => ?_)
  ·refine aC (aA (tm (.i e) (to (scm rfl rfl rfl) (ta (.b (decide (e = 0))) (aB ?_)))));obtain rfl := sIn h;refine bX (bP (bS (l := [6]) (ae rfl))) ?_;exact rt
  ·refine aC (aA (tm (.i c) (tfl 0 rfl rfl kN rfl aT (to (sar rfl rfl rfl) (to (scm rfl rfl rfl) (tm (.b (decide (c = (w64 (a.Size - 1))))) ?_))))));obtain ⟨b5, h6, h⟩ := bns h;refine bE 4 [1, 2, 3, 7] 39 b5 ?_ ?_
   ·refine bch h6 (fun m h6 => ?_) (fun m h6 => ?_)
    ·refine tkl 0 m rfl rfl qV rfl aT (tk m (scm rfl rfl rfl) (to (spt (.b (decide (1 < a.Seeds))) m) ?_));obtain rfl := sIn h6;refine aB (aM rfl (ae rfl) rfl)
    ·refine tp m (tp m (tp m (to (spf Z9 m) ?_)));obtain rfl := sIn h6;refine aB (aM rfl (ae rfl) rfl)
   ·refine ta (.b b5) (aB ?_);refine tih h (fun c7 h => ?_) (fun c7 h => ?_)
    ·refine aC (aA (tm (.i e) (to (scm rfl rfl rfl) (ta (.b (decide (e = 1))) (aB ?_)))));obtain rfl := sIn h;refine bX (bP (bS (l := [6]) (ae rfl))) ?_;exact rt
    ·refine aC (aA (tm (.i e) (to (scm rfl rfl rfl) (tm (Z43 e) ?_))));obtain ⟨b8, h9, h⟩ := bns h;refine bE 5 [1, 2, 7] 50 b8 ?_ ?_
     ·refine bch h9 (fun g h9 => ?_) (fun g h9 => ?_)
      ·refine tp g (tp g (tp g (tp g (to (spt Z22 g) ?_))));obtain rfl := sIn h9;refine aB (aM rfl (ae rfl) rfl)
      ·refine tk g (sm (.i e)) (tkl 0 g rfl rfl qV rfl aT (tk g (scm rfl rfl rfl) (to (spf (.b (decide (a.Seeds ≤ e))) g) ?_)));obtain rfl := sIn h9;refine aB (aM rfl (ae rfl) rfl)
     ·refine ta (.b b8) (aB ?_);refine tih h (fun p h => ?_) (fun p h => ?_)
      ·refine aC (aA (ta Z22 (aB ?_)));obtain rfl := sIn h;refine bX (bP (bS (l := [6]) (ae rfl))) ?_;exact rt
      ·refine eY ?_;refine aC (aA (tm (.i e) (to (scm rfl rfl rfl) (tm (.b (decide (1 < e))) ?_))));obtain ⟨o, n, h⟩ := bns h;refine bE 4 [] 57 o ?_ ?_
       ·refine bch n (fun j n => ?_) (fun j n => ?_)
        ·refine tk j (sm (.d (.sl 1 (((Z35 a)).map aL)))) (tk j (sm (.i c)) ?_);obtain ⟨q, s, n⟩ := bns n;refine tk j (scr call91 (gJ _ _ s)) (to (spt (.b q) j) ?_);obtain rfl := sIn n;refine aB (aM rfl trivial rfl)
        ·refine tp j (tp j (tp j (to (spf Z9 j) ?_)));obtain rfl := sIn n;refine aB (aM rfl trivial rfl)
       ·refine ta (.b o) (aB ?_);obtain rfl := sIn h;refine bX (bP (bS (l := [6]) (ae rfl))) ?_;exact rt

theorem aLv (g : bQ) (c : Int) (e : Int) {r : Bool} (h : aAt g c e = some r) : Fn Tryz.prog 219 [.agg (bI g), .i c, .i e] (.b r) := by
 unfold aAt at h;refine oT [.tmp 6] func219 results219 ntmps219 ?_;refine aC (aA ?_);refine bF rfl (cT (v := .agg (bI g)) (aH rfl) rfl rfl rfl) ?_;rintro _ ⟨b1, rfl⟩;refine ta Z9 (aB (aC (aC (aA (tm (.i c) (to (scm rfl rfl rfl) (tm (Z43 c) ?_)))))));obtain ⟨b2, h3, h⟩ := bns h;refine bE 3 [1, 2, 3] 14 b2 ?_ ?_
 ·refine bch h3 (fun j h3 => ?_) (fun j h3 => ?_)
  ·refine tp j (tp j (to (spt Z22 j) ?_));obtain rfl := sIn h3;refine aB (aM rfl (ae rfl) rfl)
  ·refine tk j (sm (.i e)) (tk j (scm rfl rfl rfl) (to (spf (Z43 e) j) ?_));obtain rfl := sIn h3;refine aB (aM rfl (ae rfl) rfl)
 ·refine aB ?_;refine tih h (fun c4 h => ?_) (fun c4 h => ?_)
  ·refine aC (aA (tm (.i c) (tm (.i e) (to (scm rfl rfl rfl) (ta (.b (!decide (c = e))) (aB ?_))))));obtain rfl := sIn h;refine bX (bP (bS (l := [6]) (ae rfl))) ?_;exact rt
  ·refine bG (aC ?_);obtain ⟨x6, h7, h⟩ := bns h;obtain ⟨x8, h9, h⟩ := bns h;refine fB mix 13 [] (fun X5 => [(7, .bp (X5 10).b 0 0), (8, .bp (X5 11).b 0 0), (27, .agg (aY x8))]) (fun X5 => [.box b1 0 (bI g), .box (X5 10).b 0 (aY x6), .box (X5 11).b 0 Z56]) ?_ ?_
   ·refine ⟨2, fun X5 => [(18, 0, .bp b1 0 2), (19, 1, .d (.sl 3 (Z21 g))), (20, 2, .i c), (21, 3, .cp [.j x6.Player, .j x6.Nation, .k x6.Qualified]), (22, 4, .agg (aY x6)), (23, 5, .bp b1 0 2), (24, 6, .d (.sl 3 (Z21 g))), (25, 7, .i e), (26, 8, .cp [.j x8.Player, .j x8.Nation, .k x8.Qualified]), (27, 9, .agg (aY x8)), (7, 10, .bp (X5 10).b 0 0), (8, 11, .bp (X5 11).b 0 0)], fun X5 => [([], .box b1 0 (bI g)), ([(12, .box (X5 10).b 0 (aY x6)), (10, .box (X5 10).b 0 Z56)], nob), ([(11, .box (X5 11).b 0 Z56)], nob)], ?_, ?_⟩
    · exact xok [(0, 13), (1, 13), (0, 13), (203, 13), (4, 13), (0, 0), (6, 0), (0, 0), (708, 0), (9, 0), (0, 13), (0, 13), (51112, 0)] ⟨fun _ _ w _ k => xp w (yf k rfl nT),
 fun _ _ w _ k => xp w (yl k 0 rfl (og k rfl rfl) rfl sO),
 fun _ _ w _ k => xp w (ym k (.i c)),
 fun _ _ w _ k => xp w (yix k rfl rfl pL.of (cL aY h7)),
 fun _ _ w _ k => xp w (aYt k (aY x6) rfl aIe),
 fun _ _ w _ k => xp w (yf k rfl nT),
 fun _ _ w _ k => xp w (yl k 0 rfl (og k rfl rfl) rfl sO),
 fun _ _ w _ k => xp w (ym k (.i e)),
 fun _ _ w _ k => xp w (yix k rfl rfl pL.of (cL aY h9)),
 fun _ _ w _ k => xp w (aYt k (aY x8) rfl aIe),
 fun X5 S hw hi hS => iK (X := X5) (p := 1) (v := fun x => .bp x.b 0 0) (mo := fun x => .box x.b 0 Z56) hS hi rfl rfl (fun _ => rfl) hw (fun _ => rfl) (fun _ => rfl) (fun _ => rfl) (fun _ => ⟨rfl, rfl, .inr rfl, ⟨rfl, rfl, .inr rfl, ⟨rfl, rfl, .inr rfl, ⟨rfl, rfl, .inr rfl, ⟨rfl, rfl, .inr rfl, ⟨rfl, rfl, .inr rfl, ⟨rfl, rfl, .inr rfl, ⟨rfl, rfl, .inr rfl, ⟨rfl, rfl, .inr rfl, ⟨rfl, rfl, .inr rfl, ⟨rfl, rfl, .inl rfl, ⟨rfl, rfl, .inr rfl, trivial⟩⟩⟩⟩⟩⟩⟩⟩⟩⟩⟩⟩) (fun _ => ⟨trivial, rfl, ⟨⟨rfl, .inl rfl, ⟨rfl, .inl rfl, trivial⟩⟩, rfl, ⟨⟨rfl, .inr rfl, trivial⟩, rfl, trivial⟩⟩⟩) (eG (cG (zs := [.j 0, .j 0, .k false]) (aH rfl) zeroValue43 rfl rfl) (by rintro _ ⟨w, rfl⟩; exact ⟨⟨w, undef⟩, bD [0, 3, 2] rfl rfl (le_refl _)⟩)),
 fun X5 S hw hi hS => iK (X := X5) (p := 2) (v := fun x => .bp x.b 0 0) (mo := fun x => .box x.b 0 Z56) hS hi rfl rfl (fun _ => rfl) hw (fun _ => rfl) (fun _ => rfl) (fun _ => rfl) (fun _ => ⟨rfl, rfl, .inr rfl, ⟨rfl, rfl, .inr rfl, ⟨rfl, rfl, .inr rfl, ⟨rfl, rfl, .inr rfl, ⟨rfl, rfl, .inr rfl, ⟨rfl, rfl, .inr rfl, ⟨rfl, rfl, .inr rfl, ⟨rfl, rfl, .inr rfl, ⟨rfl, rfl, .inr rfl, ⟨rfl, rfl, .inr rfl, ⟨rfl, rfl, .inr rfl, ⟨rfl, rfl, .inl rfl, trivial⟩⟩⟩⟩⟩⟩⟩⟩⟩⟩⟩⟩) (fun _ => ⟨trivial, rfl, ⟨⟨rfl, .inr rfl, ⟨rfl, .inr rfl, trivial⟩⟩, rfl, ⟨⟨rfl, .inl rfl, trivial⟩, rfl, trivial⟩⟩⟩) (eG (cG (zs := [.j 0, .j 0, .k false]) (aH rfl) zeroValue43 rfl rfl) (by rintro _ ⟨w, rfl⟩; exact ⟨⟨w, undef⟩, bD [0, 1, 3] rfl rfl (le_refl _)⟩)),
 fun _ _ _ _ k => xs 1 k rfl rfl (qX (i := 1) (aX k rfl) (og k rfl rfl) (aX k rfl) rfl rfl sizeOf43 rfl (aH rfl) (Nat.le_of_ble_eq_true rfl) (ds' := (aY x6)) rfl), trivial⟩
    · exact fun X5 => cN (aR rfl (aR rfl (aR rfl (bB trivial))))
   ·intro X5;refine to (sst 2 rfl rfl sizeOf43 (aY x8)) (aB (aC (aA (tfl 1 rfl rfl aCc rfl aT (tfl 2 rfl rfl aCc rfl aT (to (scm rfl rfl rfl) (tm (.b (!decide (x6.Nation = x8.Nation))) ?_)))))));obtain ⟨s, o, h⟩ := bns h;refine bE 4 [7, 8] 37 s ?_ ?_
    ·refine bch o (fun f o => ?_) (fun f o => ?_)
     ·refine tp f (tp f (tp f (to (spt Z22 f) ?_)));obtain rfl := sIn o;refine aB (aM rfl (ae rfl) rfl)
     ·refine tkl 1 f rfl rfl aCc rfl aT (tk f (scm rfl rfl rfl) (to (spf (.b (decide (x6.Nation = 0))) f) ?_));obtain rfl := sIn o;refine aB (aM rfl (ae rfl) rfl)
    ·refine tm (.b s) ?_;obtain ⟨t, m, h⟩ := bns h;refine bE 8 [] 46 t ?_ ?_
     ·refine bch m (fun a m => ?_) (fun a m => ?_)
      ·refine tkl 1 a rfl rfl aHj rfl mO (tk a (sm (.b x6.Qualified)) ?_);obtain ⟨u, q, m⟩ := bns m;refine bE 3 [38] 44 u ?_ ?_
       ·refine bch q (fun n q => ?_) (fun n q => ?_)
        ·refine tkl 2 n rfl rfl aHj rfl mO (tk a (spt (.b x8.Qualified) n) ?_);obtain rfl := sIn q;refine aB (aM rfl (ae rfl) rfl)
        ·refine tp n (tp n (tk a (spf Z9 n) ?_));obtain rfl := sIn q;refine aB (aM rfl (ae rfl) rfl)
       ·refine tk a (sn rfl) (to (spt (.b (!u)) a) ?_);obtain rfl := sIn m;refine aB (aM rfl trivial rfl)
      ·refine tp a (tp a (tp a (tq (tq (tp a (tp a (to (spf Z9 a) ?_)))))));obtain rfl := sIn m;refine aB (aM rfl trivial rfl)
     ·refine ta (.b t) (aB ?_);obtain rfl := sIn h;refine bX (bP (bS (l := [6]) (ae rfl))) ?_;exact rt

theorem aAa (c : Int) (a : Int) (d : bQ) (e : Int) {r : Bool} (h : uB c a d e = some r) : Fn Tryz.prog 218 [.i c, .i a, .cp (bI d), .cp [.j e]] (.b r) := by
 unfold uB at h;refine oT [.tmp 6] func218 results218 ntmps218 ?_;refine aC (aA (ta Z9 (aB (aC (aA (tm (.i c) (to (scm rfl rfl rfl) (tm (Z43 c) ?_))))))));obtain ⟨b1, h2, h⟩ := bns h;refine bE 5 [0, 1, 3] 14 b1 ?_ ?_
 ·refine bch h2 (fun c6 h2 => ?_) (fun c6 h2 => ?_)
  ·refine tp c6 (tp c6 (tp c6 (tp c6 (to (spt Z22 c6) ?_))));obtain rfl := sIn h2;refine aB (aM rfl (ae rfl) rfl)
  ·refine tk c6 (sm (.i c)) (tk c6 (sfc [.j d.Seeds] rfl qV) (tk c6 (slc rfl aT) (tk c6 (scm rfl rfl rfl) (to (spf (.b (decide (d.Seeds ≤ c))) c6) ?_))));obtain rfl := sIn h2;refine aB (aM rfl (ae rfl) rfl)
 ·refine tm (.b b1) ?_;obtain ⟨b3, h4, h⟩ := bns h;refine bE 7 [] 22 b3 ?_ ?_
  ·refine bch h4 (fun c5 h4 => ?_) (fun c5 h4 => ?_)
   ·refine tp c5 (tp c5 (tp c5 (tp c5 (tp c5 (tp c5 (to (spt Z22 c5) ?_))))));obtain rfl := sIn h4;refine aB (aM rfl trivial rfl)
   ·refine tk c5 (sm (.i a)) (tk c5 (scm rfl rfl rfl) (tk c5 (sm (.i c)) (tk c5 (slc rfl aT) (tk c5 (scm rfl rfl rfl) (tk c5 (aWj (aH rfl) rfl rfl underlying4) ?_)))));refine to (spf (.b (decide ((decide (a = (-1))) = (decide (c < e))))) c5) ?_;obtain rfl := sIn h4;refine aB (aM rfl trivial rfl)
  ·refine ta (.b b3) (aB ?_);obtain rfl := sIn h;exact rt

theorem aDo (d : bQ) (k : Int) (m : Int) {r : Bool} (h : aAu d k m = some r) : Fn Tryz.prog 172 [.agg (bI d), .i k, .i m] (.b r) := by
 unfold aAu at h;refine oT [.tmp 6] func172 results172 ntmps172 ?_;refine aC (aA ?_);refine bF rfl (cT (v := .agg (bI d)) (aH rfl) rfl rfl rfl) ?_;rintro _ ⟨b1, rfl⟩;refine ta Z9 (aB (aC (aA (tfl 0 rfl rfl kN rfl aT (tfl 0 rfl rfl nT rfl sO (to (sle rfl pL.of) (to (sar rfl rfl rfl) ?_)))))));refine bF rfl (cG (zs := [.j 0]) (aH rfl) zeroValue3 rfl rfl) ?_;rintro _ ⟨b2, rfl⟩;refine to (sst 1 rfl rfl sizeOf3 [.j (Z29 d)]) (aB (aC (aA (to (zQ (aH rfl) rfl rfl) ?_))));refine ta (.fn 218 [.bp b1 0 0, .bp b2 0 0]) (aB (aC (aC (aA (to (sl 1 rfl rfl rfl aT) (tfl 0 rfl rfl qV rfl aT (to (scm rfl rfl rfl) (tm (.b (decide ((Z29 d) ≤ d.Seeds))) ?_))))))));obtain ⟨b3, h4, h⟩ := bns h;refine bE 19 [1, 2, 3, 8] 39 b3 ?_ ?_
 ·refine bch h4 (fun a h4 => ?_) (fun a h4 => ?_)
  ·refine tk a (sm (.i k)) (tk a (scm rfl rfl rfl) (tk a (sm (Z43 k)) ?_));obtain ⟨s, p, h4⟩ := bns h4;refine bE 5 [1, 2, 3, 8, 20] 28 s ?_ ?_
   ·refine bch p (fun g p => ?_) (fun g p => ?_)
    ·refine tk g (sm (.i m)) (tkl 0 g rfl rfl qV rfl aT (tk g (scm rfl rfl rfl) (tk a (spt (.b (decide (d.Seeds ≤ m))) g) ?_)));obtain rfl := sIn p;refine aB (aM rfl (ae rfl) rfl)
    ·refine tp g (tp g (tp g (tp g (tk a (spf Z9 g) ?_))));obtain rfl := sIn p;refine aB (aM rfl (ae rfl) rfl)
   ·refine tk a (sm (.b s)) ?_;obtain ⟨t, n, h4⟩ := bns h4;refine bE 9 [1, 2, 3, 8, 20] 38 t ?_ ?_
    ·refine bch n (fun c n => ?_) (fun c n => ?_)
     ·refine tp c (tp c (tp c (tq (tq (tq (tq (tp c (tk a (spt Z22 c) ?_))))))));obtain rfl := sIn n;refine aB (aM rfl (ae rfl) rfl)
     ·refine tk c (sm (.i m)) (tk c (scm rfl rfl rfl) (tk c (sm (Z43 m)) ?_));obtain ⟨u, q, n⟩ := bns n;refine bE 5 [1, 2, 3, 8, 20, 29] 37 u ?_ ?_
      ·refine bch q (fun j q => ?_) (fun j q => ?_)
       ·refine tk j (sm (.i k)) (tkl 0 j rfl rfl qV rfl aT (tk j (scm rfl rfl rfl) (tk c (spt (.b (decide (d.Seeds ≤ k))) j) ?_)));obtain rfl := sIn q;refine aB (aM rfl (ae rfl) rfl)
       ·refine tp j (tp j (tp j (tp j (tk c (spf Z9 j) ?_))));obtain rfl := sIn q;refine aB (aM rfl (ae rfl) rfl)
      ·refine tk a (spf (.b u) c) ?_;obtain rfl := sIn n;refine aB (aM rfl (ae rfl) rfl)
    ·refine to (spt (.b t) a) ?_;obtain rfl := sIn h4;refine aB (aM rfl (ae rfl) rfl)
  ·refine tp a (tp a (tp a (tq (tq (tq (tq (tp a (tp a (tq (tq (tq (tq (tq ?_)))))))))))));refine tq (tq (tq (tp a (to (spf Z9 a) ?_))));obtain rfl := sIn h4;refine aB (aM rfl (ae rfl) rfl)
 ·refine aB ?_;refine tih h (fun c5 h => ?_) (fun c5 h => ?_)
  ·refine aC (aA (ta Z9 (aB ?_)));obtain rfl := sIn h;refine bX (bP (bS (l := [6]) (ae rfl))) ?_;exact rt
  ·refine bG (aC (aA (to (sla 0 (bI d) rfl rfl jW) (tm (.i k) (tm (.i m) ?_)))));obtain ⟨r6, h7, h⟩ := bns h;refine to (scr call219 (aLv _ _ _ h7)) (tm (.b r6) ?_);obtain ⟨b8, h9, h⟩ := bns h;refine bE 5 [1, 2, 8] 49 b8 ?_ ?_
   ·refine bch h9 (fun e h9 => ?_) (fun e h9 => ?_)
    ·refine tk e (sm (.fn 218 [.bp b1 0 0, .bp b2 0 0])) (tk e (sm (.i k)) (tk e (sm (.i m)) ?_));obtain ⟨x, y, h9⟩ := bns h9;refine tk e (eE (aH rfl) (.clo _ _ _ _ call218 rfl) (aCb rfl) rfl (.cons (.same _) (.cons (.same _) (.cons (jQ 0 rfl rfl (dvc (.same _) (dvc (.same _) (dvc (.same _) (dvc (.same _) dvn))))) (.cons (jQ 1 rfl rfl (dvc (.same _) dvn)) .nil)))) (aAa _ _ _ _ y) rfl) ?_;refine to (spt (.b x) e) ?_;obtain rfl := sIn h9;refine aB (aM rfl (ae rfl) rfl)
    ·refine tp e (tp e (tp e (tp e (to (spf Z9 e) ?_))));obtain rfl := sIn h9;refine aB (aM rfl (ae rfl) rfl)
   ·refine tm (.b b8) ?_;obtain ⟨w, o, h⟩ := bns h;refine bE 5 [] 55 w ?_ ?_
    ·refine bch o (fun f o => ?_) (fun f o => ?_)
     ·refine tk f (sm (.fn 218 [.bp b1 0 0, .bp b2 0 0])) (tk f (sm (.i m)) (tk f (sm (.i k)) ?_));obtain ⟨z, A, o⟩ := bns o;refine tk f (eE (aH rfl) (.clo _ _ _ _ call218 rfl) (aCb rfl) rfl (.cons (.same _) (.cons (.same _) (.cons (jQ 0 rfl rfl (dvc (.same _) (dvc (.same _) (dvc (.same _) (dvc (.same _) dvn))))) (.cons (jQ 1 rfl rfl (dvc (.same _) dvn)) .nil)))) (aAa _ _ _ _ A) rfl) ?_;refine to (spt (.b z) f) ?_;obtain rfl := sIn o;refine aB (aM rfl trivial rfl)
     ·refine tp f (tp f (tp f (tp f (to (spf Z9 f) ?_))));obtain rfl := sIn o;refine aB (aM rfl trivial rfl)
    ·refine ta (.b w) (aB ?_);obtain rfl := sIn h;refine bX (bP (bS (l := [6]) (ae rfl))) ?_;exact rt

theorem aEi {S : Type} (J K : S → MO → Prop) (ly : Nat) (V : S → (List Int) → Option (S × Bool)) (hy : ∀ (s : S) (m : MO) (x0 : List Int) (s' : S × Bool), J s m → V s x0 = some s' → wA Tryz.prog ly [.d (.sl 1 (x0.map aL))] m (fun b m' => b = s'.2 ∧ JK J K s' m')) (kr : Nat) : ∀ (a : List Int) (F : Int) (e : bQ) (B : List Int) (sy : S) {r : S × Bool} {o j c : Nat} (m0 : MO) (_hj : J sy m0) (_hcap : a.length ≤ c) (_hsz : (c : Int) = e.Size) (_h : mZ V kr a F e B sy = some r), dR Tryz.prog 170 [.d (.lit (vw j a.length c)), .i F, .cp [.j e.Size, .j e.Seeds, .sl 3 (e.Persons.map aY), .sl 1 (e.Lots.map aL)], .cp (Z30 ly), .cp [.sl 1 (B.map aL)], .bp o 0 0] [m0, nS o 170 [.cp [.j e.Size, .j e.Seeds, .sl 3 (e.Persons.map aY), .sl 1 (e.Lots.map aL)], .cp (Z30 ly), .cp [.sl 1 (B.map aL)], .bp o 0 0], .arr (vw j a.length c) 3 1 (a.map aL)] (fun r' o' => ∃ m', r' = .b r.2 ∧ JK J K r m' ∧ o' = [m', nS o 170 [.cp [.j e.Size, .j e.Seeds, .sl 3 (e.Persons.map aY), .sl 1 (e.Lots.map aL)], .cp (Z30 ly), .cp [.sl 1 (B.map aL)], .bp o 0 0], .arr (vw j a.length c) 3 1 (a.map aL)]) := by
  induction kr with
  | zero => intros; rename_i h; cases h
  | succ kr ih =>
    intro a F e B sy r o j c m0 hj hcap hsz h;simp only [mZ] at h;refine tO func170 rfl (rs := [.tmp 8]) results170 ntmps170 (Nat.le_of_ble_eq_true rfl) ?_;refine aC (aA (ta Z9 (aB (aC (aA (tm (.d (.lit (vw j a.length c))) (to (vL (m := 2) (aH rfl) rfl rfl cF.of) ?_)))))));refine ta (.i (a.length : Int)) (aB (aC (aC (aA (tm (.i (a.length : Int)) (to (sfc [.j e.Size] rfl kN) (to (slc rfl aT) (to (scm rfl rfl rfl) (aB ?_)))))))));refine tih h (fun c1 h => ?_) (fun c1 h => ?_)
    ·refine aC ?_;obtain ⟨r3, h4, h⟩ := bns h;refine fB mix 3 [] (fun X2 => [(19, .d (.lit (yv ly))), (21, .d (.lit (X2 2).v))]) (fun X2 => [m0, nS o 170 [.cp [.j e.Size, .j e.Seeds, .sl 3 (e.Persons.map aY), .sl 1 (e.Lots.map aL)], .cp (Z30 ly), .cp [.sl 1 (B.map aL)], .bp o 0 0], .arr (vw j a.length c) 3 1 (a.map aL), .arr (X2 2).v 3 1 (r3.map aL)]) ?_ ?_
     ·refine ⟨1, fun X2 => [(19, 0, .d (.lit (yv ly))), (20, 1, .d (.lit (vw j a.length c))), (21, 2, .d (.lit (X2 2).v))], fun X2 => [([], m0), ([], nS o 170 [.cp [.j e.Size, .j e.Seeds, .sl 3 (e.Persons.map aY), .sl 1 (e.Lots.map aL)], .cp (Z30 ly), .cp [.sl 1 (B.map aL)], .bp o 0 0]), ([], .arr (vw j a.length c) 3 1 (a.map aL)), ([(2, .arr (X2 2).v 3 1 (r3.map aL))], nob)], ?_, ?_⟩
      · exact xok [(0, 0), (0, 3), (2, 0)] ⟨fun _ _ w _ k => xp w (ylc k rfl aXd),
 fun _ _ w _ k => xp w (ym k (.d (.lit (vw j a.length c)))),
 fun X2 S hw hi hS => iK (X := X2) (p := 3) (v := fun x => .d (.lit x.v)) (mo := fun x => .arr x.v 3 1 (r3.map aL)) hS hi rfl rfl (fun _ => rfl) hw (fun _ => rfl) (fun _ => rfl) (fun _ => rfl) (fun _ => ⟨rfl, rfl, .inr rfl, ⟨rfl, rfl, .inr rfl, ⟨rfl, rfl, .inl rfl, trivial⟩⟩⟩) (fun _ => ⟨trivial, rfl, ⟨trivial, rfl, ⟨trivial, rfl, ⟨⟨rfl, .inl rfl, trivial⟩, rfl, trivial⟩⟩⟩⟩) (eG (aPi (aH rfl) (.func _ _ call93) (ev2 (aX hS rfl) evn) rfl (.cons (.d (cY 2 (og hS rfl rfl) (bL (f := aL) fun _ => rfl))) .nil) (rT _ h4) (aEq (fun _ => rfl) _)) (by rintro _ ⟨w, rfl⟩; exact ⟨⟨0, w⟩, bD [0, 1, 2, 4] rfl rfl (le_refl _)⟩)), trivial⟩
      · exact fun X2 => cN (aR rfl (aR rfl (bB trivial)))
     ·intro X2;refine eP (rJ [m0, nS o 170 [.cp [.j e.Size, .j e.Seeds, .sl 3 (e.Persons.map aY), .sl 1 (e.Lots.map aL)], .cp (Z30 ly), .cp [.sl 1 (B.map aL)], .bp o 0 0], .arr (vw j a.length c) 3 1 (a.map aL)] [.arr (X2 2).v 3 1 (r3.map aL)] rfl (oG (k := 21) (v := .d (.sl 1 (r3.map aL))) (.d (cY 0 rfl (bL (f := aL) fun _ => rfl))) (mS _ _))) ?_;obtain ⟨y5, h6, h⟩ := bns h;refine aOp rfl (aVs (aH rfl) rfl rfl rfl rfl (hy _ _ _ _ hj h6)) ?_;rintro _ ⟨_, m7, ⟨rfl, a4⟩, rfl⟩;refine ta (.b y5.2) (aB ?_);obtain rfl := sIn h;exact bY ⟨rfl, _, [m7, nS o 170 [.cp [.j e.Size, .j e.Seeds, .sl 3 (e.Persons.map aY), .sl 1 (e.Lots.map aL)], .cp (Z30 ly), .cp [.sl 1 (B.map aL)], .bp o 0 0], .arr (vw j a.length c) 3 1 (a.map aL)], [], _, .one (.tmp 8 (v := .b y5.2) rfl), .refl _, .same _, m7, rfl, a4, rfl⟩
    ·refine bG (aC (aC (aA (to (slc rfl cZ) (to (sle rfl cF.of) (tm (.i 0) (aB (cH ?_))))))));refine eO (S := Int × ({x : S × MO // J x.1 x.2})) [0, 1, 2, 5, 9, 23, 24] (fun s9 => [(25, .i s9.1)]) (fun s9 => [.arr (vw j a.length c) 3 1 (a.map aL), s9.2.1.2, nS o 170 [.cp [.j e.Size, .j e.Seeds, .sl 3 (e.Persons.map aY), .sl 1 (e.Lots.map aL)], .cp (Z30 ly), .cp [.sl 1 (B.map aL)], .bp o 0 0]]) (fun k s9 => mC V (mZ V kr) F e (a.length : Int) B (B.length : Int) a e B k s9.1 s9.2.1.1) (fun _ => rfl) (0, ⟨(sy, m0), hj⟩) h (bD [2, 0, 1] rfl rfl (aR rfl (bB (ae rfl)))) ?_;rintro b3 ⟨L, I⟩ h;simp only [mC] at h;refine aC (aA (to (scm rfl rfl rfl) (aB (aC ?_))));refine tih h (fun a5 h => ?_) (fun a5 h => ?_)
     ·refine bG (aC (cH (aC (aA ?_))));obtain ⟨g, a6, h⟩ := bns h;refine to (six rfl rfl cF.of (cL aL a6)) (to (slc rfl aT) (ta (.i g) (aB (aC (aA (tm (.i F) (ta (.i F) (aB (aC (aC (aA (tm (.i g) (to (scm rfl rfl rfl) ?_)))))))))))));refine aB ?_;obtain ⟨q, T, h⟩ := bns h;refine aXp [0, 1, 2, 5, 9, 11, 23, 24, 25] [(12, .i q)] [.arr (vw j a.length c) 3 1 (a.map aL), I.1.2, nS o 170 [.cp [.j e.Size, .j e.Seeds, .sl 3 (e.Persons.map aY), .sl 1 (e.Lots.map aL)], .cp (Z30 ly), .cp [.sl 1 (B.map aL)], .bp o 0 0]] ?_ ?_
      ·refine tih T (fun a7 T => ?_) (fun a7 T => ?_)
       ·refine aA (tm (.i F) (to (sar rfl rfl rfl) (ta (.i (w64 (F - 1))) (aB ?_))));obtain rfl := sIn T;exact bD [0, 1, 2] rfl rfl (aR rfl (bB (ae rfl)))
       ·refine bG ?_;obtain rfl := sIn T;exact bD [0, 1, 2] rfl rfl (aR rfl (bB (ae rfl)))
      ·refine aC (aC ?_);obtain ⟨b4, N, h⟩ := bns h;obtain ⟨b5, G, h⟩ := bns h;obtain ⟨a8, C, h⟩ := bns h;refine eD mix 34 [0, 1, 2, 5, 9, 11, 12, 23, 24, 25] [(67, .b a8)] ?_ ?_
       ·refine bch N (fun u N => ?_) (fun u N => ?_)
        ·obtain rfl := sIn N;have n : true = true := rfl;have G := wD n G;obtain rfl := sIn G;have l : true = true := rfl;have C := wD l C;obtain rfl := sIn C;refine ⟨[(34, 0, .i q), (35, 1, .b (decide (q < 0))), (36, 2, .b (decide (q < 0))), (37, 3, .tup []), (38, 4, .tup []), (39, 5, .tup []), (40, 6, .tup []), (41, 7, .tup []), (42, 8, .tup []), (43, 9, .tup []), (44, 10, .b true), (45, 11, .b (true)), (46, 12, .tup []), (47, 13, .tup []), (48, 14, .tup []), (49, 15, .tup []), (50, 16, .tup []), (51, 17, .b true), (52, 18, .b (true)), (53, 19, .tup []), (54, 20, .tup []), (55, 21, .tup []), (56, 22, .tup []), (57, 23, .tup []), (58, 24, .tup []), (59, 25, .tup []), (60, 26, .tup []), (61, 27, .tup []), (62, 28, .tup []), (63, 29, .tup []), (64, 30, .tup []), (65, 31, .tup []), (66, 32, .tup []), (67, 33, .b true)], ?_, ?_⟩
         · exact dk [0, 1, 2, 3, 304, 305, 6, 6, 60708, 30609, 310, 11, 12, 12, 12, 12131415, 1216, 1217, 18, 19, 1920, 1921, 1922, 23, 23, 23, 2326, 232527, 2328, 23, 23242930, 2331, 192332, 1933] ⟨go (zm (.i q)),
 go (zcm rfl rfl rfl),
 go (zm (.b (decide (q < 0)))),
 gp u,
 gp u,
 gp u,
 gq,
 gq,
 gq,
 gp u,
 go (zpt Z22 u),
 go (zm (.b (true))),
 gp n,
 gp n,
 gp n,
 gp n,
 gp n,
 go (zpt Z22 n),
 go (zm (.b (true))),
 gp l,
 gp l,
 gp l,
 gp l,
 gq,
 gq,
 gq,
 gq,
 gq,
 gq,
 gq,
 gq,
 gq,
 gp l,
 go (zpt Z22 l), trivial⟩
         · exact cN (aR rfl (bB (ae rfl)))
        ·obtain ⟨b6, P, N⟩ := bns N;refine bch P (fun z P => ?_) (fun z P => ?_)
         ·obtain ⟨A, W, P⟩ := bns P;obtain rfl := sIn P;obtain rfl := sIn N;refine bch G (fun n G => ?_) (fun n G => ?_)
          ·obtain rfl := sIn G;have l : true = true := rfl;have C := wD l C;obtain rfl := sIn C;refine ⟨[(34, 0, .i q), (35, 1, .b (decide (q < 0))), (36, 2, .b (decide (q < 0))), (37, 3, .i g), (38, 4, .b (!decide (g = (-1)))), (39, 5, .b (!decide (g = (-1)))), (40, 6, .d (.lit (vw j a.length c))), (41, 7, .i g), (42, 8, .b A), (43, 9, .b A), (44, 10, .b (A)), (45, 11, .b (A)), (46, 12, .tup []), (47, 13, .tup []), (48, 14, .tup []), (49, 15, .tup []), (50, 16, .tup []), (51, 17, .b true), (52, 18, .b (true)), (53, 19, .tup []), (54, 20, .tup []), (55, 21, .tup []), (56, 22, .tup []), (57, 23, .tup []), (58, 24, .tup []), (59, 25, .tup []), (60, 26, .tup []), (61, 27, .tup []), (62, 28, .tup []), (63, 29, .tup []), (64, 30, .tup []), (65, 31, .tup []), (66, 32, .tup []), (67, 33, .b true)], ?_, ?_⟩
           · exact dk [0, 1, 2, 3, 304, 305, 6, 6, 60708, 30609, 310, 11, 12, 12, 12, 12131415, 1216, 1217, 18, 19, 1920, 1921, 1922, 23, 23, 23, 2326, 232527, 2328, 23, 23242930, 2331, 192332, 1933] ⟨go (zm (.i q)),
 go (zcm rfl rfl rfl),
 go (zm (.b (decide (q < 0)))),
 gt u (zm (.i g)),
 gt u (zcm rfl rfl rfl),
 gt u (zm (.b (!decide (g = (-1))))),
 gt z (zm (.d (.lit (vw j a.length c)))),
 gt z (zm (.i g)),
 gt z fun S hS => eE (aH rfl) (.func _ _ call91) (ev2 (aX hS rfl) (ev2 (aX hS rfl) evn)) rfl (.cons (.d (cY 0 rfl (bL (f := aL) fun _ => rfl))) (.cons (.same _) .nil)) (gJ _ _ W) rfl,
 gt u (zpt (.b A) z),
 go (zpf (.b (A)) u),
 go (zm (.b (A))),
 gp n,
 gp n,
 gp n,
 gp n,
 gp n,
 go (zpt Z22 n),
 go (zm (.b (true))),
 gp l,
 gp l,
 gp l,
 gp l,
 gq,
 gq,
 gq,
 gq,
 gq,
 gq,
 gq,
 gq,
 gq,
 gp l,
 go (zpt Z22 l), trivial⟩
           · exact cN (aR rfl (bB (ae rfl)))
          ·obtain ⟨y, Q, G⟩ := bns G;obtain rfl := sIn G;refine bch C (fun l C => ?_) (fun l C => ?_)
           ·obtain rfl := sIn C;refine ⟨[(34, 0, .i q), (35, 1, .b (decide (q < 0))), (36, 2, .b (decide (q < 0))), (37, 3, .i g), (38, 4, .b (!decide (g = (-1)))), (39, 5, .b (!decide (g = (-1)))), (40, 6, .d (.lit (vw j a.length c))), (41, 7, .i g), (42, 8, .b A), (43, 9, .b A), (44, 10, .b (A)), (45, 11, .b (A)), (46, 12, .agg (bI e)), (47, 13, .i (a.length : Int)), (48, 14, .i g), (49, 15, .b y), (50, 16, .b (!y)), (51, 17, .b (!y)), (52, 18, .b (!y)), (53, 19, .tup []), (54, 20, .tup []), (55, 21, .tup []), (56, 22, .tup []), (57, 23, .tup []), (58, 24, .tup []), (59, 25, .tup []), (60, 26, .tup []), (61, 27, .tup []), (62, 28, .tup []), (63, 29, .tup []), (64, 30, .tup []), (65, 31, .tup []), (66, 32, .tup []), (67, 33, .b true)], ?_, ?_⟩
            · exact dk [0, 1, 2, 3, 304, 305, 6, 6, 60708, 30609, 310, 11, 12, 12, 12, 12131415, 1216, 1217, 18, 19, 1920, 1921, 1922, 23, 23, 23, 2326, 232527, 2328, 23, 23242930, 2331, 192332, 1933] ⟨go (zm (.i q)),
 go (zcm rfl rfl rfl),
 go (zm (.b (decide (q < 0)))),
 gt u (zm (.i g)),
 gt u (zcm rfl rfl rfl),
 gt u (zm (.b (!decide (g = (-1))))),
 gt z (zm (.d (.lit (vw j a.length c)))),
 gt z (zm (.i g)),
 gt z fun S hS => eE (aH rfl) (.func _ _ call91) (ev2 (aX hS rfl) (ev2 (aX hS rfl) evn)) rfl (.cons (.d (cY 0 rfl (bL (f := aL) fun _ => rfl))) (.cons (.same _) .nil)) (gJ _ _ W) rfl,
 gt u (zpt (.b A) z),
 go (zpf (.b (A)) u),
 go (zm (.b (A))),
 gt n (aFq (bI e) rfl jW),
 gt n (zm (.i (a.length : Int))),
 gt n (zm (.i g)),
 gt n fun S hS => eE (aH rfl) (.func _ _ call171) (ev2 (aX hS rfl) (ev2 (aX hS rfl) (ev2 (aX hS rfl) evn))) rfl (BVs.refl _ _) (pR _ _ _ Q) rfl,
 gt n (zn rfl),
 go (zpf (.b (!y)) n),
 go (zm (.b (!y))),
 gp l,
 gp l,
 gp l,
 gp l,
 gq,
 gq,
 gq,
 gq,
 gq,
 gq,
 gq,
 gq,
 gq,
 gp l,
 go (zpt Z22 l), trivial⟩
            · exact cN (aR rfl (bB (ae rfl)))
           ·obtain ⟨a9, E, C⟩ := bns C;refine bch E (fun t E => ?_) (fun t E => ?_)
            ·obtain ⟨Y, U, E⟩ := bns E;obtain ⟨H, Z, E⟩ := bns E;obtain rfl := sIn E;obtain rfl := sIn C;refine ⟨[(34, 0, .i q), (35, 1, .b (decide (q < 0))), (36, 2, .b (decide (q < 0))), (37, 3, .i g), (38, 4, .b (!decide (g = (-1)))), (39, 5, .b (!decide (g = (-1)))), (40, 6, .d (.lit (vw j a.length c))), (41, 7, .i g), (42, 8, .b A), (43, 9, .b A), (44, 10, .b (A)), (45, 11, .b (A)), (46, 12, .agg (bI e)), (47, 13, .i (a.length : Int)), (48, 14, .i g), (49, 15, .b y), (50, 16, .b (!y)), (51, 17, .b (!y)), (52, 18, .b (!y)), (53, 19, .i (a.length : Int)), (54, 20, .i ((a.length : Int).tmod 2)), (55, 21, .b (decide (((a.length : Int).tmod 2) = 1))), (56, 22, .b (decide (((a.length : Int).tmod 2) = 1))), (57, 23, .agg (bI e)), (58, 24, .d (.lit (vw j a.length c))), (59, 25, .i (a.length : Int)), (60, 26, .i (w64 ((a.length : Int) - 1))), (61, 27, .ep (vw j a.length c) 1 (w64 ((a.length : Int) - 1)).toNat 0), (62, 28, .i Y), (63, 29, .i g), (64, 30, .b H), (65, 31, .b (!H)), (66, 32, .b (!H)), (67, 33, .b (!H))], ?_, ?_⟩
             · exact dk [0, 1, 2, 3, 304, 305, 6, 6, 60708, 30609, 310, 11, 12, 12, 12, 12131415, 1216, 1217, 18, 19, 1920, 1921, 1922, 23, 23, 23, 2326, 232527, 2328, 23, 23242930, 2331, 192332, 1933] ⟨go (zm (.i q)),
 go (zcm rfl rfl rfl),
 go (zm (.b (decide (q < 0)))),
 gt u (zm (.i g)),
 gt u (zcm rfl rfl rfl),
 gt u (zm (.b (!decide (g = (-1))))),
 gt z (zm (.d (.lit (vw j a.length c)))),
 gt z (zm (.i g)),
 gt z fun S hS => eE (aH rfl) (.func _ _ call91) (ev2 (aX hS rfl) (ev2 (aX hS rfl) evn)) rfl (.cons (.d (cY 0 rfl (bL (f := aL) fun _ => rfl))) (.cons (.same _) .nil)) (gJ _ _ W) rfl,
 gt u (zpt (.b A) z),
 go (zpf (.b (A)) u),
 go (zm (.b (A))),
 gt n (aFq (bI e) rfl jW),
 gt n (zm (.i (a.length : Int))),
 gt n (zm (.i g)),
 gt n fun S hS => eE (aH rfl) (.func _ _ call171) (ev2 (aX hS rfl) (ev2 (aX hS rfl) (ev2 (aX hS rfl) evn))) rfl (BVs.refl _ _) (pR _ _ _ Q) rfl,
 gt n (zn rfl),
 go (zpf (.b (!y)) n),
 go (zm (.b (!y))),
 gt l (zm (.i (a.length : Int))),
 gt l fun S hS => gV (aH rfl) (aX hS rfl) rfl (by decide),
 gt l (zcm rfl rfl rfl),
 gt l (zm (.b (decide (((a.length : Int).tmod 2) = 1)))),
 gt t (aFq (bI e) rfl jW),
 gt t (zm (.d (.lit (vw j a.length c)))),
 gt t (zm (.i (a.length : Int))),
 gt t (zar rfl rfl rfl),
 gt t (zia 0 rfl rfl rfl cF.of (cL aL U)),
 gt t fun S hS => mG (aH rfl) (aX hS rfl) (m := 0) rfl (rF aL U) rfl aT,
 gt t (zm (.i g)),
 gt t fun S hS => eE (aH rfl) (.func _ _ call172) (ev2 (aX hS rfl) (ev2 (aX hS rfl) (ev2 (aX hS rfl) evn))) rfl (BVs.refl _ _) (aDo _ _ _ Z) rfl,
 gt t (zn rfl),
 gt l (zpt (.b (!H)) t),
 go (zpf (.b (!H)) l), trivial⟩
             · exact cN (aR rfl (bB (ae rfl)))
            ·obtain rfl := sIn E;obtain rfl := sIn C;refine ⟨[(34, 0, .i q), (35, 1, .b (decide (q < 0))), (36, 2, .b (decide (q < 0))), (37, 3, .i g), (38, 4, .b (!decide (g = (-1)))), (39, 5, .b (!decide (g = (-1)))), (40, 6, .d (.lit (vw j a.length c))), (41, 7, .i g), (42, 8, .b A), (43, 9, .b A), (44, 10, .b (A)), (45, 11, .b (A)), (46, 12, .agg (bI e)), (47, 13, .i (a.length : Int)), (48, 14, .i g), (49, 15, .b y), (50, 16, .b (!y)), (51, 17, .b (!y)), (52, 18, .b (!y)), (53, 19, .i (a.length : Int)), (54, 20, .i ((a.length : Int).tmod 2)), (55, 21, .b (decide (((a.length : Int).tmod 2) = 1))), (56, 22, .b (decide (((a.length : Int).tmod 2) = 1))), (57, 23, .tup []), (58, 24, .tup []), (59, 25, .tup []), (60, 26, .tup []), (61, 27, .tup []), (62, 28, .tup []), (63, 29, .tup []), (64, 30, .tup []), (65, 31, .tup []), (66, 32, .b false), (67, 33, .b (false))], ?_, ?_⟩
             · exact dk [0, 1, 2, 3, 304, 305, 6, 6, 60708, 30609, 310, 11, 12, 12, 12, 12131415, 1216, 1217, 18, 19, 1920, 1921, 1922, 23, 23, 23, 2326, 232527, 2328, 23, 23242930, 2331, 192332, 1933] ⟨go (zm (.i q)),
 go (zcm rfl rfl rfl),
 go (zm (.b (decide (q < 0)))),
 gt u (zm (.i g)),
 gt u (zcm rfl rfl rfl),
 gt u (zm (.b (!decide (g = (-1))))),
 gt z (zm (.d (.lit (vw j a.length c)))),
 gt z (zm (.i g)),
 gt z fun S hS => eE (aH rfl) (.func _ _ call91) (ev2 (aX hS rfl) (ev2 (aX hS rfl) evn)) rfl (.cons (.d (cY 0 rfl (bL (f := aL) fun _ => rfl))) (.cons (.same _) .nil)) (gJ _ _ W) rfl,
 gt u (zpt (.b A) z),
 go (zpf (.b (A)) u),
 go (zm (.b (A))),
 gt n (aFq (bI e) rfl jW),
 gt n (zm (.i (a.length : Int))),
 gt n (zm (.i g)),
 gt n fun S hS => eE (aH rfl) (.func _ _ call171) (ev2 (aX hS rfl) (ev2 (aX hS rfl) (ev2 (aX hS rfl) evn))) rfl (BVs.refl _ _) (pR _ _ _ Q) rfl,
 gt n (zn rfl),
 go (zpf (.b (!y)) n),
 go (zm (.b (!y))),
 gt l (zm (.i (a.length : Int))),
 gt l fun S hS => gV (aH rfl) (aX hS rfl) rfl (by decide),
 gt l (zcm rfl rfl rfl),
 gt l (zm (.b (decide (((a.length : Int).tmod 2) = 1)))),
 gp t,
 gp t,
 gp t,
 gp t,
 gp t,
 gp t,
 gp t,
 gp t,
 gp t,
 gt l (zpf Z9 t),
 go (zpf Z67 l), trivial⟩
             · exact cN (aR rfl (bB (ae rfl)))
         ·obtain rfl := sIn P;obtain rfl := sIn N;have n : false = false := rfl;have G := yR n G;obtain ⟨y, Q, G⟩ := bns G;obtain rfl := sIn G;refine bch C (fun l C => ?_) (fun l C => ?_)
          ·obtain rfl := sIn C;refine ⟨[(34, 0, .i q), (35, 1, .b (decide (q < 0))), (36, 2, .b (decide (q < 0))), (37, 3, .i g), (38, 4, .b (!decide (g = (-1)))), (39, 5, .b (!decide (g = (-1)))), (40, 6, .tup []), (41, 7, .tup []), (42, 8, .tup []), (43, 9, .b false), (44, 10, .b (false)), (45, 11, .b (false)), (46, 12, .agg (bI e)), (47, 13, .i (a.length : Int)), (48, 14, .i g), (49, 15, .b y), (50, 16, .b (!y)), (51, 17, .b (!y)), (52, 18, .b (!y)), (53, 19, .tup []), (54, 20, .tup []), (55, 21, .tup []), (56, 22, .tup []), (57, 23, .tup []), (58, 24, .tup []), (59, 25, .tup []), (60, 26, .tup []), (61, 27, .tup []), (62, 28, .tup []), (63, 29, .tup []), (64, 30, .tup []), (65, 31, .tup []), (66, 32, .tup []), (67, 33, .b true)], ?_, ?_⟩
           · exact dk [0, 1, 2, 3, 304, 305, 6, 6, 60708, 30609, 310, 11, 12, 12, 12, 12131415, 1216, 1217, 18, 19, 1920, 1921, 1922, 23, 23, 23, 2326, 232527, 2328, 23, 23242930, 2331, 192332, 1933] ⟨go (zm (.i q)),
 go (zcm rfl rfl rfl),
 go (zm (.b (decide (q < 0)))),
 gt u (zm (.i g)),
 gt u (zcm rfl rfl rfl),
 gt u (zm (.b (!decide (g = (-1))))),
 gp z,
 gp z,
 gp z,
 gt u (zpf Z9 z),
 go (zpf Z67 u),
 go (zm Z67),
 gt n (aFq (bI e) rfl jW),
 gt n (zm (.i (a.length : Int))),
 gt n (zm (.i g)),
 gt n fun S hS => eE (aH rfl) (.func _ _ call171) (ev2 (aX hS rfl) (ev2 (aX hS rfl) (ev2 (aX hS rfl) evn))) rfl (BVs.refl _ _) (pR _ _ _ Q) rfl,
 gt n (zn rfl),
 go (zpf (.b (!y)) n),
 go (zm (.b (!y))),
 gp l,
 gp l,
 gp l,
 gp l,
 gq,
 gq,
 gq,
 gq,
 gq,
 gq,
 gq,
 gq,
 gq,
 gp l,
 go (zpt Z22 l), trivial⟩
           · exact cN (aR rfl (bB (ae rfl)))
          ·obtain ⟨a9, E, C⟩ := bns C;refine bch E (fun t E => ?_) (fun t E => ?_)
           ·obtain ⟨Y, U, E⟩ := bns E;obtain ⟨H, Z, E⟩ := bns E;obtain rfl := sIn E;obtain rfl := sIn C;refine ⟨[(34, 0, .i q), (35, 1, .b (decide (q < 0))), (36, 2, .b (decide (q < 0))), (37, 3, .i g), (38, 4, .b (!decide (g = (-1)))), (39, 5, .b (!decide (g = (-1)))), (40, 6, .tup []), (41, 7, .tup []), (42, 8, .tup []), (43, 9, .b false), (44, 10, .b (false)), (45, 11, .b (false)), (46, 12, .agg (bI e)), (47, 13, .i (a.length : Int)), (48, 14, .i g), (49, 15, .b y), (50, 16, .b (!y)), (51, 17, .b (!y)), (52, 18, .b (!y)), (53, 19, .i (a.length : Int)), (54, 20, .i ((a.length : Int).tmod 2)), (55, 21, .b (decide (((a.length : Int).tmod 2) = 1))), (56, 22, .b (decide (((a.length : Int).tmod 2) = 1))), (57, 23, .agg (bI e)), (58, 24, .d (.lit (vw j a.length c))), (59, 25, .i (a.length : Int)), (60, 26, .i (w64 ((a.length : Int) - 1))), (61, 27, .ep (vw j a.length c) 1 (w64 ((a.length : Int) - 1)).toNat 0), (62, 28, .i Y), (63, 29, .i g), (64, 30, .b H), (65, 31, .b (!H)), (66, 32, .b (!H)), (67, 33, .b (!H))], ?_, ?_⟩
            · exact dk [0, 1, 2, 3, 304, 305, 6, 6, 60708, 30609, 310, 11, 12, 12, 12, 12131415, 1216, 1217, 18, 19, 1920, 1921, 1922, 23, 23, 23, 2326, 232527, 2328, 23, 23242930, 2331, 192332, 1933] ⟨go (zm (.i q)),
 go (zcm rfl rfl rfl),
 go (zm (.b (decide (q < 0)))),
 gt u (zm (.i g)),
 gt u (zcm rfl rfl rfl),
 gt u (zm (.b (!decide (g = (-1))))),
 gp z,
 gp z,
 gp z,
 gt u (zpf Z9 z),
 go (zpf Z67 u),
 go (zm Z67),
 gt n (aFq (bI e) rfl jW),
 gt n (zm (.i (a.length : Int))),
 gt n (zm (.i g)),
 gt n fun S hS => eE (aH rfl) (.func _ _ call171) (ev2 (aX hS rfl) (ev2 (aX hS rfl) (ev2 (aX hS rfl) evn))) rfl (BVs.refl _ _) (pR _ _ _ Q) rfl,
 gt n (zn rfl),
 go (zpf (.b (!y)) n),
 go (zm (.b (!y))),
 gt l (zm (.i (a.length : Int))),
 gt l fun S hS => gV (aH rfl) (aX hS rfl) rfl (by decide),
 gt l (zcm rfl rfl rfl),
 gt l (zm (.b (decide (((a.length : Int).tmod 2) = 1)))),
 gt t (aFq (bI e) rfl jW),
 gt t (zm (.d (.lit (vw j a.length c)))),
 gt t (zm (.i (a.length : Int))),
 gt t (zar rfl rfl rfl),
 gt t (zia 0 rfl rfl rfl cF.of (cL aL U)),
 gt t fun S hS => mG (aH rfl) (aX hS rfl) (m := 0) rfl (rF aL U) rfl aT,
 gt t (zm (.i g)),
 gt t fun S hS => eE (aH rfl) (.func _ _ call172) (ev2 (aX hS rfl) (ev2 (aX hS rfl) (ev2 (aX hS rfl) evn))) rfl (BVs.refl _ _) (aDo _ _ _ Z) rfl,
 gt t (zn rfl),
 gt l (zpt (.b (!H)) t),
 go (zpf (.b (!H)) l), trivial⟩
            · exact cN (aR rfl (bB (ae rfl)))
           ·obtain rfl := sIn E;obtain rfl := sIn C;refine ⟨[(34, 0, .i q), (35, 1, .b (decide (q < 0))), (36, 2, .b (decide (q < 0))), (37, 3, .i g), (38, 4, .b (!decide (g = (-1)))), (39, 5, .b (!decide (g = (-1)))), (40, 6, .tup []), (41, 7, .tup []), (42, 8, .tup []), (43, 9, .b false), (44, 10, .b (false)), (45, 11, .b (false)), (46, 12, .agg (bI e)), (47, 13, .i (a.length : Int)), (48, 14, .i g), (49, 15, .b y), (50, 16, .b (!y)), (51, 17, .b (!y)), (52, 18, .b (!y)), (53, 19, .i (a.length : Int)), (54, 20, .i ((a.length : Int).tmod 2)), (55, 21, .b (decide (((a.length : Int).tmod 2) = 1))), (56, 22, .b (decide (((a.length : Int).tmod 2) = 1))), (57, 23, .tup []), (58, 24, .tup []), (59, 25, .tup []), (60, 26, .tup []), (61, 27, .tup []), (62, 28, .tup []), (63, 29, .tup []), (64, 30, .tup []), (65, 31, .tup []), (66, 32, .b false), (67, 33, .b (false))], ?_, ?_⟩
            · exact dk [0, 1, 2, 3, 304, 305, 6, 6, 60708, 30609, 310, 11, 12, 12, 12, 12131415, 1216, 1217, 18, 19, 1920, 1921, 1922, 23, 23, 23, 2326, 232527, 2328, 23, 23242930, 2331, 192332, 1933] ⟨go (zm (.i q)),
 go (zcm rfl rfl rfl),
 go (zm (.b (decide (q < 0)))),
 gt u (zm (.i g)),
 gt u (zcm rfl rfl rfl),
 gt u (zm (.b (!decide (g = (-1))))),
 gp z,
 gp z,
 gp z,
 gt u (zpf Z9 z),
 go (zpf Z67 u),
 go (zm Z67),
 gt n (aFq (bI e) rfl jW),
 gt n (zm (.i (a.length : Int))),
 gt n (zm (.i g)),
 gt n fun S hS => eE (aH rfl) (.func _ _ call171) (ev2 (aX hS rfl) (ev2 (aX hS rfl) (ev2 (aX hS rfl) evn))) rfl (BVs.refl _ _) (pR _ _ _ Q) rfl,
 gt n (zn rfl),
 go (zpf (.b (!y)) n),
 go (zm (.b (!y))),
 gt l (zm (.i (a.length : Int))),
 gt l fun S hS => gV (aH rfl) (aX hS rfl) rfl (by decide),
 gt l (zcm rfl rfl rfl),
 gt l (zm (.b (decide (((a.length : Int).tmod 2) = 1)))),
 gp t,
 gp t,
 gp t,
 gp t,
 gp t,
 gp t,
 gp t,
 gp t,
 gp t,
 gt l (zpf Z9 t),
 go (zpf Z67 l), trivial⟩
            · exact cN (aR rfl (bB (ae rfl)))
       ·refine aB ?_;refine tih h (fun b0 h => ?_) (fun b0 h => ?_)
        ·refine dP ?_;refine .inl ⟨rfl, ?_⟩;refine aA (to (sar rfl rfl rfl) (tm (.i (w64 (L + 1))) (aB ?_)));exact ⟨(w64 (L + 1), ⟨(I.1.1, I.1.2), I.2⟩), h, bD [0, 1, 2] rfl rfl (aR rfl (bB (ae rfl)))⟩
        ·refine bG (aC ?_);obtain ⟨M, a0, h⟩ := bns h;refine fB mix 6 [0, 1, 2, 5, 9, 23, 24, 25] (fun O => [(68, .fn 170 [.cp [.j e.Size, .j e.Seeds, .sl 3 (e.Persons.map aY), .sl 1 (e.Lots.map aL)], .cp (Z30 ly), .cp [.sl 1 (B.map aL)], .bp o 0 0]), (72, .d (.lit (vw j M.length c))), (73, .i q)]) (fun O => [.arr (vw j M.length c) 3 1 (M.map aL), I.1.2, nS o 170 [.cp [.j e.Size, .j e.Seeds, .sl 3 (e.Persons.map aY), .sl 1 (e.Lots.map aL)], .cp (Z30 ly), .cp [.sl 1 (B.map aL)], .bp o 0 0]]) ?_ ?_
         ·refine ⟨0, fun O => [(68, 0, .fn 170 [.cp [.j e.Size, .j e.Seeds, .sl 3 (e.Persons.map aY), .sl 1 (e.Lots.map aL)], .cp (Z30 ly), .cp [.sl 1 (B.map aL)], .bp o 0 0]), (69, 1, .d (.lit (vw j a.length c))), (70, 2, .i g), (71, 3, .d (.sl 1 (([g]).map aL))), (72, 4, .d (.lit (vw j M.length c))), (73, 5, .i q)], fun O => [([(4, .arr (vw j M.length c) 3 1 (M.map aL))], .arr (vw j a.length c) 3 1 (a.map aL)), ([], I.1.2), ([], nS o 170 [.cp [.j e.Size, .j e.Seeds, .sl 3 (e.Persons.map aY), .sl 1 (e.Lots.map aL)], .cp (Z30 ly), .cp [.sl 1 (B.map aL)], .bp o 0 0])], ?_, ?_⟩
          · exact xok [(0, 0), (0, 5), (0, 5), (3, 5), (204, 0), (0, 0)] ⟨fun _ _ w _ k => xp w (aGu (i := 2) (aH rfl) (aX k rfl) (og k rfl rfl) aPx),
 fun _ _ w _ k => xp w (ym k (.d (.lit (vw j a.length c)))),
 fun _ _ w _ k => xp w (ym k (.i g)),
 fun _ _ w _ k => xp w (eM (aH rfl) cF rfl (pa2 (aX k rfl) pan) (rows := ([g]).map aL) rfl (bL (f := aL) fun _ => rfl) rfl (by decide)),
 fun O S hw hi hS => aUb (X := O) (p := 0) hS rfl rfl rfl (hw O) rfl rfl rfl (eG (aTl (i := 0) (f := aL) (aH rfl) cF (aX hS rfl) (og hS rfl rfl) (aX hS rfl) (fun _ => rfl) hsz a0 (List.cons_ne_nil _ _)) (by rintro _ rfl; exact Ent.refl _)),
 fun _ _ w _ k => xp w (ym k (.i q)), trivial⟩
          · exact fun O => cN (aR rfl (aR rfl (aR rfl (bB (ae rfl)))))
         ·intro O;obtain ⟨b1, b2, h⟩ := bns h;refine eP (bD [1, 2, 0] rfl rfl (le_refl _)) ?_;refine bF rfl (jM (passed := [I.1.2, nS o 170 [.cp [.j e.Size, .j e.Seeds, .sl 3 (e.Persons.map aY), .sl 1 (e.Lots.map aL)], .cp (Z30 ly), .cp [.sl 1 (B.map aL)], .bp o 0 0], .arr (vw j M.length c) 3 1 (M.map aL)]) (aH rfl) rfl (.clo _ _ _ _ call170 rfl) (aCb rfl) rfl (ih M q e B I.1.1 _ I.2 (aUa hsz a0) hsz b2)) ?_;rintro _ ⟨_, _, ⟨a1, rfl, a2, rfl⟩, rfl⟩;refine eP (aOy 2 a0 rfl) ?_;refine to (sn rfl) (aB ?_);refine tih h (fun a3 h => ?_) (fun a3 h => ?_)
          ·refine aC (aA (ta Z9 (aB ?_)));obtain rfl := sIn h;exact bY ⟨rfl, _, [a1, nS o 170 [.cp [.j e.Size, .j e.Seeds, .sl 3 (e.Persons.map aY), .sl 1 (e.Lots.map aL)], .cp (Z30 ly), .cp [.sl 1 (B.map aL)], .bp o 0 0], .arr (vw j a.length c) 3 1 (a.map aL)], [], _, .one (.tmp 8 (v := .b false) rfl), .refl _, .same _, a1, rfl, (aYw a2 a3), rfl⟩
          ·refine eY ?_;refine aA (to (sar rfl rfl rfl) (tm (.i (w64 (L + 1))) (aB ?_)));exact ⟨(w64 (L + 1), ⟨(b1.1, a1), (aZb a2 (bnf a3))⟩), h, bD [2, 0, 1] rfl rfl (aR rfl (bB (ae rfl)))⟩
     ·refine dP ?_;refine .inl ⟨rfl, ?_⟩;simp only [xA] at h;refine aC (aA (ta Z22 (aB ?_)));obtain rfl := sIn h;refine bX (bD [1, 2, 0] rfl rfl (le_refl _)) ?_;exact bY ⟨rfl, _, [I.1.2, nS o 170 [.cp [.j e.Size, .j e.Seeds, .sl 3 (e.Persons.map aY), .sl 1 (e.Lots.map aL)], .cp (Z30 ly), .cp [.sl 1 (B.map aL)], .bp o 0 0], .arr (vw j a.length c) 3 1 (a.map aL)], [], _, .one (.tmp 8 (v := .b true) rfl), .refl _, .same _, I.1.2, rfl, I.2, rfl⟩
theorem aGg {S : Type} (J K : S → MO → Prop) (ly : Nat) (l : S → (List Int) → Option (S × Bool)) (hy : ∀ (s : S) (m : MO) (x0 : List Int) (s' : S × Bool), J s m → l s x0 = some s' → wA Tryz.prog ly [.d (.sl 1 (x0.map aL))] m (fun b m' => b = s'.2 ∧ JK J K s' m')) (f : List Int) (g : Int) (a : bQ) (k : List Int) (sy : S) {r : S × Bool} {e j c : Nat} (m0 : MO) (hj : J sy m0) (hcap : f.length ≤ c) (hsz : (c : Int) = a.Size) (h : zY l f g a k sy = some r) : dR Tryz.prog 170 [.d (.lit (vw j f.length c)), .i g, .cp [.j a.Size, .j a.Seeds, .sl 3 (Z21 a), .sl 1 (Z45 a)], .cp (Z30 ly), .cp (Z46 k), .bp e 0 0] [m0, nS e 170 [.cp [.j a.Size, .j a.Seeds, .sl 3 (Z21 a), .sl 1 (Z45 a)], .cp (Z30 ly), .cp (Z46 k), .bp e 0 0], .arr (vw j f.length c) 3 1 (f.map aL)] (fun r' o' => ∃ m', r' = .b r.2 ∧ JK J K r m' ∧ o' = [m', nS e 170 [.cp [.j a.Size, .j a.Seeds, .sl 3 (Z21 a), .sl 1 (Z45 a)], .cp (Z30 ly), .cp (Z46 k), .bp e 0 0], .arr (vw j f.length c) 3 1 (f.map aL)]) := aEi J K ly l hy BIG f g a k sy m0 hj hcap hsz h

theorem zZ {S : Type} (J K : S → MO → Prop) (ly : Nat) (e : S → (List Int) → Option (S × Bool)) (hy : ∀ (s : S) (m : MO) (x0 : List Int) (s' : S × Bool), J s m → e s x0 = some s' → wA Tryz.prog ly [.d (.sl 1 (x0.map aL))] m (fun b m' => b = s'.2 ∧ JK J K s' m')) (a : bQ) (c : List Int) (sy : S) (m0 : MO) (hj : J sy m0) {r : S × Bool} (h : uA e a c sy = some r) : dR Tryz.prog 169 [.d (.lit (yv ly)), .cp (bI a), .cp (Z46 c)] [m0] (fun _ o' => ∃ m', JK J K r m' ∧ o' = [m']) := by
 unfold uA at h;refine tO func169 rfl (rs := []) results169 ntmps169 (Nat.le_of_ble_eq_true rfl) ?_;refine aC (aA ?_);refine bF rfl (cT (v := .d (.lit (yv ly))) (aH rfl) rfl rfl rfl) ?_;rintro _ ⟨b1, rfl⟩;refine aB (aC (aA ?_));refine bF rfl (cG (zs := [.lit .nilFunc]) (aH rfl) zeroValue180 rfl rfl) ?_;rintro _ ⟨b2, rfl⟩;refine aB (aC (aA (to (zQ (aH rfl) rfl rfl) ?_)));refine eP (bD [0, 2, 1] rfl rfl (le_refl _)) ?_;apply aQg [m0, .box b2 0 [.lit .nilFunc]] [.box b1 0 (Z30 ly)] rfl;exact oG (k := 5) (v := .fn 170 [.cp [.j a.Size, .j a.Seeds, .sl 3 (Z21 a), .sl 1 (Z45 a)], .cp (Z30 ly), .cp (Z46 c), .bp b2 0 0]) (aIm (.cons (.same _) (.cons (jQ 0 rfl rfl (dvc (.same _) dvn)) (.cons (.same _) (.cons (.same _) .nil))))) (oG (k := 3) (v := .cp (Z30 ly)) (jQ 0 rfl rfl (dvc (.same _) dvn)) (mS _ _));refine to (aOg (i := 1) rfl rfl rfl rfl sizeOf180) ?_;refine aB ?_;obtain ⟨x4, h5, h⟩ := bns h;refine fB mix 10 [] (fun X3 => [(6, .fn 170 [.cp [.j a.Size, .j a.Seeds, .sl 3 (Z21 a), .sl 1 (Z45 a)], .cp (Z30 ly), .cp (Z46 c), .bp b2 0 0]), (9, .d (.lit (vw (X3 3).b ([] : List Int).length x4))), (15, .i (Z29 a))]) (fun X3 => [m0, nS b2 170 [.cp [.j a.Size, .j a.Seeds, .sl 3 (Z21 a), .sl 1 (Z45 a)], .cp (Z30 ly), .cp (Z46 c), .bp b2 0 0], .arr (vw (X3 3).b ([] : List Int).length x4) 3 1 Z33]) ?_ ?_
 ·refine ⟨1, fun X3 => [(6, 0, .fn 170 [.cp [.j a.Size, .j a.Seeds, .sl 3 (Z21 a), .sl 1 (Z45 a)], .cp (Z30 ly), .cp (Z46 c), .bp b2 0 0]), (7, 1, .cp [.j a.Size]), (8, 2, .i a.Size), (9, 3, .d (.lit (vw (X3 3).b ([] : List Int).length x4))), (10, 4, .cp [.j a.Size]), (11, 5, .i a.Size), (12, 6, .cp [.sl 3 (Z21 a)]), (13, 7, .d (.sl 3 (Z21 a))), (14, 8, .i (a.Persons.length : Int)), (15, 9, .i (Z29 a))], fun X3 => [([], m0), ([], nS b2 170 [.cp [.j a.Size, .j a.Seeds, .sl 3 (Z21 a), .sl 1 (Z45 a)], .cp (Z30 ly), .cp (Z46 c), .bp b2 0 0]), ([(3, .arr (vw (X3 3).b ([] : List Int).length x4) 3 1 Z33)], nob)], ?_, ?_⟩
  · exact xok [(0, 0), (0, 4), (2, 4), (3, 0), (0, 0), (5, 0), (0, 0), (7, 0), (8, 0), (609, 0)] ⟨fun _ _ w _ k => xp w (aGu (i := 1) (aH rfl) (aX k rfl) (og k rfl rfl) aPx),
 fun _ _ w _ k => xp w (yfc k [.j a.Size] rfl kN),
 fun _ _ w _ k => xp w (ylc k rfl aT),
 fun X3 S hw hi hS => iK (X := X3) (p := 2) (v := fun x => .d (.lit (vw x.b ([] : List Int).length x4))) (mo := fun x => .arr (vw x.b ([] : List Int).length x4) 3 1 Z33) hS hi rfl rfl (fun _ => rfl) hw (fun _ => rfl) (fun _ => rfl) (fun _ => rfl) (fun _ => ⟨rfl, rfl, .inr rfl, ⟨rfl, rfl, .inr rfl, ⟨rfl, rfl, .inr rfl, ⟨rfl, rfl, .inl rfl, ⟨rfl, rfl, .inr rfl, ⟨rfl, rfl, .inr rfl, ⟨rfl, rfl, .inr rfl, ⟨rfl, rfl, .inr rfl, ⟨rfl, rfl, .inr rfl, ⟨rfl, rfl, .inr rfl, trivial⟩⟩⟩⟩⟩⟩⟩⟩⟩⟩) (fun _ => ⟨trivial, rfl, ⟨trivial, rfl, ⟨⟨rfl, .inl rfl, trivial⟩, rfl, trivial⟩⟩⟩) (eG (aXg aL (aH rfl) cF rfl (aX hS rfl) h5 (aH rfl)) (by rintro _ ⟨w, rfl⟩; exact ⟨⟨w, undef⟩, bD [0, 1, 3] rfl rfl (le_refl _)⟩)),
 fun _ _ w _ k => xp w (yfc k [.j a.Size] rfl kN),
 fun _ _ w _ k => xp w (ylc k rfl aT),
 fun _ _ w _ k => xp w (yfc k [.sl 3 (Z21 a)] rfl nT),
 fun _ _ w _ k => xp w (ylc k rfl sO),
 fun _ _ w _ k => xp w (yle k rfl pL.of),
 fun _ _ w _ k => xp w (yar k rfl rfl rfl), trivial⟩
  · exact fun X3 => cN (aR rfl (aR rfl (aR rfl (bB trivial))))
 ·intro X3;obtain ⟨y6, h7, h⟩ := bns h;refine bF rfl (jM (passed := [m0, nS b2 170 [.cp [.j a.Size, .j a.Seeds, .sl 3 (Z21 a), .sl 1 (Z45 a)], .cp (Z30 ly), .cp (Z46 c), .bp b2 0 0], .arr (vw (X3 3).b ([] : List Int).length x4) 3 1 Z33]) (aH rfl) rfl (.clo _ _ _ _ call170 rfl) (aCb rfl) rfl (aGg J K ly e hy ([] : List Int) (Z29 a) a c sy _ hj (Nat.zero_le _) (aWz h5) h7)) ?_;rintro _ ⟨_, _, ⟨m8, rfl, f, rfl⟩, rfl⟩;refine aB ?_;obtain rfl := sIn h;exact ⟨_, [m8], [nS b2 170 [.cp [.j a.Size, .j a.Seeds, .sl 3 (Z21 a), .sl 1 (Z45 a)], .cp (Z30 ly), .cp (Z46 c), .bp b2 0 0], .arr (vw (X3 3).b ([] : List Int).length x4) 3 1 Z33], _, .none, .refl _, .same _, m8, f, rfl⟩

theorem aLu (a : bQ) {r : Int × Int} (h : tS a = some r) : Fn Tryz.prog 51 [.agg (bI a)] (.tup [.i r.1, .i r.2]) := by
 unfold tS at h;refine oT [.tmp 2, .tmp 3] func51 results51 ntmps51 ?_;refine aC (aA ?_);refine bF rfl (cT (v := .agg (bI a)) (aH rfl) rfl rfl rfl) ?_;rintro _ ⟨b1, rfl⟩;refine ta (.i 0) (ta (.i 0) (aB (aC (aC (aA (to (sla 0 (bI a) rfl rfl jW) ?_))))));obtain ⟨r2, h3, h⟩ := bns h;refine to (scr call95 (aLt _ h3)) (ta (.i r2) (aB (aC (aA (tm (.i r2) (to (scm rfl rfl rfl) (aB ?_)))))));refine tih h (fun c4 h => ?_) (fun c4 h => ?_)
 ·refine aC (aA (tm (.i r2) (ta (.i 0) (ta (.i r2) (aB ?_)))));obtain rfl := sIn h;refine bX (bP (bS (l := [2, 3]) (ae rfl))) ?_;exact bY ⟨rfl, _, .two _ _, rfl, rfl⟩
 ·refine bG (aC (aA ?_));refine bF rfl (cG (zs := [.j 0]) (aH rfl) zeroValue3 rfl rfl) ?_;rintro _ ⟨b5, rfl⟩;refine to (sst 1 rfl rfl sizeOf3 [.j 0]) (aB (aC (aC (aA (to (sla 0 (bI a) rfl rfl jW) ?_)))));obtain ⟨x6, h7, h⟩ := bns h;refine to (cU (aH rfl) (.func _ _ call109) rfl rfl (aDn _ h7)) ?_;refine aB (cH ?_);obtain ⟨⟨s8, k⟩, h9, h⟩ := bns h;refine aLo (S := Int) (S0 := Int) (f := 169) (ps := [13]) (fun c => c) (fun c => [.box b1 0 (bI a), .box b5 0 [.j c]]) (aUc (fun j : List Int => .d (.sl 1 (j.map aL))) _) 0 0 (s8, k) (bD [0, 1] rfl rfl (le_refl _)) rfl call169 rfl (by decide) rfl rfl (fun l J K hy m0 h0 => zZ (S := Int) J K l _ (fun _ _ _ _ hJ hq => hy _ _ _ _ hJ ⟨_, rfl, hq⟩) a x6 _ m0 h0 h9) ?_ ?_ ?_
  ·rintro b _ _ ⟨j, rfl, h⟩;refine ⟨rfl, ?_⟩;refine bG (cH (aA (to (sl 1 rfl rfl rfl aT) (to (sar rfl rfl rfl) (to (sst 1 rfl rfl sizeOf3 [.j (w64 (b + 1))]) ?_)))));refine gO ?_;obtain rfl := sIn h;exact ⟨rfl, (w64 (b + 1)), rfl, bD [0, 1] rfl rfl aEo⟩
  ·rintro b e g;subst g;have h := wD e h;refine aWd ?_;refine aC (aA (to (sl 1 rfl rfl rfl aT) (ta (.i b) (ta (.i 0) (aB ?_)))));obtain rfl := sIn h;refine bX (bP (bS (l := [2, 3]) (ae rfl))) ?_;exact bY ⟨rfl, _, .two _ _, rfl, rfl⟩
  ·rintro b e g;subst g;have h := yR e h;cases h

theorem aLw (b : bQ) (c : List Int) {r : (List Int)} (h : aAv b c = some r) : Fn Tryz.prog 110 [.agg (bI b), .d (Z18 c)] (.d (.sl 1 (r.map aL))) := by
 unfold aAv at h;refine oT [.tmp 4] func110 results110 ntmps110 ?_;refine aC (aA ?_);refine bF rfl (cT (v := .agg (bI b)) (aH rfl) rfl rfl rfl) ?_;rintro _ ⟨b1, rfl⟩;refine to (aAl 1 (aH rfl)) ?_;refine aB (aC (aA (to (nH 3 1 (.inl rfl) (aH rfl)) ?_)));refine aB (aC (aC (aA (tm (Z69 c) (to (sle rfl cF.of) (tm (.i 0) (aB (cH ?_))))))));refine eO (S := Int × (List Int) × Value) [2, 8, 9] (fun s3 => [(5, .d (.lit s3.2.2)), (10, .i s3.1)]) (fun s3 => [.box b1 0 (bI b), .arr s3.2.2 3 1 (s3.2.1.map aL)]) (fun k s3 => pS c (c.length : Int) b k s3.1 s3.2.1) (fun _ => rfl) (0, ([] : List Int), (.slice none 0 0)) h (bD [0, 1] rfl rfl (aR rfl (aR rfl (bB (ae rfl))))) ?_;rintro k5 ⟨a, e, w4⟩ h;simp only [pS] at h;refine aC (aA (to (scm rfl rfl rfl) (aB (aC ?_))));refine tih h (fun c6 h => ?_) (fun c6 h => ?_)
 ·refine bG (aC (cH (aC (aA ?_))));obtain ⟨x7, h8, h⟩ := bns h;refine to (six rfl rfl cF.of (cL aL h8)) (to (slc rfl aT) (ta (.i x7) (aB (aC (aA (tm (.i x7) (to (scm rfl rfl rfl) (aB ?_))))))));refine tih h (fun c9 h => ?_) (fun c9 h => ?_)
  ·refine aA (tm (.d (.lit w4)) (to (eM (aH rfl) cF rfl rfl (rows := ([(-1)]).map aL) rfl (bL (f := aL) fun _ => rfl) rfl (by decide)) ?_));obtain ⟨m, n, h⟩ := bns h;refine bF rfl (eF (i := 1) (aH rfl) cF rfl rfl rfl (fun _ => rfl) n rfl) ?_;rintro _ ⟨g, rfl⟩;refine ta (.d (.lit g)) ?_;refine gO ?_;refine aA (to (sar rfl rfl rfl) (tm (.i (w64 (a + 1))) (aB ?_)));exact ⟨(w64 (a + 1), m, g), h, bD [0, 1] rfl rfl (aR rfl (aR rfl (bB (ae rfl))))⟩
  ·refine aA (tm (.d (.lit w4)) (tfl 0 rfl rfl nT rfl sO (tm (.i x7) ?_)));obtain ⟨j, o, h⟩ := bns h;refine to (six rfl rfl pL.of (cL aY o)) (to (sfc [.j j.Player] rfl wF) (to (slc rfl aT) (to (eM (aH rfl) cF rfl rfl (rows := ([j.Player]).map aL) rfl (bL (f := aL) fun _ => rfl) rfl (by decide)) ?_)));obtain ⟨p, q, h⟩ := bns h;refine bF rfl (eF (i := 1) (aH rfl) cF rfl rfl rfl (fun _ => rfl) q rfl) ?_;rintro _ ⟨l, rfl⟩;refine ta (.d (.lit l)) ?_;refine gO ?_;refine aA (to (sar rfl rfl rfl) (tm (.i (w64 (a + 1))) (aB ?_)));exact ⟨(w64 (a + 1), p, l), h, bD [0, 1] rfl rfl (aR rfl (aR rfl (bB (ae rfl))))⟩
 ·refine dP ?_;refine .inl ⟨rfl, ?_⟩;simp only [aBh] at h;refine aC (aA (tm (.d (.lit w4)) (ta (.d (.lit w4)) (aB ?_))));obtain rfl := sIn h;refine bX (bP (oG (k := 4) (v := .d (.sl 1 (e.map aL))) (.d (cY 1 rfl (bL (f := aL) fun _ => rfl))) (aWr))) ?_;exact rt

theorem aNa (a : bQ) (e : Int) {r : (List Int) × Bool} (h : vD a e = some r) : Fn Tryz.prog 52 [.agg (bI a), .i e] (.tup [.d (.sl 1 (r.1.map aL)), .b r.2]) := by
 unfold vD at h;refine eU func52 rfl (rs := [.cell 4 23, .cell 5 4]) results52 ntmps52 (Nat.le_of_ble_eq_true rfl) ?_;refine aC (aA ?_);refine bF rfl (cT (v := .agg (bI a)) (aH rfl) rfl rfl rfl) ?_;rintro _ ⟨b1, rfl⟩;refine bF rfl (cT (v := .i e) (aH rfl) rfl rfl rfl) ?_;rintro _ ⟨b2, rfl⟩;refine bF rfl (cG (zs := [.sl 1 Z23]) (aH rfl) zeroValue23 rfl rfl) ?_;rintro _ ⟨b3, rfl⟩;refine bF rfl (cG (zs := [.k false]) (aH rfl) zeroValue4 rfl rfl) ?_;rintro _ ⟨b4, rfl⟩;refine aB (aC (aC (aA (to (sla 0 (bI a) rfl rfl jW) ?_))));obtain ⟨x5, h6, h⟩ := bns h;refine to (cU (aH rfl) (.func _ _ call109) rfl rfl (aDn _ h6)) ?_;refine aB (cH ?_);obtain ⟨⟨s7, p⟩, h8, h⟩ := bns h;refine aLo (S := Int × (List Int) × Bool) (S0 := Int × (List Int) × Bool) (f := 169) (ps := [9]) (fun c => (c.1, c.2.1, c.2.2)) (fun c => [.box b1 0 (bI a), .box b2 0 [.j c.1], .box b3 0 [.sl 1 (c.2.1.map aL)], .box b4 0 [.k c.2.2]]) (aUc (fun g : List Int => .d (.sl 1 (g.map aL))) _) (e, ([] : List Int), false) (e, ([] : List Int), false) (s7, p) (bD [0, 1, 2, 3] rfl rfl (le_refl _)) rfl call169 rfl (by decide) rfl rfl (fun l J K hy m0 h0 => zZ (S := Int × (List Int) × Bool) J K l _ (fun _ _ _ _ hJ hq => hy _ _ _ _ hJ ⟨_, rfl, hq⟩) a x5 _ m0 h0 h8) ?_ ?_ ?_
 ·rintro ⟨e9, j, k⟩ _ _ ⟨g, rfl, h⟩;refine ⟨rfl, ?_⟩;refine aA (ta (.d (.sl 1 (g.map aL))) (aB (cH (aC (aC (aA (to (sl 1 rfl rfl rfl aT) (to (scm rfl rfl rfl) (aB ?_)))))))));refine tih h (fun q h => ?_) (fun q h => ?_)
  ·refine aC (aA (to (sla 0 (bI a) rfl rfl jW) (tm (.d (.sl 1 (g.map aL))) ?_)));obtain ⟨o, s, h⟩ := bns h;refine to (cU (aH rfl) (.func _ _ call110) rfl rfl (aLw _ _ s)) ?_;refine to (sst 2 rfl rfl sizeOf23 [.sl 1 (o.map aL)]) (to (sst 3 rfl rfl sizeOf4 [.k true]) (aB ?_));obtain rfl := sIn h;exact bY ⟨rfl, rfl, (e9, o, true), rfl, bD [0, 1, 2, 3] rfl rfl aEo⟩
  ·refine bG (aA (to (sl 1 rfl rfl rfl aT) (to (sar rfl rfl rfl) (to (sst 1 rfl rfl sizeOf3 [.j (w64 (e9 - 1))]) ?_))));refine gO ?_;obtain rfl := sIn h;exact ⟨rfl, (w64 (e9 - 1), j, k), rfl, bD [0, 1, 2, 3] rfl rfl aEo⟩
 ·rintro ⟨e9, j, k⟩ m n;subst n;have h := wD m h;refine aWd ?_;refine aC (aA (to (sst 2 rfl rfl sizeOf23 Z61) (to (sst 3 rfl rfl sizeOf4 [.k false]) (aB ?_))));obtain rfl := sIn h;exact bY ⟨rfl, _, [.box b1 0 (bI a), .box b2 0 [.j e9], .box b3 0 Z61, .box b4 0 [.k false]], .two (.cell1 4 23 rfl (i := 2) rfl cZ rfl) (.cell1 5 4 rfl (i := 3) rfl mO rfl), .refl _, aBe (.cons (.d (.nil 1)) (.cons (.same _) .nil))⟩
 ·rintro ⟨e9, j, k⟩ m n;subst n;have h := yR m h;obtain rfl := sIn h;exact bY ⟨rfl, _, [.box b1 0 (bI a), .box b2 0 [.j e9], .box b3 0 [.sl 1 (j.map aL)], .box b4 0 [.k k]], .two (.cell1 4 23 rfl (i := 2) rfl cZ rfl) (.cell1 5 4 rfl (i := 3) rfl mO rfl), .refl _, .same _⟩

theorem aMz (e : bQ) {r : (List Int) × Int} (h : tA e = some r) : Fn Tryz.prog 12 [.agg (bI e)] (.tup [.d (.sl 1 (r.1.map aL)), .i r.2]) := by
 unfold tA at h;refine oT [.tmp 2, .tmp 3] func12 results12 ntmps12 ?_;refine aC (aA ?_);refine bF rfl (cT (v := .agg (bI e)) (aH rfl) rfl rfl rfl) ?_;rintro _ ⟨b1, rfl⟩;refine to (aAl 1 (aH rfl)) ?_;refine ta (.i 0) (aB (aC (aA (to (sla 0 (bI e) rfl rfl jW) ?_))));obtain ⟨r2, h3, h⟩ := bns h;refine to (scr call51 (aLu _ h3)) (tm (.tup [.i r2.1, .i r2.2]) (to (sex rfl rfl) (to (sex rfl rfl) (ta (.i r2.1) (ta (.i r2.2) (aB (aC (aC (aA (tm (.i r2.2) (to (scm rfl rfl rfl) (aB ?_))))))))))));refine tih h (fun c4 h => ?_) (fun c4 h => ?_)
 ·refine aC (aA (tm (.i r2.2) (to (aAl 1 (aH rfl)) ?_)));refine ta (.i r2.2) (aB ?_);obtain rfl := sIn h;refine bX (bP (bS (l := [2, 3]) (ae rfl))) ?_;exact bY ⟨rfl, _, .two _ _, rfl, rfl⟩
 ·refine bG (aC (aC (aA (tm (.i r2.1) (to (scm rfl rfl rfl) (aB ?_))))));refine tih h (fun c5 h => ?_) (fun c5 h => ?_)
  ·refine aC (aA (to (aAl 1 (aH rfl)) ?_));refine ta (.i 3) (aB ?_);obtain rfl := sIn h;refine bX (bP (bS (l := [2, 3]) (ae rfl))) ?_;exact bY ⟨rfl, _, .two _ _, rfl, rfl⟩
  ·refine bG (aC (aA (ta (.i 0) (aB (aC (aC (aA (tfl 0 rfl rfl aHi rfl cZ (to (sle rfl cF.of) (tm (.i 0) (aB (cH ?_))))))))))));refine eO (S := Int × Int) [1, 4, 22, 23] (fun s6 => [(6, .i s6.1), (24, .i s6.2)]) (fun s6 => [.box b1 0 (bI e)]) (fun k s6 => oH r2.1 e.Lots (e.Lots.length : Int) e k s6.1 s6.2) (fun _ => rfl) (0, 0) h (bD [0] rfl rfl (aR rfl (aR rfl (bB (ae rfl))))) ?_;rintro k7 ⟨a, f⟩ h;simp only [oH] at h;refine aC (aA (to (scm rfl rfl rfl) (aB (aC ?_))));refine tih h (fun c8 h => ?_) (fun c8 h => ?_)
   ·refine bG (aC (cH (aC (aA ?_))));obtain ⟨x9, g, h⟩ := bns h;refine to (six rfl rfl cF.of (cL aL g)) (to (slc rfl aT) (ta (.i x9) (aB (aA (tm (.i a) (tm (.i x9) (to (sar rfl rfl rfl) (ta (.i (w64 (a + x9))) ?_))))))));refine gO ?_;refine aA (to (sar rfl rfl rfl) (tm (.i (w64 (f + 1))) (aB ?_)));exact ⟨(w64 (a + x9), w64 (f + 1)), h, bD [0] rfl rfl (aR rfl (aR rfl (bB (ae rfl))))⟩
   ·refine dP ?_;refine .inl ⟨rfl, ?_⟩;simp only [tZ] at h;refine aC ?_;obtain ⟨n, j, h⟩ := bns h;obtain ⟨c, m, h⟩ := bns h;refine eD mix 9 [] [(9, .d (.sl 1 (c.1.map aL))), (39, .b c.2)] ?_ ?_
    ·refine ⟨[(33, 0, .agg (bI e)), (34, 1, .i a), (35, 2, .i r2.1), (36, 3, .i (a.tmod r2.1)), (37, 4, .tup [.d (.sl 1 (c.1.map aL)), .b c.2]), (32, 5, .tup [.d (.sl 1 (c.1.map aL)), .b c.2]), (38, 6, .d (.sl 1 (c.1.map aL))), (39, 7, .b c.2), (9, 8, .d (.sl 1 (c.1.map aL)))], ?_, ?_⟩
     · exact dk [0, 0, 0, 203, 104, 5, 6, 6, 7] ⟨go (zla 0 (bI e) rfl rfl jW),
 go (zm (.i a)),
 go (zm (.i r2.1)),
 go fun S hS => gV (aH rfl) (aX hS rfl) (aX hS rfl) (aRb j),
 go fun S hS => cU (aH rfl) (.func _ _ call52) (ev2 (aX hS rfl) (ev2 (aX hS rfl) evn)) rfl (aNa _ _ m),
 go (zm (.tup [.d (.sl 1 (c.1.map aL)), .b c.2])),
 go (zex rfl rfl),
 go (zex rfl rfl),
 go (za (.d (.sl 1 (c.1.map aL)))), trivial⟩
     · exact cN (aR rfl (aR rfl (bB trivial)))
    ·refine ta (.b c.2) (aB (aC (aA (tm (.d (.sl 1 (c.1.map aL))) (ta (.d (.sl 1 (c.1.map aL))) (ta (.i 0) (aB ?_)))))));obtain rfl := sIn h;refine bX (bP (bS (l := [2, 3]) (ae rfl))) ?_;exact bY ⟨rfl, _, .two _ _, rfl, rfl⟩

theorem aBz {r : aN × (List aF)} (h : sG = some r) : Fn Tryz.prog 48 [] (.tup [.agg (aZ r.1), .d (.sl 5 (r.2.map aS))]) := by
 unfold sG at h;refine eU func48 rfl (rs := [.cell 0 38, .tmp 1]) results48 ntmps48 (Nat.le_of_ble_eq_true rfl) ?_;refine aC (aA ?_);refine bF rfl (cG (zs := [.j 0, .sl 1 Z23]) (aH rfl) zeroValue38 rfl rfl) ?_;rintro _ ⟨b1, rfl⟩;refine to (aAl 5 (aH rfl)) ?_;refine aB (aC (aA (to (eM (aH rfl) cF rfl rfl (rows := ([1, (-1), 2, 3, 4, 5, 6, 7]).map aL) rfl (bL (f := aL) fun _ => rfl) rfl (by decide)) ?_)));refine to (cQ (aH rfl) aYm (zs := [.j 0, .sl 1 Z23]) rfl rfl rfl rfl (es := [.j 3, .sl 1 ((([1, (-1), 2, 3, 4, 5, 6, 7])).map aL)]) rfl) ?_;refine bF rfl (cG (zs := [.j 0, .sl 1 Z23]) (aH rfl) zeroValue38 rfl rfl) ?_;rintro _ ⟨b2, rfl⟩;refine to (sst 1 rfl rfl sizeOf38 Z24) (aB (aC (aA (to (sla 1 Z24 rfl rfl iQ) (to (cQ (aH rfl) aBs (zs := [.j 0, .j 0, .j 0, .j 0, .j 0]) rfl rfl rfl rfl (es := [.j 1, .j 1, .j 0, .j 2, .j 0]) rfl) ?_)))));refine to (cQ (aH rfl) aBs (zs := [.j 0, .j 0, .j 0, .j 0, .j 0]) rfl rfl rfl rfl (es := [.j 3, .j 0, .j 3, .j 7, .j 0]) rfl) ?_;refine to (cQ (aH rfl) aBs (zs := [.j 0, .j 0, .j 0, .j 0, .j 0]) rfl rfl rfl rfl (es := [.j 5, .j 0, .j 4, .j 8, .j 4]) rfl) ?_;refine to (eM (aH rfl) wP rfl rfl (rows := Z39.map aS) rfl (bL (f := aS) fun _ => rfl) rfl (by decide)) ?_;refine to (sst 0 rfl rfl sizeOf38 Z24) (ta (.d (.sl 5 ((Z39).map aS))) (aB ?_));obtain rfl := sIn h;exact bY ⟨rfl, _, [.box b1 0 Z24, .box b2 0 Z24], .two (.cell 0 38 rfl (i := 0) rfl iQ (es := Z24) rfl rfl) (.tmp 1 (v := .d (.sl 5 ((Z39).map aS))) rfl), .refl _, .same _⟩

theorem fG (d : Int) (c : Int) (a : Int) {r : Bool} (h : fC d c a = some r) : Fn Tryz.prog 116 [.i d, .i c, .i a] (.b r) := by
 unfold fC at h;refine oT [.tmp 6] func116 results116 ntmps116 ?_;refine aC (aA (ta Z9 (aB (aC (aA (tm (.i c) (tm (.i d) (to (scm rfl rfl rfl) (tm (Z52 c d) ?_)))))))));obtain ⟨b1, h2, h⟩ := bns h;refine bE 4 [] 14 b1 ?_ ?_
 ·refine bch h2 (fun c3 h2 => ?_) (fun c3 h2 => ?_)
  ·refine tk c3 (sm (.i d)) (tk c3 (sm (.i a)) (tk c3 (scm rfl rfl rfl) (to (spt (Z52 d a) c3) ?_)));obtain rfl := sIn h2;refine aB (aM rfl trivial rfl)
  ·refine tp c3 (tp c3 (tp c3 (to (spf Z9 c3) ?_)));obtain rfl := sIn h2;refine aB (aM rfl trivial rfl)
 ·refine ta (.b b1) (aB ?_);obtain rfl := sIn h;exact rt

theorem aHc (g : aN) {r : Bool} (h : nI g = some r) : Fn Tryz.prog 111 [.agg (aZ g)] (.b r) := by
 unfold nI at h;refine oT [.tmp 2] func111 results111 ntmps111 ?_;refine aC (aA ?_);refine bF rfl (cT (v := .agg (aZ g)) (aH rfl) rfl rfl rfl) ?_;rintro _ ⟨b1, rfl⟩;refine ta Z9 (aB (aC (aC ?_)));obtain ⟨r2, h3, h⟩ := bns h;obtain ⟨b4, h5, h⟩ := bns h;refine eD mix 13 [1] [(18, .b b4)] ?_ ?_
 ·refine bch h5 (fun c6 h5 => ?_) (fun c6 h5 => ?_)
  ·obtain rfl := sIn h5;refine ⟨[(6, 0, .bp b1 0 0), (7, 1, .i g.Rounds), (8, 2, .b r2), (9, 3, .b (!r2)), (10, 4, .b (!r2)), (11, 5, .tup []), (12, 6, .tup []), (13, 7, .tup []), (14, 8, .tup []), (15, 9, .tup []), (16, 10, .tup []), (17, 11, .tup []), (18, 12, .b true)], ?_, ?_⟩
   · exact dk [0, 1, 2, 3, 4, 5, 506, 507, 5, 509, 510, 50811, 512] ⟨go (zf rfl iV),
 go (zl 0 rfl rfl rfl aT),
 go fun S hS => eE (aH rfl) (.func _ _ call116) (ev2 (aX hS rfl) (ev2 rfl (ev2 rfl evn))) rfl (BVs.refl _ _) (fG _ _ _ h3) rfl,
 go (zn rfl),
 go (zm (.b (!r2))),
 gp c6,
 gp c6,
 gp c6,
 gp c6,
 gp c6,
 gp c6,
 gp c6,
 go (zpt Z22 c6), trivial⟩
   · exact cN (aR rfl (bB (ae rfl)))
  ·obtain ⟨u7, h8, h5⟩ := bns h5;obtain rfl := sIn h5;refine ⟨[(6, 0, .bp b1 0 0), (7, 1, .i g.Rounds), (8, 2, .b r2), (9, 3, .b (!r2)), (10, 4, .b (!r2)), (11, 5, .bp b1 0 1), (12, 6, .d (.sl 1 (Z16 g))), (13, 7, .i (g.Slots.length : Int)), (14, 8, .bp b1 0 0), (15, 9, .i g.Rounds), (16, 10, .i (Z50 g)), (17, 11, .b (!decide ((g.Slots.length : Int) = (Z50 g)))), (18, 12, .b (!decide ((g.Slots.length : Int) = (Z50 g))))], ?_, ?_⟩
   · exact dk [0, 1, 2, 3, 4, 5, 506, 507, 5, 509, 510, 50811, 512] ⟨go (zf rfl iV),
 go (zl 0 rfl rfl rfl aT),
 go fun S hS => eE (aH rfl) (.func _ _ call116) (ev2 (aX hS rfl) (ev2 rfl (ev2 rfl evn))) rfl (BVs.refl _ _) (fG _ _ _ h3) rfl,
 go (zn rfl),
 go (zm (.b (!r2))),
 gt c6 (zf rfl eX),
 gt c6 (zl 0 rfl rfl rfl cZ),
 gt c6 (zle rfl cF.of),
 gt c6 (zf rfl iV),
 gt c6 (zl 0 rfl rfl rfl aT),
 gt c6 fun S hS => aRt (aH rfl) rfl (aX hS rfl) (aFu h8),
 gt c6 (zcm rfl rfl rfl),
 go (zpf (.b (!decide ((g.Slots.length : Int) = (Z50 g)))) c6), trivial⟩
   · exact cN (aR rfl (bB (ae rfl)))
 ·refine aB ?_;refine tih h (fun c9 h => ?_) (fun c9 h => ?_)
  ·refine aC (aA (ta Z9 (aB ?_)));obtain rfl := sIn h;refine bX (bP (bS (l := [2]) (ae rfl))) ?_;exact rt
  ·refine bG (aC (aA ?_));refine bF rfl (aAk (aH rfl)) ?_;rintro _ ⟨t, rfl⟩;refine ta (.d (.lit (.map (some t)))) (aB (aC (aC (aA (tfl 0 rfl rfl eX rfl cZ (to (sle rfl cF.of) (tm (.i 0) (aB (cH ?_)))))))));refine eO (S := Int × (List (Int × Int)) × (List Nat) × Nat) [1, 3, 21, 22] (fun o => [(23, .i o.1)]) (fun o => [.box b1 0 (aZ g), .map t (o.2.1.map fun p : Int × Int => (VI p.1, (fun v : Int => AV.i v) p.2)) o.2.2.1 o.2.2.2]) (fun k o => gZ g.Slots (g.Slots.length : Int) g k o.1 o.2.1) (fun _ => rfl) (0, ([] : List (Int × Int)), [], 0) h (bD [0, 1] rfl rfl (aR rfl (bB (ae rfl)))) ?_;rintro H ⟨f, c, u, s⟩ h;simp only [gZ] at h;refine aC (aA (to (scm rfl rfl rfl) (aB (aC ?_))));refine tih h (fun w h => ?_) (fun w h => ?_)
   ·refine bG (aC (cH (aC (aA (tm (.i f) ?_)))));obtain ⟨e, x, h⟩ := bns h;refine to (six rfl rfl cF.of (cL aL x)) (to (slc rfl aT) (ta (.i f) (ta (.i e) (aB (aC (aC (aA (tm (.i e) (to (scm rfl rfl rfl) (aB ?_))))))))));refine tih h (fun y h => ?_) (fun y h => ?_)
    ·refine aC (aC (aA (tfl 0 rfl rfl eX rfl cZ (tm (.i f) (to (aTm (aH rfl) rfl rfl (.inr (.inr ⟨rfl, rfl⟩))) ?_)))));obtain ⟨I, A, h⟩ := bns h;refine to (six rfl rfl cF.of (cL aL A)) (to (slc rfl aT) (to (scm rfl rfl rfl) (aB ?_)));refine tih h (fun B h => ?_) (fun B h => ?_)
     ·refine aC (aA (ta Z9 (aB ?_)));obtain rfl := sIn h;refine bX (bP (bS (l := [2]) (ae rfl))) ?_;exact rt
     ·refine bG ?_;refine dP ?_;refine .inl ⟨rfl, ?_⟩;refine aA (to (sar rfl rfl rfl) (tm (.i (w64 (f + 1))) (aB ?_)));exact ⟨(w64 (f + 1), c, u, s), h, bD [0, 1] rfl rfl (aR rfl (bB (ae rfl)))⟩
    ·refine bG (aC (aA (tm (.d (.lit (.map (some t)))) (tm (.i e) (to (aDh (av := (fun v : Int => AV.i v)) (l := c) (z := 0) (a := e) (m := 1) (aH rfl) aQv underlying258 zeroValue3 (fun _ _ => .d (.lit _ rfl)) rfl rfl rfl rfl (aEm (kv := VI) e)) ?_)))));refine to (sar rfl rfl rfl) (to (aAz (av := (fun v : Int => AV.i v)) (l := c) (v := w64 ((cK e 0 c) + 1)) (a := e) (m := 1) aQv underlying258 rfl rfl rfl rfl (aEm (kv := VI) e) rfl rfl) ?_);refine aB (aC (aA (tm (.d (.lit (.map (some t)))) (tm (.i e) (to (aDh (av := (fun v : Int => AV.i v)) (l := (fO e (w64 ((cK e 0 c) + 1)) c)) (z := 0) (a := e) (m := 1) (aH rfl) aQv underlying258 zeroValue3 (fun _ _ => .d (.lit _ rfl)) rfl rfl rfl rfl (aEm (kv := VI) e)) ?_)))));refine to (scm rfl rfl rfl) (tm (.b (decide (1 < (cK e 0 (fO e (w64 ((cK e 0 c) + 1)) c))))) ?_);obtain ⟨C, q, h⟩ := bns h;refine bE 4 [1, 3, 21, 22, 23] 49 C ?_ ?_
     ·refine bch q (fun j q => ?_) (fun j q => ?_)
      ·refine tp j (tp j (tp j (to (spt Z22 j) ?_)));obtain rfl := sIn q;refine aB (aM rfl (ae rfl) rfl)
      ·refine tk j (sm (.i e)) ?_;obtain ⟨E, F, q⟩ := bns q;refine tk j (scr call116 (fG _ _ _ F)) (tk j (sn rfl) (to (spf (.b (!E)) j) ?_));obtain rfl := sIn q;refine aB (aM rfl (ae rfl) rfl)
     ·refine aB ?_;refine tih h (fun G h => ?_) (fun G h => ?_)
      ·refine aC (aA (ta Z9 (aB ?_)));obtain rfl := sIn h;refine bX (bP (bS (l := [2]) (ae rfl))) ?_;exact rt
      ·refine eY ?_;refine aA (to (sar rfl rfl rfl) (tm (.i (w64 (f + 1))) (aB ?_)));exact ⟨(w64 (f + 1), (fO e (w64 ((cK e 0 c) + 1)) c), (mbs e c u s), (mck e c s)), h, bD [0, 1] rfl rfl (aR rfl (bB (ae rfl)))⟩
   ·refine dP ?_;refine .inl ⟨rfl, ?_⟩;simp only [tI] at h;refine aC (aA (ta Z22 (aB ?_)));obtain rfl := sIn h;refine bX (bP (bS (l := [2]) (ae rfl))) ?_;exact rt

theorem xG (e : List aF) (g : aF → Option Bool) {r : Int} (c : Nat) (f : List AV) (j : ∀ args w, (callFunc c args).run Tryz.prog w = .ok (.enter c args) w) (l : ∀ (x0 : aF) r, g x0 = some r → Fn Tryz.prog c ([.agg (aS x0)] ++ f) (.b r)) (h : iJ e g = some r) : Fn Tryz.prog 173 [.d (Z17 e), .fn c f] (.i r) := by
 unfold iJ at h;refine oT [.tmp 4] func173 results173 ntmps173 ?_;refine aC (aA (ta (.i 0) (aB (aC (aC (aA (tm (.d (Z17 e)) (to (sle rfl wP.of) (tm (.i 0) (aB (cH ?_)))))))))));refine eO (S := Int) [0, 1, 7] (fun s1 => [(8, .i s1)]) (fun s1 => []) (fun k s1 => eN e g (e.length : Int) k s1) (fun _ => rfl) (0) h (bD [] rfl rfl (aR rfl (bB (ae rfl)))) ?_;rintro k2 a h;simp only [eN] at h;refine aC (aA (to (scm rfl rfl rfl) (aB (aC ?_))));refine tih h (fun c3 h => ?_) (fun c3 h => ?_)
 ·refine bG (aC (cH (aC (aA (tm (.i a) (ta (.i a) (aB (aC (aA (tm (.fn c f) (tm (.d (Z17 e)) (tm (.i a) ?_))))))))))));obtain ⟨x4, h5, h⟩ := bns h;refine to (six rfl rfl wP.of (cL aS h5)) (to (aFl (aS x4) rfl rA) ?_);obtain ⟨r6, h7, h⟩ := bns h;refine to (eE (aH rfl) (.clo _ _ _ _ j rfl) (aCb rfl) rfl (BVs.refl _ _) (l _ _  h7) rfl) ?_;refine aB ?_;refine tih h (fun c8 h => ?_) (fun c8 h => ?_)
  ·refine aC (aA (tm (.i a) (ta (.i a) (aB ?_))));obtain rfl := sIn h;exact rt
  ·refine eY ?_;refine aA (to (sar rfl rfl rfl) (tm (.i (w64 (a + 1))) (aB ?_)));exact ⟨(w64 (a + 1)), h, bD [] rfl rfl (aR rfl (bB (ae rfl)))⟩
 ·refine dP ?_;refine .inl ⟨rfl, ?_⟩;simp only [lT] at h;refine aC (aA (ta (.i (-1)) (aB ?_)));obtain rfl := sIn h;exact rt

theorem vN (e : List aF) (i : aF → Option Bool) {r : Bool} (a : Nat) (c : List AV) (f : ∀ args w, (callFunc a args).run Tryz.prog w = .ok (.enter a args) w) (g : ∀ (x0 : aF) r, i x0 = some r → Fn Tryz.prog a ([.agg (aS x0)] ++ c) (.b r)) (h : gI e i = some r) : Fn Tryz.prog 112 [.d (Z17 e), .fn a c] (.b r) := by
 unfold gI at h;refine oT [.tmp 4] func112 results112 ntmps112 ?_;refine aC (aA (ta Z9 (aB (aC (aA (tm (.d (Z17 e)) (tm (.fn a c) ?_)))))));obtain ⟨r1, h2, h⟩ := bns h;refine to (scr call173 (xG _ _ a c f g h2)) (to (scm rfl rfl rfl) (ta (.b (decide (0 ≤ r1))) (aB ?_)));obtain rfl := sIn h;exact rt

theorem wS (c : aD) (a : aN) {r : Bool} (h : lM c a = some r) : Fn Tryz.prog 146 [.agg (aK c), .agg (aZ a)] (.b r) := by
 unfold lM at h;refine oT [.tmp 4] func146 results146 ntmps146 ?_;refine aC (aA ?_);refine bF rfl (cT (v := .agg (aK c)) (aH rfl) rfl rfl rfl) ?_;rintro _ ⟨b1, rfl⟩;refine bF rfl (cT (v := .agg (aZ a)) (aH rfl) rfl rfl rfl) ?_;rintro _ ⟨b2, rfl⟩;refine ta Z9 (aB (aC ?_));obtain ⟨r3, h4, h⟩ := bns h;obtain ⟨b5, h6, h⟩ := bns h;refine eD mix 19 [] [(23, .b b5)] ?_ ?_
 ·refine bch h6 (fun c7 h6 => ?_) (fun c7 h6 => ?_)
  ·obtain ⟨u8, h9, h6⟩ := bns h6;obtain ⟨e, f, h6⟩ := bns h6;obtain rfl := sIn h6;refine ⟨[(5, 0, .bp b1 0 0), (6, 1, .i c.round), (7, 2, .bp b2 0 0), (8, 3, .i a.Rounds), (9, 4, .i (w64 (a.Rounds - 1))), (10, 5, .b r3), (11, 6, .b r3), (12, 7, .bp b1 0 1), (13, 8, .i c.place), (14, 9, .bp b2 0 1), (15, 10, .d (.sl 1 (Z16 a))), (16, 11, .i (a.Slots.length : Int)), (17, 12, .bp b1 0 0), (18, 13, .i c.round), (19, 14, .i (w64 (c.round + 1))), (20, 15, .i ((a.Slots.length : Int).fdiv (2 ^ (min (w64 (c.round + 1)).toNat 64)))), (21, 16, .i (w64 (((a.Slots.length : Int).fdiv (2 ^ (min (w64 (c.round + 1)).toNat 64))) - 1))), (22, 17, .b e), (23, 18, .b e)], ?_, ?_⟩
   · exact dk [0, 1, 0, 3, 4, 205, 6, 7, 708, 7, 710, 711, 7, 713, 714, 71215, 716, 70917, 718] ⟨go (zf rfl oX),
 go (zl 0 rfl rfl rfl aT),
 go (zf rfl iV),
 go (zl 1 rfl rfl rfl aT),
 go (zar rfl rfl rfl),
 go fun S hS => eE (aH rfl) (.func _ _ call116) (ev2 (aX hS rfl) (ev2 rfl (ev2 (aX hS rfl) evn))) rfl (BVs.refl _ _) (fG _ _ _ h4) rfl,
 go (zm (.b r3)),
 gt c7 (zf rfl aKw),
 gt c7 (zl 0 rfl rfl rfl aT),
 gt c7 (zf rfl eX),
 gt c7 (zl 1 rfl rfl rfl cZ),
 gt c7 (zle rfl cF.of),
 gt c7 (zf rfl oX),
 gt c7 (zl 0 rfl rfl rfl aT),
 gt c7 (zar rfl rfl rfl),
 gt c7 fun S hS => aRu (aH rfl) (aX hS rfl) (aX hS rfl) (aFu h9),
 gt c7 (zar rfl rfl rfl),
 gt c7 fun S hS => eE (aH rfl) (.func _ _ call116) (ev2 (aX hS rfl) (ev2 rfl (ev2 (aX hS rfl) evn))) rfl (BVs.refl _ _) (fG _ _ _ f) rfl,
 go (zpt (.b e) c7), trivial⟩
   · exact cN (aR rfl (bB trivial))
  ·obtain rfl := sIn h6;refine ⟨[(5, 0, .bp b1 0 0), (6, 1, .i c.round), (7, 2, .bp b2 0 0), (8, 3, .i a.Rounds), (9, 4, .i (w64 (a.Rounds - 1))), (10, 5, .b r3), (11, 6, .b r3), (12, 7, .tup []), (13, 8, .tup []), (14, 9, .tup []), (15, 10, .tup []), (16, 11, .tup []), (17, 12, .tup []), (18, 13, .tup []), (19, 14, .tup []), (20, 15, .tup []), (21, 16, .tup []), (22, 17, .tup []), (23, 18, .b false)], ?_, ?_⟩
   · exact dk [0, 1, 0, 3, 4, 205, 6, 7, 708, 7, 710, 711, 7, 713, 714, 71215, 716, 70917, 718] ⟨go (zf rfl oX),
 go (zl 0 rfl rfl rfl aT),
 go (zf rfl iV),
 go (zl 1 rfl rfl rfl aT),
 go (zar rfl rfl rfl),
 go fun S hS => eE (aH rfl) (.func _ _ call116) (ev2 (aX hS rfl) (ev2 rfl (ev2 (aX hS rfl) evn))) rfl (BVs.refl _ _) (fG _ _ _ h4) rfl,
 go (zm (.b r3)),
 gp c7,
 gp c7,
 gp c7,
 gp c7,
 gp c7,
 gp c7,
 gp c7,
 gp c7,
 gp c7,
 gp c7,
 gp c7,
 go (zpf Z9 c7), trivial⟩
   · exact cN (aR rfl (bB trivial))
 ·refine ta (.b b5) (aB ?_);obtain rfl := sIn h;refine bX (bP (bS (l := [4]) (ae rfl))) ?_;exact rt

theorem aHb (n : aN) (d : aF) {r : Bool} (h : pO n d = some r) : Fn Tryz.prog 114 [.agg (aZ n), .agg (aS d)] (.b r) := by
 unfold pO at h;refine oT [.tmp 4] func114 results114 ntmps114 ?_;refine aC (aA ?_);refine bF rfl (cT (v := .agg (aZ n)) (aH rfl) rfl rfl rfl) ?_;rintro _ ⟨b1, rfl⟩;refine bF rfl (cT (v := .agg (aS d)) (aH rfl) rfl rfl rfl) ?_;rintro _ ⟨b2, rfl⟩;refine ta Z9 (aB (aC (aC (aA (tfl 1 rfl rfl zF rfl aT ?_)))));obtain ⟨r3, h4, h⟩ := bns h;refine to (scr call116 (fG _ _ _ h4)) (to (sn rfl) (aB ?_));refine tih h (fun c5 h => ?_) (fun c5 h => ?_)
 ·refine aC (aA (ta Z9 (aB ?_)));obtain rfl := sIn h;refine bX (bP (bS (l := [4]) (ae rfl))) ?_;exact rt
 ·refine bG (aC (aC (aA (tfl 1 rfl rfl aHk rfl aT (to (scm rfl rfl rfl) (aB ?_))))));refine tih h (fun c6 h => ?_) (fun c6 h => ?_)
  ·refine aC (aA (tfl 1 rfl rfl aCk rfl aT (to (scm rfl rfl rfl) (tm (.b (decide (d.Round = 0))) ?_))));obtain ⟨b7, h8, h⟩ := bns h;refine bE 8 [3] 24 b7 ?_ ?_
   ·refine bch h8 (fun c h8 => ?_) (fun c h8 => ?_)
    ·refine tkl 1 c rfl rfl uG rfl aT (tkl 0 c rfl rfl eX rfl cZ (tk c (sle rfl cF.of) (tk c (sar rfl rfl rfl) ?_)));obtain ⟨q, s, h8⟩ := bns h8;refine tk c (scr call116 (fG _ _ _ s)) (to (spt (.b q) c) ?_);obtain rfl := sIn h8;refine aB (aM rfl (ae rfl) rfl)
    ·refine tp c (tp c (tp c (tp c (tp c (tp c (tp c (to (spf Z9 c) ?_)))))));obtain rfl := sIn h8;refine aB (aM rfl (ae rfl) rfl)
   ·refine tm (.b b7) ?_;obtain ⟨b9, j, h⟩ := bns h;refine bE 4 [] 29 b9 ?_ ?_
    ·refine bch j (fun g j => ?_) (fun g j => ?_)
     ·refine tkl 1 g rfl rfl aHl rfl aT ?_;obtain ⟨t, u, j⟩ := bns j;refine tk g (scr call116 (fG _ _ _ u)) (to (spt (.b t) g) ?_);obtain rfl := sIn j;refine aB (aM rfl trivial rfl)
     ·refine tp g (tp g (tp g (to (spf Z9 g) ?_)));obtain rfl := sIn j;refine aB (aM rfl trivial rfl)
    ·refine ta (.b b9) (aB ?_);obtain rfl := sIn h;refine bX (bP (bS (l := [4]) (ae rfl))) ?_;exact rt
  ·refine bG (aC (aA (tfl 1 rfl rfl aCk rfl aT (tfl 1 rfl rfl uG rfl aT (to (cQ (aH rfl) yW (zs := [.j 0, .j 0]) rfl rfl rfl rfl (es := [.j d.Round, .j d.Place]) rfl) ?_)))));refine bF rfl (cG (zs := [.j 0, .j 0]) (aH rfl) zeroValue143 rfl rfl) ?_;rintro _ ⟨G, rfl⟩;refine to (sst 2 rfl rfl sizeOf143 (aK (aD.mk d.Round d.Place))) (aB (aC (aC (aA (tfl 1 rfl rfl aHk rfl aT ?_)))));obtain ⟨w, x, h⟩ := bns h;refine to (scr call116 (fG _ _ _ x)) (to (sn rfl) (tm (.b (!w)) ?_));obtain ⟨o, m, h⟩ := bns h;refine bE 4 [2, 3, 5] 43 o ?_ ?_
   ·refine bch m (fun i m => ?_) (fun i m => ?_)
    ·refine tp i (tp i (tp i (to (spt Z22 i) ?_)));obtain rfl := sIn m;refine aB (aM rfl (ae rfl) rfl)
    ·refine tkl 1 i rfl rfl aHl rfl aT (tk i (scm rfl rfl rfl) (to (spf (.b (!decide (d.Old = 0))) i) ?_));obtain rfl := sIn m;refine aB (aM rfl (ae rfl) rfl)
   ·refine tm (.b o) ?_;obtain ⟨y, k, h⟩ := bns h;refine bE 5 [2, 3] 49 y ?_ ?_
    ·refine bch k (fun e k => ?_) (fun e k => ?_)
     ·refine tp e (tp e (tp e (tp e (to (spt Z22 e) ?_))));obtain rfl := sIn k;refine aB (aM rfl (ae rfl) rfl)
     ·refine tk e (sla 2 (aK (aD.mk d.Round d.Place)) rfl rfl iL) (tk e (sla 0 (aZ n) rfl rfl iQ) ?_);obtain ⟨z, A, k⟩ := bns k;refine tk e (scr call146 (wS _ _ A)) (tk e (sn rfl) (to (spf (.b (!z)) e) ?_));obtain rfl := sIn k;refine aB (aM rfl (ae rfl) rfl)
    ·refine aB ?_;refine tih h (fun B h => ?_) (fun B h => ?_)
     ·refine aC (aA (ta Z9 (aB ?_)));obtain rfl := sIn h;refine bX (bP (bS (l := [4]) (ae rfl))) ?_;exact rt
     ·refine bG (aC (aA (tfl 1 rfl rfl aCk rfl aT (to (scm rfl rfl rfl) (tm (.b (decide (0 < d.Round))) ?_)))));obtain ⟨p, f, h⟩ := bns h;refine bE 13 [] 66 p ?_ ?_
      ·refine bch f (fun a f => ?_) (fun a f => ?_)
       ·refine tp a (tp a (tp a (tp a (tp a (tp a (tp a (tp a (tp a (tp a (tp a (tp a (to (spt Z22 a) ?_))))))))))));obtain rfl := sIn f;refine aB (aM rfl trivial rfl)
       ·refine tkl 0 a rfl rfl eX rfl cZ (tkl 1 a rfl rfl uG rfl aT (tk a (sar rfl rfl rfl) (tkl 1 a rfl rfl uG rfl aT (tk a (sar rfl rfl rfl) (tk a (sar rfl rfl rfl) ?_)))));obtain ⟨H, C, f⟩ := bns f;refine tk a (aJo (aH rfl) cF.of rfl rfl rfl (aQe aL C)) ?_;obtain ⟨E, F, f⟩ := bns f;refine tk a (scr call91 (gJ _ _ F)) (tk a (sn rfl) (to (spf (.b (!E)) a) ?_));obtain rfl := sIn f;refine aB (aM rfl trivial rfl)
      ·refine ta (.b p) (aB ?_);obtain rfl := sIn h;refine bX (bP (bS (l := [4]) (ae rfl))) ?_;exact rt

theorem aHd (a : aF) (c : aN) {r : Bool} (h : nJ a c = some r) : Fn Tryz.prog 113 [.agg (aS a), .cp (aZ c)] (.b r) := by
 unfold nJ at h;refine oT [.tmp 3] func113 results113 ntmps113 ?_;refine aC (aA ?_);refine bF rfl (cT (v := .agg (aS a)) (aH rfl) rfl rfl rfl) ?_;rintro _ ⟨b1, rfl⟩;refine ta Z9 (aB (aC (aA (to (aFl (aZ c) rfl iQ) (to (sla 0 (aS a) rfl rfl rA) ?_)))));obtain ⟨r2, h3, h⟩ := bns h;refine to (scr call114 (aHb _ _ h3)) (to (sn rfl) (ta (.b (!r2)) (aB ?_)));obtain rfl := sIn h;refine bX (bP (bS (l := [3]) (ae rfl))) ?_;exact rt

theorem vQ (f : aN) (n : List Int) (o : List (aF × Int)) (g : Int) {Q : (aF × Bool) → Prop} {t u : Nat} {c : Value} {w : Nat} {j : Nat} {s : List Nat} {e : Nat} (h : gY f n o g Q) : dR Tryz.prog 220 [.bp t u 0, .d (Z38 j), .i g] (Z12 t u f c w n j o s e) (fun r' o' => ∃ (r : aF × Bool), Q r ∧ r' = .tup [.agg (aS r.1), .b r.2] ∧ o' = (Z12 t u f c w n j o s e)) := by
 unfold gY at h;refine gQ func220 rfl (rs := [.cell 6 95, .tmp 7]) results220 ntmps220 (Nat.le_of_ble_eq_true rfl) ?_;refine aC (aA ?_);refine bF rfl (cG (zs := [.j 0, .j 0, .j 0, .j 0, .j 0]) (aH rfl) zeroValue95 rfl rfl) ?_;rintro _ ⟨b1, rfl⟩;refine ta Z9 (aB (aC (aC (aA (tm (.d (Z38 j)) ?_)))));refine bF rfl (aQa (m := 2) (aH rfl) underlying260 rfl rfl) ?_;rintro _ ⟨q2, h4, rfl⟩;have h := aEx h h4;refine aB (cH ?_);refine sT [0, 2, 6, 10] (fun (s5 : aF × (List Nat)) => []) (fun (s5 : aF × (List Nat)) => [.arr c 3 1 (n.map aL), .box t u [.j f.Rounds, .sl 1 (Z16 f), .lit c, .lit (.map (some w))], .map j (o.map fun p : aF × Int => ((fun a : aF => Value.agg ((aS a).map bJ).toArray) p.1, (fun v : Int => AV.i v) p.2)) s e, .box b1 0 (aS s5.1), .iter q2 j e s5.2 e]) (fun (k : Nat) (s5 : aF × (List Nat)) => gT Q g n f o k s5.1 (mN o s s5.2)) (fun _ h => h) (Z70, []) h (bD [1, 0, 2, 3, 4] rfl rfl (bB (ae rfl))) ?_;rintro k7 ⟨B, y⟩ h;simp only [gT] at h;refine aC (aA ?_);refine bF rfl (aTr (kv := (fun a : aF => Value.agg ((aS a).map bJ).toArray)) (av := (fun v : Int => AV.i v)) (l := o) (mi := 4) (mm := 2) (aH rfl) rfl rfl rfl) ?_;rintro _ (⟨I, rfl⟩ | ⟨j9, C, p8, E, rfl⟩)
 ·have h := h.1 I;refine to (sex rfl rfl) (aB (aC ?_));refine yL rfl (fun F => ?_) (fun F => ?_)
  ·exact absurd F (by decide)
  ·refine dP ?_;refine .inl ⟨rfl, ?_⟩;simp only [nD] at h;refine aC (aA (to (cQ (aH rfl) aBs (zs := [.j 0, .j 0, .j 0, .j 0, .j 0]) rfl rfl rfl rfl (es := [.j 0, .j 0, .j 0, .j 0, .j 0]) rfl) ?_));refine to (sst 3 rfl rfl sizeOf95 (aS Z70)) (ta Z9 (aB ?_));refine bX (bD [1, 0, 2, 3, 4] rfl rfl (le_refl _)) ?_;exact bY ⟨rfl, _, (Z12 t u f c w n j o s e), [.box b1 0 (aS Z70), .iter q2 j e y e], _, .two (.cell 6 95 rfl (i := 3) rfl rA (es := (aS Z70)) rfl rfl) (.tmp 7 (v := .b false) rfl), .refl _, .same _, (Z70, false), h, rfl, rfl⟩
 ·have h := aGp h E;refine to (sex rfl rfl) (aB (aC ?_));refine yL rfl (fun G => ?_) (fun G => ?_)
  ·refine bG (cH (aC (aA (to (aPz (kv := (fun a : aF => Value.agg ((aS a).map bJ).toArray)) (av := (fun v : Int => AV.i v)) (l := o) (mi := 4) (mm := 2) (ka := .agg (aS p8.1)) (aH rfl) rfl rfl rfl E (fun _ _ => .agg (aEs rfl))) ?_))));refine to (sex rfl rfl) ?_;refine bF rfl (cG (zs := [.j 0, .j 0, .j 0, .j 0, .j 0]) (aH rfl) zeroValue95 rfl rfl) ?_;rintro _ ⟨z, rfl⟩;refine to (sst 5 rfl rfl sizeOf95 (aS p8.1)) (aB (aC ?_));obtain ⟨J, x, h⟩ := dN h;refine eD mix 16 [0, 2, 6, 8, 10] [(30, .b J)] ?_ ?_
   ·refine bch x (fun q x => ?_) (fun q x => ?_)
    ·obtain ⟨A, H, x⟩ := bns x;obtain rfl := sIn x;refine ⟨[(15, 0, .bp z 0 2), (16, 1, .i p8.1.Place), (17, 2, .i g), (18, 3, .b (decide (p8.1.Place = g))), (19, 4, .b (decide (p8.1.Place = g))), (20, 5, .bp z 0 4), (21, 6, .i p8.1.Old), (22, 7, .bp t u 0), (23, 8, .bp t u 0), (24, 9, .bp t u 2), (25, 10, .d (.lit c)), (26, 11, .i g), (27, 12, .ep c 1 g.toNat 0), (28, 13, .i A), (29, 14, .b (decide (p8.1.Old = A))), (30, 15, .b (decide (p8.1.Old = A)))], ?_, ?_⟩
     · exact dk [0, 1, 0, 203, 4, 5, 506, 5, 508, 509, 510, 5, 51112, 513, 50714, 515] ⟨go (zf rfl uG),
 go (zl 5 rfl rfl rfl aT),
 go (zm (.i g)),
 go (zcm rfl rfl rfl),
 go (zm (.b (decide (p8.1.Place = g)))),
 gt q (zf rfl aHl),
 gt q (zl 5 rfl rfl rfl aT),
 gt q (zm (Z74 t u)),
 gt q fun S hS => bU (aH rfl) (aX hS rfl),
 gt q (zf rfl lA),
 gt q (zl 1 rfl rfl rfl cZ),
 gt q (zm (.i g)),
 gt q (zia 0 rfl rfl rfl cF.of (cL aL H)),
 gt q fun S hS => mG (aH rfl) (aX hS rfl) (m := 0) rfl (rF aL H) rfl aT,
 gt q (zcm rfl rfl rfl),
 go (zpt (.b (decide (p8.1.Old = A))) q), trivial⟩
     · exact cN (aR rfl (bB (ae rfl)))
    ·obtain rfl := sIn x;refine ⟨[(15, 0, .bp z 0 2), (16, 1, .i p8.1.Place), (17, 2, .i g), (18, 3, .b (decide (p8.1.Place = g))), (19, 4, .b (decide (p8.1.Place = g))), (20, 5, .tup []), (21, 6, .tup []), (22, 7, .tup []), (23, 8, .tup []), (24, 9, .tup []), (25, 10, .tup []), (26, 11, .tup []), (27, 12, .tup []), (28, 13, .tup []), (29, 14, .tup []), (30, 15, .b false)], ?_, ?_⟩
     · exact dk [0, 1, 0, 203, 4, 5, 506, 5, 508, 509, 510, 5, 51112, 513, 50714, 515] ⟨go (zf rfl uG),
 go (zl 5 rfl rfl rfl aT),
 go (zm (.i g)),
 go (zcm rfl rfl rfl),
 go (zm (.b (decide (p8.1.Place = g)))),
 gp q,
 gp q,
 gp q,
 gp q,
 gp q,
 gp q,
 gp q,
 gp q,
 gp q,
 gp q,
 go (zpf Z9 q), trivial⟩
     · exact cN (aR rfl (bB (ae rfl)))
   ·refine aB ?_;refine tip h (fun K h => ?_) (fun K h => ?_)
    ·refine aC (aA (to (sla 5 (aS p8.1) rfl rfl rA) (to (sst 3 rfl rfl sizeOf95 (aS p8.1)) (ta Z22 (aB ?_)))));refine bX (bD [1, 0, 2, 3, 4, 5] rfl rfl (le_refl _)) ?_;exact bY ⟨rfl, _, (Z12 t u f c w n j o s e), [.box b1 0 (aS p8.1), .iter q2 j e (y ++ [C]) e, .box z 0 (aS p8.1)], _, .two (.cell 6 95 rfl (i := 3) rfl rA (es := (aS p8.1)) rfl rfl) (.tmp 7 (v := .b true) rfl), .refl _, .same _, (p8.1, true), h, rfl, rfl⟩
    ·refine eY ?_;exact ⟨(B, (y ++ [C])), h, bD [0, 1, 2, 3, 4] rfl rfl (bB (ae rfl))⟩
  ·exact absurd G (by decide)

theorem aAp (e : aN) (w : List Int) (C : List (aF × Int)) {Q : (Bool × (List Int) × (List (aF × Int))) → Prop} {q s : Nat} {c : Value} {t : Nat} {g : Nat} {z : List Nat} {A : Nat} (h : kK e w C Q) : dR Tryz.prog 174 [.bp q s 0, .d (Z38 g)] [.box q s [.j e.Rounds, .sl 1 (Z16 e), .lit c, .lit (.map (some t))], .arr c 3 1 (w.map aL), .map g (C.map fun p : aF × Int => ((fun a : aF => Value.agg ((aS a).map bJ).toArray) p.1, (fun v : Int => AV.i v) p.2)) z A] (fun r' o' => ∃ (r : Bool × (List Int) × (List (aF × Int))) (U : List Nat) (V : Nat), Q r ∧ r' = .b r.1 ∧ o' = [.box q s [.j e.Rounds, .sl 1 (Z16 e), .lit c, .lit (.map (some t))], .arr c 3 1 (r.2.1.map aL), .map g (r.2.2.map fun p : aF × Int => ((fun a : aF => Value.agg ((aS a).map bJ).toArray) p.1, (fun v : Int => AV.i v) p.2)) U V]) := by
 unfold kK at h;refine gQ func174 rfl (rs := [.tmp 4]) results174 ntmps174 (Nat.le_of_ble_eq_true rfl) ?_;refine aC (aA (ta Z9 (aB (aC (aA (tm (Z74 q s) (to (bU (aH rfl) rfl) ?_)))))));refine to (sf rfl pZ) (tfl 0 rfl rfl eX rfl cZ ?_);obtain ⟨r1, h2, h⟩ := dN h;refine bF rfl (aJl (aH rfl) (.func _ _ call93) rfl rfl (rT _ h2)) ?_;rintro _ ⟨v3, rfl⟩;refine ta (.d (.lit v3)) (aB (aC (aC (aA (tm (Z74 q s) (to (bU (aH rfl) rfl) ?_))))));refine tfl 0 rfl rfl lA rfl cZ (to (vL (m := 1) (aH rfl) rfl rfl cF.of) ?_);refine tm (.i 0) (aB (cH ?_));refine sT [0, 1, 19] (fun (s4 : Int × (List Int) × (List (aF × Int)) × (List Int) × (List Nat) × Nat × Value) => [(5, .d (.lit s4.2.2.2.2.2.2)), (20, .i s4.1)]) (fun (s4 : Int × (List Int) × (List (aF × Int)) × (List Int) × (List Nat) × Nat × Value) => [.arr c 3 1 (s4.2.1.map aL), .box q s [.j e.Rounds, .sl 1 (Z16 e), .lit c, .lit (.map (some t))], .map g (s4.2.2.1.map fun p : aF × Int => ((fun a : aF => Value.agg ((aS a).map bJ).toArray) p.1, (fun v : Int => AV.i v) p.2)) s4.2.2.2.2.1 s4.2.2.2.2.2.1, .arr s4.2.2.2.2.2.2 3 1 (s4.2.2.2.1.map aL)]) (fun (k : Nat) (s4 : Int × (List Int) × (List (aF × Int)) × (List Int) × (List Nat) × Nat × Value) => dA Q (w.length : Int) e k s4.1 s4.2.1 s4.2.2.1 s4.2.2.2.1) (fun _ h => h) (0, w, C, r1, z, A, v3) h (bD [1, 0, 2, 3] rfl rfl (aR rfl (aR rfl (bB (ae rfl))))) ?_;rintro k8 ⟨j, B, u, H, L, M, w7⟩ h;simp only [dA] at h;refine aC (aA (to (scm rfl rfl rfl) (aB (aC ?_))));refine tip h (fun c9 h => ?_) (fun c9 h => ?_)
 ·refine bG (aC (cH (aC (aA (tm (.i j) (ta (.i j) (aB (aC (aA (tm (Z74 q s) (tm (.d (Z38 g)) (tm (.i j) ?_))))))))))));refine eP (bD [1, 0, 2, 3] rfl rfl (le_refl _)) ?_;refine bF rfl (jM (passed := [.box q s [.j e.Rounds, .sl 1 (Z16 e), .lit c, .lit (.map (some t))], .arr c 3 1 (B.map aL), .map g (u.map fun p : aF × Int => ((fun a : aF => Value.agg ((aS a).map bJ).toArray) p.1, (fun v : Int => AV.i v) p.2)) L M]) (aH rfl) rfl (.func _ _ call220) rfl rfl (vQ e B u j h)) ?_;rintro _ ⟨_, _, ⟨I, h, rfl, rfl⟩, rfl⟩;refine tm (.tup [.agg (aS I.1), .b I.2]) (to (sex rfl rfl) (to (sex rfl rfl) ?_));refine bF rfl (cG (zs := [.j 0, .j 0, .j 0, .j 0, .j 0]) (aH rfl) zeroValue95 rfl rfl) ?_;rintro _ ⟨W, rfl⟩;refine to (sst 4 rfl rfl sizeOf95 (aS I.1)) (ta (.b I.2) (aB ?_));refine aKi ?_;refine sT [0, 1, 6, 19, 20] (fun (x : Bool × (List Int) × (List (aF × Int)) × aF × (List Int) × (List Nat) × Nat × Nat × Value) => [(5, .d (.lit x.2.2.2.2.2.2.2.2)), (7, .bp x.2.2.2.2.2.2.2.1 0 0), (8, .b x.1)]) (fun (x : Bool × (List Int) × (List (aF × Int)) × aF × (List Int) × (List Nat) × Nat × Nat × Value) => [.arr c 3 1 (x.2.1.map aL), .box q s [.j e.Rounds, .sl 1 (Z16 e), .lit c, .lit (.map (some t))], .map g (x.2.2.1.map fun p : aF × Int => ((fun a : aF => Value.agg ((aS a).map bJ).toArray) p.1, (fun v : Int => AV.i v) p.2)) x.2.2.2.2.2.1 x.2.2.2.2.2.2.1, .box x.2.2.2.2.2.2.2.1 0 (aS x.2.2.2.1), .arr x.2.2.2.2.2.2.2.2 3 1 (x.2.2.2.2.1.map aL)]) (fun (k : Nat) (x : Bool × (List Int) × (List (aF × Int)) × aF × (List Int) × (List Nat) × Nat × Nat × Value) => dX Q (dA Q (w.length : Int) e k8) j (w.length : Int) j e k x.1 x.2.1 x.2.2.1 x.2.2.2.1 x.2.2.2.2.1) (fun _ h => h) (I.2, B, u, I.1, H, L, M, W, w7) h (bD [1, 0, 2, 4, 3] rfl rfl (aR rfl (aR rfl (aR rfl (bB (ae rfl)))))) ?_;rintro a3 ⟨K, y, o, n, E, F, G, O, N⟩ h;simp only [dX] at h;refine aC (aC (aA (tm (.b K) (aB ?_))));refine tip h (fun X h => ?_) (fun X h => ?_)
  ·refine bG (aC (cH (aC (aC (aA (tm (.d (.lit N)) (tfl 3 rfl rfl zF rfl aT ?_)))))));obtain ⟨a4, Y, h⟩ := dN h;refine to (sc call91 (gJ _ _ Y) (.cons (.d (cY 4 rfl (bL (f := aL) fun _ => rfl))) (.cons (.same _) .nil))) (aB ?_);refine tip h (fun Z h => ?_) (fun Z h => ?_)
   ·refine aC (aA (ta Z9 (aB ?_)));refine bX (bD [1, 0, 2, 3, 4] rfl rfl (le_refl _)) ?_;exact bY ⟨rfl, _, [.box q s [.j e.Rounds, .sl 1 (Z16 e), .lit c, .lit (.map (some t))], .arr c 3 1 (y.map aL), .map g (o.map fun p : aF × Int => ((fun a : aF => Value.agg ((aS a).map bJ).toArray) p.1, (fun v : Int => AV.i v) p.2)) F G], [.box O 0 (aS n), .arr N 3 1 (E.map aL)], _, .one (.tmp 4 (v := .b false) rfl), .refl _, .same _, (false, y, o), F, G, h, rfl, rfl⟩
   ·refine bG (aC ?_);refine eD mix 7 [0, 1, 5, 6, 7, 19, 20] [(45, .d (.lit c)), (46, .i j), (48, .i n.Player)] ?_ ?_
    ·refine ⟨[(42, 0, .bp q s 0), (43, 1, .bp q s 0), (44, 2, .bp q s 2), (45, 3, .d (.lit c)), (46, 4, .i j), (47, 5, .bp O 0 3), (48, 6, .i n.Player)], ?_, ?_⟩
     · exact dk [0, 1, 2, 3, 0, 0, 6] ⟨go (zm (Z74 q s)),
 go fun S hS => bU (aH rfl) (aX hS rfl),
 go (zf rfl lA),
 go (zl 1 rfl rfl rfl cZ),
 go (zm (.i j)),
 go (zf rfl zF),
 go (zl 3 rfl rfl rfl aT), trivial⟩
     · exact cN (aR rfl (aR rfl (aR rfl (bB (ae rfl)))))
    ·obtain ⟨a5, P, h⟩ := dN h;refine to (lV (m := 0) (aH rfl) rfl rfl rfl cF.of (cL aL P)) ?_;refine to (aRv (l := 0) rfl rfl (rF aL P) rfl rfl rfl sizeOf3 rfl (aH rfl) (Nat.le_of_ble_eq_true rfl) (rows' := ((y.set j.toNat n.Player)).map aL) (aXi _ _ _ _ rfl)) ?_;refine aB (aC (aA (tm (.d (.lit N)) (tfl 3 rfl rfl zF rfl aT (to (eM (aH rfl) cF rfl rfl (rows := ([n.Player]).map aL) rfl (bL (f := aL) fun _ => rfl) rfl (by decide)) ?_)))));obtain ⟨a0, a1, h⟩ := dN h;refine bF rfl (eF (i := 4) (aH rfl) cF rfl rfl rfl (fun _ => rfl) a1 rfl) ?_;rintro _ ⟨T, rfl⟩;refine ta (.d (.lit T)) (aB (aA (tm (.d (Z38 g)) (to (sla 3 (aS n) rfl rfl rA) (to (aVp (av := (fun v : Int => AV.i v)) (l := o) (a := n) (m := 2) aNk underlying260 rfl rfl rfl rfl (lC (enc := aS) n rfl)) ?_)))));refine gO ?_;refine aC (aC (aA (to (sla 3 (aS n) rfl rfl rA) (aB (aA ?_)))));refine bF rfl (cG (zs := [.j 0, .j 0, .j 0, .j 0, .j 0]) (aH rfl) zeroValue95 rfl rfl) ?_;rintro _ ⟨a2, rfl⟩;refine to (sst 5 rfl rfl sizeOf95 (aS n)) (aB (aA (tm (Z74 q s) (tm (.d (Z38 g)) (tm (.i j) ?_)))));refine eP (bD [1, 0, 2, 3, 4, 5] rfl rfl (le_refl _)) ?_;refine bF rfl (jM (passed := [.box q s [.j e.Rounds, .sl 1 (Z16 e), .lit c, .lit (.map (some t))], .arr c 3 1 ((y.set j.toNat n.Player).map aL), .map g ((pF n o).map fun p : aF × Int => ((fun a : aF => Value.agg ((aS a).map bJ).toArray) p.1, (fun v : Int => AV.i v) p.2)) (aAw n o F) G]) (aH rfl) rfl (.func _ _ call220) rfl rfl (vQ e (y.set j.toNat n.Player) (pF n o) j h)) ?_;rintro _ ⟨_, _, ⟨J, h, rfl, rfl⟩, rfl⟩;refine tm (.tup [.agg (aS J.1), .b J.2]) (to (sex rfl rfl) (to (sex rfl rfl) (to (sst 5 rfl rfl sizeOf95 (aS J.1)) (ta (.b J.2) (aB ?_)))));exact ⟨(J.2, (y.set j.toNat n.Player), (pF n o), J.1, a0, (aAw n o F), G, a2, T), h, bD [1, 0, 2, 5, 4] rfl rfl (aR rfl (aR rfl (aR rfl (bB (ae rfl)))))⟩
  ·refine dP ?_;refine .inl ⟨rfl, ?_⟩;simp only [lF] at h;simp only [lE] at h;refine aA (to (sar rfl rfl rfl) (tm (.i (w64 (j + 1))) (aB ?_)));exact ⟨(w64 (j + 1), y, o, E, F, G, N), h, bD [0, 1, 2, 4] rfl rfl (aR rfl (aR rfl (bB (ae rfl))))⟩
 ·refine dP ?_;refine .inl ⟨rfl, ?_⟩;simp only [lD] at h;refine aC (aA (tm (.d (Z38 g)) (to (aVr (m := 2) (aH rfl) underlying260 rfl rfl) ?_)));refine to (scm rfl rfl rfl) (ta (.b (decide ((u.length : Int) = 0))) (aB ?_));refine bX (bD [1, 0, 2, 3] rfl rfl (le_refl _)) ?_;exact bY ⟨rfl, _, [.box q s [.j e.Rounds, .sl 1 (Z16 e), .lit c, .lit (.map (some t))], .arr c 3 1 (B.map aL), .map g (u.map fun p : aF × Int => ((fun a : aF => Value.agg ((aS a).map bJ).toArray) p.1, (fun v : Int => AV.i v) p.2)) L M], [.arr w7 3 1 (H.map aL)], _, .one (.tmp 4 (v := .b (decide ((u.length : Int) = 0))) rfl), .refl _, .same _, (decide ((u.length : Int) = 0), B, u), L, M, h, rfl, rfl⟩

theorem nN (a : Int) (b : Int) {r : aD} (h : lU a b = some r) : Fn Tryz.prog 56 [.i a, .i b] (.agg (aK r)) := by
 unfold lU at h;refine eU func56 rfl (rs := [.cell 4 143]) results56 ntmps56 (Nat.le_of_ble_eq_true rfl) ?_;refine aC (aA ?_);refine bF rfl (cG (zs := [.j 0, .j 0]) (aH rfl) zeroValue143 rfl rfl) ?_;rintro _ ⟨b1, rfl⟩;refine aB (aC (aA (tm (.i a) (tm (.i b) (tm (.i a) (to (sar rfl rfl rfl) ?_))))));obtain ⟨u2, h3, h⟩ := bns h;refine to (aRu (aH rfl) rfl rfl (aFu h3)) ?_;refine to (cQ (aH rfl) yW (zs := [.j 0, .j 0]) rfl rfl rfl rfl (es := [.j a, .j (Z53 b a)]) rfl) ?_;refine to (sst 0 rfl rfl sizeOf143 (aK (aD.mk a (Z53 b a)))) (aB ?_);obtain rfl := sIn h;exact bY ⟨rfl, _, [.box b1 0 (aK (aD.mk a (Z53 b a)))], .one (.cell 4 143 rfl (i := 0) rfl iL (es := (aK (aD.mk a (Z53 b a)))) rfl rfl), .refl _, .same _⟩

theorem vS (g : aN) (o : List Int) (y : List (aD × Int)) (s : Int) (u : Int) {r : Bool × (List (aD × Int))} {j n : Nat} {e : Value} {f : Nat} {w : List Nat} {x : Nat} (h : kY g o y s u = some r) : dR Tryz.prog 175 [.bp j n 0, .i s, .i u] [.box j n [.j g.Rounds, .sl 1 (Z16 g), .lit e, .lit (.map (some f))], .arr e 3 1 (o.map aL), .map f (y.map fun p : aD × Int => ((fun a : aD => Value.agg ((aK a).map bJ).toArray) p.1, (fun v : Int => AV.i v) p.2)) w x] (fun r' o' => ∃ (A : List Nat) (H : Nat), r' = .b r.1 ∧ o' = [.box j n [.j g.Rounds, .sl 1 (Z16 g), .lit e, .lit (.map (some f))], .arr e 3 1 (o.map aL), .map f (r.2.map fun p : aD × Int => ((fun a : aD => Value.agg ((aK a).map bJ).toArray) p.1, (fun v : Int => AV.i v) p.2)) A H]) := by
 unfold kY at h;refine gQ func175 rfl (rs := [.tmp 6]) results175 ntmps175 (Nat.le_of_ble_eq_true rfl) ?_;refine aC (aA (ta Z9 (aB (aC (aC (aA (tm (.i u) (to (sar rfl rfl rfl) (tm (.i 0) (aB (cH ?_)))))))))));refine eO (S := Int × (List (aD × Int)) × (List Nat) × Nat) [0, 1, 12] (fun s1 => [(13, .i s1.1)]) (fun s1 => [.arr e 3 1 (o.map aL), .map f (s1.2.1.map fun p : aD × Int => ((fun a : aD => Value.agg ((aK a).map bJ).toArray) p.1, (fun v : Int => AV.i v) p.2)) s1.2.2.1 s1.2.2.2, .box j n [.j g.Rounds, .sl 1 (Z16 g), .lit e, .lit (.map (some f))]]) (fun k s1 => gU s (w64 (u + 1)) o g k s1.1 s1.2.1) (fun _ => rfl) (0, y, w, x) h (bD [1, 2, 0] rfl rfl (aR rfl (bB (ae rfl)))) ?_;rintro k4 ⟨t, c, A, C⟩ h;simp only [gU] at h;refine aC (aA (to (scm rfl rfl rfl) (aB (aC ?_))));refine tih h (fun c5 h => ?_) (fun c5 h => ?_)
 ·refine bG (aC (cH (aC (aA (tm (.i t) (ta (.i t) (aB (aC (aA (tm (.i t) (tm (.i s) ?_)))))))))));obtain ⟨r6, h7, h⟩ := bns h;refine to (cU (aH rfl) (.func _ _ call56) rfl rfl (nN _ _ h7)) ?_;refine bF rfl (cG (zs := [.j 0, .j 0]) (aH rfl) zeroValue143 rfl rfl) ?_;rintro _ ⟨b8, rfl⟩;refine to (sst 3 rfl rfl sizeOf143 (aK r6)) (aB (aC (aC ?_)));refine eD mix 10 [0, 1, 8, 12, 13] [(9, .i (cK r6 0 c)), (27, .b (cO r6 c))] ?_ ?_
  ·refine ⟨[(20, 0, .bp j n 0), (21, 1, .bp j n 0), (22, 2, .bp j n 3), (23, 3, .d (Z38 f)), (24, 4, .agg (aK r6)), (25, 5, .tup [.i (cK r6 0 c), .b (cO r6 c)]), (19, 6, .tup [.i (cK r6 0 c), .b (cO r6 c)]), (26, 7, .i (cK r6 0 c)), (27, 8, .b (cO r6 c)), (9, 9, .i (cK r6 0 c))], ?_, ?_⟩
   · exact dk [0, 1, 2, 3, 0, 405, 6, 7, 7, 8] ⟨go (zm (Z74 j n)),
 go fun S hS => bU (aH rfl) (aX hS rfl),
 go (zf rfl qA),
 go (zl 2 rfl rfl rfl uS),
 go (zla 3 (aK r6) rfl rfl iL),
 go fun S hS => aJm (av := (fun v : Int => AV.i v)) (l := c) (z := 0) (a := r6) (m := 1) (aH rfl) tE underlying139 zeroValue3 (fun _ _ => .d (.lit _ rfl)) (aX hS rfl) rfl rfl (aX hS rfl) (lC (enc := aK) r6 rfl),
 go (zm (.tup [.i (cK r6 0 c), .b (cO r6 c)])),
 go (zex rfl rfl),
 go (zex rfl rfl),
 go (za (.i (cK r6 0 c))), trivial⟩
   · exact cN (aR rfl (aR rfl (bB (ae rfl))))
  ·refine ta (.b (cO r6 c)) (aB (aC (aA (tm (.b (cO r6 c)) (tm (.b (cO r6 c)) ?_)))));obtain ⟨b9, B, h⟩ := bns h;refine bE 10 [0, 1, 8, 12, 13] 39 b9 ?_ ?_
   ·refine bch B (fun q B => ?_) (fun q B => ?_)
    ·refine tk q (sm (.i (cK r6 0 c))) (tk q (sm (Z74 j n)) (tk q (bU (aH rfl) rfl) ?_));refine tkl 2 q rfl rfl lA rfl cZ (tk q (sm (.i s)) ?_);obtain ⟨I, F, B⟩ := bns B;refine tk q (lV (m := 0) (aH rfl) rfl rfl rfl cF.of (cL aL F)) ?_;refine tk q (mG (aH rfl) rfl (m := 0) rfl (rF aL F) rfl aT) ?_;refine tk q (scm rfl rfl rfl) (to (spt (.b (!decide ((cK r6 0 c) = I))) q) ?_);obtain rfl := sIn B;refine aB (aM rfl (ae rfl) rfl)
    ·refine tp q (tp q (tp q (tp q (tp q (tp q (tp q (tp q (tp q (to (spf Z9 q) ?_)))))))));obtain rfl := sIn B;refine aB (aM rfl (ae rfl) rfl)
   ·refine aB ?_;refine tih h (fun J h => ?_) (fun J h => ?_)
    ·refine aC (aA (ta Z9 (aB ?_)));obtain rfl := sIn h;refine bX (bD [2, 0, 1, 3] rfl rfl (le_refl _)) ?_;exact bY ⟨rfl, _, [.box j n [.j g.Rounds, .sl 1 (Z16 g), .lit e, .lit (.map (some f))], .arr e 3 1 (o.map aL), .map f (c.map fun p : aD × Int => ((fun a : aD => Value.agg ((aK a).map bJ).toArray) p.1, (fun v : Int => AV.i v) p.2)) A C], [.box b8 0 (aK r6)], _, .one (.tmp 6 (v := .b false) rfl), .refl _, .same _, A, C, rfl, rfl⟩
    ·refine bG ?_;obtain ⟨E, G, h⟩ := bns h;refine eD mix 12 [0, 1, 12, 13] [(43, .d (Z38 f)), (44, .agg (aK r6)), (51, .i E)] ?_ ?_
     ·refine ⟨[(40, 0, .bp j n 0), (41, 1, .bp j n 0), (42, 2, .bp j n 3), (43, 3, .d (Z38 f)), (44, 4, .agg (aK r6)), (45, 5, .bp j n 0), (46, 6, .bp j n 0), (47, 7, .bp j n 2), (48, 8, .d (.lit e)), (49, 9, .i s), (50, 10, .ep e 1 s.toNat 0), (51, 11, .i E)], ?_, ?_⟩
      · exact dk [0, 1, 2, 3, 0, 0, 6, 7, 8, 0, 910, 11] ⟨go (zm (Z74 j n)),
 go fun S hS => bU (aH rfl) (aX hS rfl),
 go (zf rfl qA),
 go (zl 2 rfl rfl rfl uS),
 go (zla 3 (aK r6) rfl rfl iL),
 go (zm (Z74 j n)),
 go fun S hS => bU (aH rfl) (aX hS rfl),
 go (zf rfl lA),
 go (zl 2 rfl rfl rfl cZ),
 go (zm (.i s)),
 go (zia 0 rfl rfl rfl cF.of (cL aL G)),
 go fun S hS => mG (aH rfl) (aX hS rfl) (m := 0) rfl (rF aL G) rfl aT, trivial⟩
      · exact cN (aR rfl (aR rfl (aR rfl (bB (ae rfl)))))
     ·refine to (aAz (av := (fun v : Int => AV.i v)) (l := c) (v := E) (a := r6) (m := 1) tE underlying139 rfl rfl rfl rfl (lC (enc := aK) r6 rfl) rfl rfl) ?_;refine gO ?_;refine aA (to (sar rfl rfl rfl) (tm (.i (w64 (t + 1))) (aB ?_)));exact ⟨(w64 (t + 1), (fO r6 E c), (mbs r6 c A C), (mck r6 c C)), h, bD [0, 1, 2] rfl rfl (aR rfl (bB (ae rfl)))⟩
 ·refine dP ?_;refine .inl ⟨rfl, ?_⟩;simp only [qJ] at h;refine aC (aA (ta Z22 (aB ?_)));obtain rfl := sIn h;refine bX (bD [2, 0, 1] rfl rfl (le_refl _)) ?_;exact bY ⟨rfl, _, [.box j n [.j g.Rounds, .sl 1 (Z16 g), .lit e, .lit (.map (some f))], .arr e 3 1 (o.map aL), .map f (c.map fun p : aD × Int => ((fun a : aD => Value.agg ((aK a).map bJ).toArray) p.1, (fun v : Int => AV.i v) p.2)) A C], [], _, .one (.tmp 6 (v := .b true) rfl), .refl _, .same _, A, C, rfl, rfl⟩

theorem aIl (j : aN) (P : List aF) {Q : ((Option bA) × Bool) → Prop} (h : rC j P Q) : dR Tryz.prog 115 (Z68 j P) [] (fun r' o' => ∃ (r : (Option bA) × Bool), Q r ∧ r' = .tup [cM aW r.1, .b r.2] ∧ o' = []) := by
 unfold rC at h;refine gQ func115 rfl (rs := [.tmp 4, .tmp 5]) results115 ntmps115 (Nat.le_of_ble_eq_true rfl) ?_;refine aC (aA ?_);refine bF rfl (cT (v := .agg (aZ j)) (aH rfl) rfl rfl rfl) ?_;rintro _ ⟨b1, rfl⟩;refine ta (cM aW (none : Option bA)) (ta Z9 (aB (aC ?_)));obtain ⟨r3, h4, h⟩ := dN h;refine fB mix 5 [1] (fun X2 => [(19, .agg (aZ j)), (22, .d (.lit (X2 3).v)), (23, .d (.lit (.map (some (X2 4).b))))]) (fun X2 => [.box b1 0 (aZ j), .arr (X2 3).v 3 1 (r3.map aL), .map (X2 4).b (([] : List (aD × Int)).map fun p : aD × Int => ((fun a : aD => Value.agg ((aK a).map bJ).toArray) p.1, (fun v : Int => AV.i v) p.2)) ([]) 0]) ?_ ?_
 ·refine ⟨2, fun X2 => [(19, 0, .agg (aZ j)), (20, 1, .bp b1 0 1), (21, 2, .d (.sl 1 (Z16 j))), (22, 3, .d (.lit (X2 3).v)), (23, 4, .d (.lit (.map (some (X2 4).b))))], fun X2 => [([], .box b1 0 (aZ j)), ([(3, .arr (X2 3).v 3 1 (r3.map aL))], nob), ([(4, .map (X2 4).b (([] : List (aD × Int)).map fun p : aD × Int => ((fun a : aD => Value.agg ((aK a).map bJ).toArray) p.1, (fun v : Int => AV.i v) p.2)) ([]) 0)], nob)], ?_, ?_⟩
  · exact xok [(0, 0), (0, 4), (2, 4), (3, 0), (0, 0)] ⟨fun _ _ w _ k => xp w (yla k 0 (aZ j) rfl (og k rfl rfl) iQ),
 fun _ _ w _ k => xp w (yf k rfl eX),
 fun _ _ w _ k => xp w (yl k 0 rfl (og k rfl rfl) rfl cZ),
 fun X2 S hw hi hS => iK (X := X2) (p := 1) (v := fun x => .d (.lit x.v)) (mo := fun x => .arr x.v 3 1 (r3.map aL)) hS hi rfl rfl (fun _ => rfl) hw (fun _ => rfl) (fun _ => rfl) (fun _ => rfl) (fun _ => ⟨rfl, rfl, .inr rfl, ⟨rfl, rfl, .inr rfl, ⟨rfl, rfl, .inr rfl, ⟨rfl, rfl, .inl rfl, ⟨rfl, rfl, .inr rfl, trivial⟩⟩⟩⟩⟩) (fun _ => ⟨trivial, rfl, ⟨⟨rfl, .inl rfl, trivial⟩, rfl, ⟨⟨rfl, .inr rfl, trivial⟩, rfl, trivial⟩⟩⟩) (eG (aJl (aH rfl) (.func _ _ call93) (ev2 (aX hS rfl) evn) rfl (rT _ h4)) (by rintro _ ⟨w, rfl⟩; exact ⟨⟨0, w⟩, bD [0, 3, 2] rfl rfl (le_refl _)⟩)),
 fun X2 S hw hi hS => iK (X := X2) (p := 2) (v := fun x => .d (.lit (.map (some x.b)))) (mo := fun x => .map x.b (([] : List (aD × Int)).map fun p : aD × Int => ((fun a : aD => Value.agg ((aK a).map bJ).toArray) p.1, (fun v : Int => AV.i v) p.2)) ([]) 0) hS hi rfl rfl (fun _ => rfl) hw (fun _ => rfl) (fun _ => rfl) (fun _ => rfl) (fun _ => ⟨rfl, rfl, .inr rfl, ⟨rfl, rfl, .inr rfl, ⟨rfl, rfl, .inr rfl, ⟨rfl, rfl, .inr rfl, ⟨rfl, rfl, .inl rfl, trivial⟩⟩⟩⟩⟩) (fun _ => ⟨trivial, rfl, ⟨⟨rfl, .inr rfl, trivial⟩, rfl, ⟨⟨rfl, .inl rfl, trivial⟩, rfl, trivial⟩⟩⟩) (eG (aAk (aH rfl)) (by rintro _ ⟨w, rfl⟩; exact ⟨⟨w, undef⟩, bD [0, 1, 3] rfl rfl (le_refl _)⟩)), trivial⟩
  · exact fun X2 => cN (aR rfl (aR rfl (aR rfl (bB (ae rfl)))))
 ·intro X2;refine to (cQ (aH rfl) aXk (zs := [.j 0, .sl 1 ((([] : List Int)).map aL), .sl 1 ((([] : List Int)).map aL), .lit (.map none)]) rfl rfl rfl rfl (es := [.j j.Rounds, .sl 1 (Z16 j), .lit (X2 3).v, .lit (.map (some (X2 4).b))]) rfl) ?_;refine bF rfl (cT (v := .agg [.j j.Rounds, .sl 1 (Z16 j), .lit (X2 3).v, .lit (.map (some (X2 4).b))]) (aH rfl) rfl rfl rfl) ?_;rintro _ ⟨b5, rfl⟩;refine ta (.bp b5 0 0) (aB (aC (aA ?_)));refine bF rfl (aAk (aH rfl)) ?_;rintro _ ⟨r6, rfl⟩;refine bF rfl (aAk (aH rfl)) ?_;rintro _ ⟨r7, rfl⟩;refine ta (.d (.lit (.map (some r6)))) (ta (.d (.lit (.map (some r7)))) (aB (aC (aC (aA (tm (.d (Z17 P)) (to (sle rfl wP.of) (tm (.i 0) (aB (cH ?_))))))))));refine sT [6, 7, 8, 28, 29] (fun (s8 : Int × (List (aF × Int)) × (List (aD × aF)) × (List Nat) × Nat × (List Nat) × Nat) => [(30, .i s8.1)]) (fun (s8 : Int × (List (aF × Int)) × (List (aD × aF)) × (List Nat) × Nat × (List Nat) × Nat) => [.arr (X2 3).v 3 1 (r3.map aL), .map (X2 4).b (([] : List (aD × Int)).map fun p : aD × Int => ((fun a : aD => Value.agg ((aK a).map bJ).toArray) p.1, (fun v : Int => AV.i v) p.2)) ([]) 0, .box b5 0 [.j j.Rounds, .sl 1 (Z16 j), .lit (X2 3).v, .lit (.map (some (X2 4).b))], .map r6 (s8.2.1.map fun p : aF × Int => ((fun a : aF => Value.agg ((aS a).map bJ).toArray) p.1, (fun v : Int => AV.i v) p.2)) s8.2.2.2.1 s8.2.2.2.2.1, .map r7 (s8.2.2.1.map fun p : aD × aF => ((fun a : aD => Value.agg ((aK a).map bJ).toArray) p.1, (fun v : aF => AV.agg (aS v)) p.2)) s8.2.2.2.2.2.1 s8.2.2.2.2.2.2]) (fun (k : Nat) (s8 : Int × (List (aF × Int)) × (List (aD × aF)) × (List Nat) × Nat × (List Nat) × Nat) => gR Q P (P.length : Int) r3 ([] : List (aD × Int)) j k s8.1 s8.2.1 s8.2.2.1) (fun _ h => h) (0, ([] : List (aF × Int)), ([] : List (aD × aF)), [], 0, [], 0) h (bD [1, 2, 3, 4, 5] rfl rfl (aR rfl (bB (ae rfl)))) ?_;rintro d7 ⟨H, g, e, I, y, B, s⟩ h;simp only [gR] at h;refine aC (aA (to (scm rfl rfl rfl) (aB (aC ?_))));refine tip h (fun c0 h => ?_) (fun c0 h => ?_)
  ·refine bG (aC (cH (aC (aA ?_))));obtain ⟨c, c1, h⟩ := dN h;refine to (six rfl rfl wP.of (cL aS c1)) (to (aFl (aS c) rfl rA) ?_);refine bF rfl (cG (zs := [.j 0, .j 0, .j 0, .j 0, .j 0]) (aH rfl) zeroValue95 rfl rfl) ?_;rintro _ ⟨a0, rfl⟩;refine to (sst 5 rfl rfl sizeOf95 (aS c)) (aB (aC (aC (aA (tfl 5 rfl rfl aHk rfl aT (to (scm rfl rfl rfl) (aB ?_)))))));refine tip h (fun c2 h => ?_) (fun c2 h => ?_)
   ·refine aC ?_;refine fB mix 6 [6, 7, 8, 28, 29, 30] (fun L => [(37, .d (.lit (.map (some r6)))), (40, .i (w64 ((cK c 0 g) + 1))), (42, .i (rD c g I y))]) (fun L => [.arr (X2 3).v 3 1 (r3.map aL), .map (X2 4).b (([] : List (aD × Int)).map fun p : aD × Int => ((fun a : aD => Value.agg ((aK a).map bJ).toArray) p.1, (fun v : Int => AV.i v) p.2)) ([]) 0, .box b5 0 [.j j.Rounds, .sl 1 (Z16 j), .lit (X2 3).v, .lit (.map (some (X2 4).b))], .map r6 ((pG c 0 g).map fun p : aF × Int => ((fun a : aF => Value.agg ((aS a).map bJ).toArray) p.1, (fun v : Int => AV.i v) p.2)) (mbs c g I y) (mck c g y), .map r7 (e.map fun p : aD × aF => ((fun a : aD => Value.agg ((aK a).map bJ).toArray) p.1, (fun v : aF => AV.agg (aS v)) p.2)) B s, .box a0 0 (aS c)]) ?_ ?_
    ·refine ⟨0, fun L => [(37, 0, .d (.lit (.map (some r6)))), (38, 1, .agg (aS c)), (39, 2, .i (cK c 0 g)), (40, 3, .i (w64 ((cK c 0 g) + 1))), (41, 4, .tup [.i (cK c 0 g), .i (rD c g I y)]), (42, 5, .i (rD c g I y))], fun L => [([], .arr (X2 3).v 3 1 (r3.map aL)), ([], .map (X2 4).b (([] : List (aD × Int)).map fun p : aD × Int => ((fun a : aD => Value.agg ((aK a).map bJ).toArray) p.1, (fun v : Int => AV.i v) p.2)) ([]) 0), ([], .box b5 0 [.j j.Rounds, .sl 1 (Z16 j), .lit (X2 3).v, .lit (.map (some (X2 4).b))]), ([(4, .map r6 ((pG c 0 g).map fun p : aF × Int => ((fun a : aF => Value.agg ((aS a).map bJ).toArray) p.1, (fun v : Int => AV.i v) p.2)) (mbs c g I y) (mck c g y))], .map r6 (g.map fun p : aF × Int => ((fun a : aF => Value.agg ((aS a).map bJ).toArray) p.1, (fun v : Int => AV.i v) p.2)) I y), ([], .map r7 (e.map fun p : aD × aF => ((fun a : aD => Value.agg ((aK a).map bJ).toArray) p.1, (fun v : aF => AV.agg (aS v)) p.2)) B s), ([], .box a0 0 (aS c))], ?_, ?_⟩
     · exact xok [(0, 5), (0, 5), (102, 0), (3, 0), (102, 0), (5, 0)] ⟨fun _ _ w _ k => xp w (ym k (.d (.lit (.map (some r6))))),
 fun _ _ w _ k => xp w (yla k 5 (aS c) rfl (og k rfl rfl) rA),
 fun _ _ w _ k => xp w (aTq (av := (fun v : Int => AV.i v)) (l := g) (z := 0) (a := c) (m := 3) (aH rfl) aNk underlying260 zeroValue3 (fun _ _ => .d (.lit _ rfl)) (aX k rfl) (og2 rfl) rfl (aX k rfl) (lC (enc := aS) c rfl)),
 fun _ _ w _ k => xp w (yar k rfl rfl rfl),
 fun L S hw hi hS => aUb (X := L) (p := 3) hS rfl rfl rfl (hw L) rfl rfl rfl (eG (aRq (av := (fun v : Int => AV.i v)) (l := g) (z := 0) (a := c) (m := 3) (aH rfl) aNk underlying260 zeroValue3 (fun _ _ => .d (.lit _ rfl)) (aX hS rfl) (og hS rfl rfl) rfl (aX hS rfl) (lC (enc := aS) c rfl)) (by rintro _ rfl; exact Ent.refl _)),
 fun _ _ w _ k => xp w (yex k rfl rfl), trivial⟩
     · exact fun L => cN (aR rfl (aR rfl (aR rfl (bB (ae rfl)))))
    ·intro L;refine to (aLy (kv := (fun a : aF => Value.agg ((aS a).map bJ).toArray)) (av := (fun v : Int => AV.i v)) (l := g) (z := 0) (v := w64 ((cK c 0 g) + 1)) (a := c) (m := 3) rfl rfl rfl rfl rfl) ?_;refine aB ?_;refine dP ?_;refine .inl ⟨rfl, ?_⟩;refine aA (to (sar rfl rfl rfl) (tm (.i (w64 (H + 1))) (aB ?_)));exact ⟨(w64 (H + 1), (fO c (w64 ((cK c 0 g) + 1)) g), e, (mbs c g I y), (mck c g y), B, s), h, bD [0, 1, 2, 3, 4] rfl rfl (aR rfl (bB (ae rfl)))⟩
   ·refine bG (aC (aA (tfl 5 rfl rfl aCk rfl aT (tfl 5 rfl rfl uG rfl aT (to (cQ (aH rfl) yW (zs := [.j 0, .j 0]) rfl rfl rfl rfl (es := [.j c.Round, .j c.Place]) rfl) ?_)))));refine bF rfl (cG (zs := [.j 0, .j 0]) (aH rfl) zeroValue143 rfl rfl) ?_;rintro _ ⟨c3, rfl⟩;refine to (sst 6 rfl rfl sizeOf143 (aK (aD.mk c.Round c.Place))) (aB (aC (aC (aA (tm (.d (.lit (.map (some r7)))) (to (sla 6 (aK (aD.mk c.Round c.Place)) rfl rfl iL) (to (aJm (av := (fun v : aF => AV.agg (aS v))) (l := e) (z := (aF.mk 0 0 0 0 0)) (a := (aD.mk c.Round c.Place)) (m := 4) (aH rfl) tE underlying261 zeroValue95 (fun _ _ => .agg (aEs rfl)) rfl rfl rfl rfl (lC (enc := aK) (aD.mk c.Round c.Place) rfl)) ?_)))))));refine tm (.tup [.agg (aS (cK (aD.mk c.Round c.Place) (aF.mk 0 0 0 0 0) e)), .b (cO (aD.mk c.Round c.Place) e)]) (to (sex rfl rfl) (to (sex rfl rfl) ?_));refine bF rfl (cG (zs := [.j 0, .j 0, .j 0, .j 0, .j 0]) (aH rfl) zeroValue95 rfl rfl) ?_;rintro _ ⟨c4, rfl⟩;refine to (sst 7 rfl rfl sizeOf95 (aS (cK (aD.mk c.Round c.Place) (aF.mk 0 0 0 0 0) e))) (ta (.b (cO (aD.mk c.Round c.Place) e)) (aB (aC (aA (tm (.b (cO (aD.mk c.Round c.Place) e)) (tm (.b (cO (aD.mk c.Round c.Place) e)) ?_))))));obtain ⟨c5, T, h⟩ := dN h;refine bE 4 [6, 7, 8, 10, 11, 28, 29, 30] 59 c5 ?_ ?_
    ·refine bch T (fun J T => ?_) (fun J T => ?_)
     ·refine tk J (sla 7 (aS (cK (aD.mk c.Round c.Place) (aF.mk 0 0 0 0 0) e)) rfl rfl rA) (tk J (sla 5 (aS c) rfl rfl rA) (tk J (aRr (a := (cK (aD.mk c.Round c.Place) (aF.mk 0 0 0 0 0) e)) (b := c) (aH rfl) rfl rfl rfl rfl Tryz.eqGuardType95 aSq) ?_));refine to (spt (.b (!decide ((cK (aD.mk c.Round c.Place) (aF.mk 0 0 0 0 0) e) = c))) J) ?_;obtain rfl := sIn T;refine aB (aM rfl (ae rfl) rfl)
     ·refine tp J (tp J (tp J (to (spf Z9 J) ?_)));obtain rfl := sIn T;refine aB (aM rfl (ae rfl) rfl)
    ·refine aB ?_;refine tip h (fun c6 h => ?_) (fun c6 h => ?_)
     ·refine aC (aA (ta (cM aW (none : Option bA)) (ta Z9 (aB ?_))));exact bY ⟨rfl, _, [], [.arr (X2 3).v 3 1 (r3.map aL), .map (X2 4).b (([] : List (aD × Int)).map fun p : aD × Int => ((fun a : aD => Value.agg ((aK a).map bJ).toArray) p.1, (fun v : Int => AV.i v) p.2)) ([]) 0, .box b5 0 [.j j.Rounds, .sl 1 (Z16 j), .lit (X2 3).v, .lit (.map (some (X2 4).b))], .map r6 (g.map fun p : aF × Int => ((fun a : aF => Value.agg ((aS a).map bJ).toArray) p.1, (fun v : Int => AV.i v) p.2)) I y, .map r7 (e.map fun p : aD × aF => ((fun a : aD => Value.agg ((aK a).map bJ).toArray) p.1, (fun v : aF => AV.agg (aS v)) p.2)) B s, .box a0 0 (aS c), .box c3 0 (aK (aD.mk c.Round c.Place)), .box c4 0 (aS (cK (aD.mk c.Round c.Place) (aF.mk 0 0 0 0 0) e))], _, .two (.tmp 4 (v := cM aW (none : Option bA)) rfl) (.tmp 5 (v := .b false) rfl), .refl _, .same _, ((none : Option bA), false), h, rfl, rfl⟩
     ·refine bG (aA (tm (.d (.lit (.map (some r7)))) (to (sla 6 (aK (aD.mk c.Round c.Place)) rfl rfl iL) (to (sla 5 (aS c) rfl rfl rA) (to (aAz (av := (fun v : aF => AV.agg (aS v))) (l := e) (v := c) (a := (aD.mk c.Round c.Place)) (m := 4) tE underlying261 rfl rfl rfl rfl (lC (enc := aK) (aD.mk c.Round c.Place) rfl) rfl rfl) ?_)))));refine gO ?_;refine aA (to (sar rfl rfl rfl) (tm (.i (w64 (H + 1))) (aB ?_)));exact ⟨(w64 (H + 1), g, (fO (aD.mk c.Round c.Place) c e), I, y, (mbs (aD.mk c.Round c.Place) e B s), (mck (aD.mk c.Round c.Place) e s)), h, bD [0, 1, 2, 3, 4] rfl rfl (aR rfl (bB (ae rfl)))⟩
  ·refine dP ?_;refine .inl ⟨rfl, ?_⟩;simp only [qH] at h;refine aC (aC (aA (tm (.bp b5 0 0) (tm (.d (.lit (.map (some r6)))) ?_))));refine eP (bD [2, 0, 3, 1, 4] rfl rfl (le_refl _)) ?_;refine bF rfl (jM (passed := [.box b5 0 [.j j.Rounds, .sl 1 (Z16 j), .lit (X2 3).v, .lit (.map (some (X2 4).b))], .arr (X2 3).v 3 1 (r3.map aL), .map r6 (g.map fun p : aF × Int => ((fun a : aF => Value.agg ((aS a).map bJ).toArray) p.1, (fun v : Int => AV.i v) p.2)) I y]) (aH rfl) rfl (.func _ _ call174) rfl rfl (aAp j r3 g h)) ?_;rintro _ ⟨_, _, ⟨C, b6, b7, h, rfl, rfl⟩, rfl⟩;refine to (sn rfl) (aB ?_);refine tip h (fun c7 h => ?_) (fun c7 h => ?_)
   ·refine aC (aA (ta (cM aW (none : Option bA)) (ta Z9 (aB ?_))));exact bY ⟨rfl, _, [], [.box b5 0 [.j j.Rounds, .sl 1 (Z16 j), .lit (X2 3).v, .lit (.map (some (X2 4).b))], .arr (X2 3).v 3 1 (C.2.1.map aL), .map r6 (C.2.2.map fun p : aF × Int => ((fun a : aF => Value.agg ((aS a).map bJ).toArray) p.1, (fun v : Int => AV.i v) p.2)) b6 b7, .map (X2 4).b (([] : List (aD × Int)).map fun p : aD × Int => ((fun a : aD => Value.agg ((aK a).map bJ).toArray) p.1, (fun v : Int => AV.i v) p.2)) ([]) 0, .map r7 (e.map fun p : aD × aF => ((fun a : aD => Value.agg ((aK a).map bJ).toArray) p.1, (fun v : aF => AV.agg (aS v)) p.2)) B s], _, .two (.tmp 4 (v := cM aW (none : Option bA)) rfl) (.tmp 5 (v := .b false) rfl), .refl _, .same _, ((none : Option bA), false), h, rfl, rfl⟩
   ·refine bG (aC (aC (aA (tm (.bp b5 0 0) (to (bU (aH rfl) rfl) ?_)))));refine tfl 0 rfl rfl lA rfl cZ (to (vL (m := 1) (aH rfl) rfl rfl cF.of) ?_);refine tm (.i 0) (aB (cH ?_));refine sT [6, 8, 71, 72] (fun (M : Int × (List (aD × Int)) × (List Nat) × Nat) => [(73, .i M.1)]) (fun (M : Int × (List (aD × Int)) × (List Nat) × Nat) => [.arr (X2 3).v 3 1 (C.2.1.map aL), .map (X2 4).b (M.2.1.map fun p : aD × Int => ((fun a : aD => Value.agg ((aK a).map bJ).toArray) p.1, (fun v : Int => AV.i v) p.2)) M.2.2.1 M.2.2.2, .box b5 0 [.j j.Rounds, .sl 1 (Z16 j), .lit (X2 3).v, .lit (.map (some (X2 4).b))], .map r7 (e.map fun p : aD × aF => ((fun a : aD => Value.agg ((aK a).map bJ).toArray) p.1, (fun v : aF => AV.agg (aS v)) p.2)) B s]) (fun (k : Nat) (M : Int × (List (aD × Int)) × (List Nat) × Nat) => gS Q (C.2.1.length : Int) C.2.1 j e k M.1 M.2.1) (fun _ h => h) (0, ([] : List (aD × Int)), [], 0) h (bD [1, 3, 0, 4] rfl rfl (aR rfl (bB (ae rfl)))) ?_;rintro d8 ⟨u, G, U, V⟩ h;simp only [gS] at h;refine aC (aA (to (scm rfl rfl rfl) (aB (aC ?_))));refine tip h (fun c8 h => ?_) (fun c8 h => ?_)
    ·refine bG (aC (cH (aC (aA (tm (.i u) ?_)))));obtain ⟨a8, a9, h⟩ := dN h;refine to (lV (m := 0) (aH rfl) rfl rfl rfl cF.of (cL aL a9)) ?_;refine to (mG (aH rfl) rfl (m := 0) rfl (rF aL a9) rfl aT) ?_;refine ta (.i u) (ta (.i a8) (aB (aC (aA (tm (.i a8) (to (scm rfl rfl rfl) (aB ?_)))))));refine tip h (fun c9 h => ?_) (fun c9 h => ?_)
     ·refine aA (tm (.bp b5 0 0) (tm (.i u) (to (aTm (aH rfl) rfl rfl (.inr (.inr ⟨rfl, rfl⟩))) ?_)));obtain ⟨d0, d1, h⟩ := dN h;refine eP (bD [2, 0, 1, 3] rfl rfl (le_refl _)) ?_;refine bF rfl (jM (passed := [.box b5 0 [.j j.Rounds, .sl 1 (Z16 j), .lit (X2 3).v, .lit (.map (some (X2 4).b))], .arr (X2 3).v 3 1 (C.2.1.map aL), .map (X2 4).b (G.map fun p : aD × Int => ((fun a : aD => Value.agg ((aK a).map bJ).toArray) p.1, (fun v : Int => AV.i v) p.2)) U V]) (aH rfl) rfl (.func _ _ call175) rfl rfl (vS j C.2.1 G (aMp u 1) 0 d1)) ?_;rintro _ ⟨_, _, ⟨b8, b9, rfl, rfl⟩, rfl⟩;refine gO ?_;refine aA (to (sar rfl rfl rfl) (tm (.i (w64 (u + 1))) (aB ?_)));exact ⟨(w64 (u + 1), d0.2, b8, b9), h, bD [1, 2, 0, 3] rfl rfl (aR rfl (bB (ae rfl)))⟩
     ·refine eY ?_;refine aA (to (sar rfl rfl rfl) (tm (.i (w64 (u + 1))) (aB ?_)));exact ⟨(w64 (u + 1), G, U, V), h, bD [0, 1, 2, 3] rfl rfl (aR rfl (bB (ae rfl)))⟩
    ·refine dP ?_;refine .inl ⟨rfl, ?_⟩;simp only [qI] at h;refine aC (aC (aA (tm (.d (.lit (.map (some r7)))) ?_)));refine bF rfl (aQa (m := 3) (aH rfl) underlying261 rfl rfl) ?_;rintro _ ⟨Z, d2, rfl⟩;have h := aEx h d2;refine aB (cH ?_);refine sT [6, 86] (fun (N : (List (aD × Int)) × (List Nat) × Nat × (List Nat)) => []) (fun (N : (List (aD × Int)) × (List Nat) × Nat × (List Nat)) => [.arr (X2 3).v 3 1 (C.2.1.map aL), .map (X2 4).b (N.1.map fun p : aD × Int => ((fun a : aD => Value.agg ((aK a).map bJ).toArray) p.1, (fun v : Int => AV.i v) p.2)) N.2.1 N.2.2.1, .box b5 0 [.j j.Rounds, .sl 1 (Z16 j), .lit (X2 3).v, .lit (.map (some (X2 4).b))], .map r7 (e.map fun p : aD × aF => ((fun a : aD => Value.agg ((aK a).map bJ).toArray) p.1, (fun v : aF => AV.agg (aS v)) p.2)) B s, .iter Z r7 s N.2.2.2 s]) (fun (k : Nat) (N : (List (aD × Int)) × (List Nat) × Nat × (List Nat)) => jS Q C.2.1 j e k N.1 (mN e B N.2.2.2)) (fun _ h => h) (G, U, V, []) h (bD [0, 1, 2, 3, 4] rfl rfl (bB (ae rfl))) ?_;rintro d9 ⟨A, W, Y, K⟩ h;simp only [jS] at h;refine aC (aA ?_);refine bF rfl (aTr (kv := (fun a : aD => Value.agg ((aK a).map bJ).toArray)) (av := (fun v : aF => AV.agg (aS v))) (l := e) (mi := 4) (mm := 3) (aH rfl) rfl rfl rfl) ?_;rintro _ (⟨d3, rfl⟩ | ⟨e0, a1, n, b0, rfl⟩)
     ·have h := h.1 d3;refine to (sex rfl rfl) (aB (aC ?_));refine yL rfl (fun b2 => ?_) (fun b2 => ?_)
      ·exact absurd b2 (by decide)
      ·refine dP ?_;refine .inl ⟨rfl, ?_⟩;simp only [uE] at h;refine aC (aA (tm (.bp b5 0 0) (ta (.bp b5 0 0) (ta Z22 (aB ?_)))));exact bY ⟨rfl, _, [], [.arr (X2 3).v 3 1 (C.2.1.map aL), .map (X2 4).b (A.map fun p : aD × Int => ((fun a : aD => Value.agg ((aK a).map bJ).toArray) p.1, (fun v : Int => AV.i v) p.2)) W Y, .box b5 0 [.j j.Rounds, .sl 1 (Z16 j), .lit (X2 3).v, .lit (.map (some (X2 4).b))], .map r7 (e.map fun p : aD × aF => ((fun a : aD => Value.agg ((aK a).map bJ).toArray) p.1, (fun v : aF => AV.agg (aS v)) p.2)) B s, .iter Z r7 s K s], _, .two (.tmp 4 (v := .bp b5 0 0) rfl) (.tmp 5 (v := .b true) rfl), .refl _, aBe (.cons (jQ 2 rfl rfl (dvc (.same _) (dvc (.same _) (dvc (cY 0 rfl (bL (f := aL) fun _ => rfl)) (dvc (aYu (kv := (fun a : aD => Value.agg ((aK a).map bJ).toArray)) (av := (fun v : Int => AV.i v)) (l := A) (enc := aL) (agg := false) 1 rfl (fun _ _ => rfl) (fun _ => rfl)) dvn))))) (.cons (.same _) .nil)), ((some (bA.mk j C.2.1 A)), true), h, rfl, rfl⟩
     ·have h := aGp h b0;refine to (sex rfl rfl) (aB (aC ?_));refine yL rfl (fun b3 => ?_) (fun b3 => ?_)
      ·refine bG (cH (aC (aA (to (aPz (kv := (fun a : aD => Value.agg ((aK a).map bJ).toArray)) (av := (fun v : aF => AV.agg (aS v))) (l := e) (mi := 4) (mm := 3) (ka := .agg (aK n.1)) (aH rfl) rfl rfl rfl b0 (fun _ _ => .agg (aEs rfl))) ?_))));refine to (sex rfl rfl) (to (sex rfl rfl) ?_);refine bF rfl (cG (zs := [.j 0, .j 0]) (aH rfl) zeroValue143 rfl rfl) ?_;rintro _ ⟨O, rfl⟩;refine bF rfl (cG (zs := [.j 0, .j 0, .j 0, .j 0, .j 0]) (aH rfl) zeroValue95 rfl rfl) ?_;rintro _ ⟨a2, rfl⟩;refine to (sst 5 rfl rfl sizeOf143 (aK n.1)) (to (sst 6 rfl rfl sizeOf95 (aS n.2)) (aB (aC ?_)));refine eD mix 6 [6, 16, 86] [(95, .d (.lit (X2 3).v)), (97, .i n.2.Player)] ?_ ?_
       ·refine ⟨[(92, 0, .bp b5 0 0), (93, 1, .bp b5 0 0), (94, 2, .bp b5 0 2), (95, 3, .d (.lit (X2 3).v)), (96, 4, .bp a2 0 3), (97, 5, .i n.2.Player)], ?_, ?_⟩
        · exact dk [0, 1, 2, 3, 0, 5] ⟨go (zm (.bp b5 0 0)),
 go fun S hS => bU (aH rfl) (aX hS rfl),
 go (zf rfl lA),
 go (zl 2 rfl rfl rfl cZ),
 go (zf rfl zF),
 go (zl 6 rfl rfl rfl aT), trivial⟩
        · exact cN (aR rfl (aR rfl (bB (ae rfl))))
       ·obtain ⟨o, d4, h⟩ := dN h;refine to (sc call117 (sS _ _ d4) (.cons (.d (cY 0 rfl (bL (f := aL) fun _ => rfl))) (.cons (.same _) .nil))) (ta (.i o) (aB (aC ?_)));obtain ⟨a3, F, h⟩ := dN h;refine aIi (a3) (fun t => ?_) (fun t => ?_)
        ·have h := aPr t h;refine eD mix 15 [6, 86] [(109, .b a3)] ?_ ?_
         ·refine bch F (fun q F => ?_) (fun q F => ?_)
          ·obtain rfl := sIn F;refine ⟨[(99, 0, .i o), (100, 1, .b (decide (o < 0))), (101, 2, .b (decide (o < 0))), (102, 3, .tup []), (103, 4, .tup []), (104, 5, .tup []), (105, 6, .tup []), (106, 7, .tup []), (107, 8, .tup []), (108, 9, .b true), (109, 10, .b (true)), (110, 11, .tup []), (111, 12, .tup []), (112, 13, .tup []), (113, 14, .tup [])], ?_, ?_⟩
           · exact dk [0, 1, 2, 3, 304, 3, 30506, 3, 30708, 309, 10, 11, 11, 11, 1114] ⟨go (zm (.i o)),
 go (zcm rfl rfl rfl),
 go (zm (.b (decide (o < 0)))),
 gp q,
 gp q,
 gp q,
 gp q,
 gp q,
 gp q,
 go (zpt Z22 q),
 go (zm (.b (true))),
 gp t,
 gp t,
 gp t,
 gp t, trivial⟩
           · exact cN (aR rfl (bB (ae rfl)))
          ·obtain ⟨E, a4, F⟩ := bns F;obtain rfl := sIn F;refine ⟨[(99, 0, .i o), (100, 1, .b (decide (o < 0))), (101, 2, .b (decide (o < 0))), (102, 3, .bp O 0 0), (103, 4, .i n.1.round), (104, 5, .i o), (105, 6, .agg (aK E)), (106, 7, .agg (aK n.1)), (107, 8, .b (!decide (E = n.1))), (108, 9, .b (!decide (E = n.1))), (109, 10, .b (!decide (E = n.1))), (110, 11, .tup []), (111, 12, .tup []), (112, 13, .tup []), (113, 14, .tup [])], ?_, ?_⟩
           · exact dk [0, 1, 2, 3, 304, 3, 30506, 3, 30708, 309, 10, 11, 11, 11, 1114] ⟨go (zm (.i o)),
 go (zcm rfl rfl rfl),
 go (zm (.b (decide (o < 0)))),
 gt q (zf rfl oX),
 gt q (zl 5 rfl rfl rfl aT),
 gt q (zm (.i o)),
 gt q fun S hS => cU (aH rfl) (.func _ _ call56) (ev2 (aX hS rfl) (ev2 (aX hS rfl) evn)) rfl (nN _ _ a4),
 gt q (zla 5 (aK n.1) rfl rfl iL),
 gt q fun S hS => aRr (a := E) (b := n.1) (aH rfl) (aX hS rfl) (aX hS rfl) rfl rfl Tryz.eqGuardType143 aBi,
 go (zpf (.b (!decide (E = n.1))) q),
 go (zm (.b (!decide (E = n.1)))),
 gp t,
 gp t,
 gp t,
 gp t, trivial⟩
           · exact cN (aR rfl (bB (ae rfl)))
         ·refine tp t (tp t (to (spt Z22 t) (aB ?_)));refine yL rfl (fun b4 => ?_) (fun b4 => ?_)
          ·refine aC (aA (ta (cM aW (none : Option bA)) (ta Z9 (aB ?_))));exact bY ⟨rfl, _, [], [.arr (X2 3).v 3 1 (C.2.1.map aL), .map (X2 4).b (A.map fun p : aD × Int => ((fun a : aD => Value.agg ((aK a).map bJ).toArray) p.1, (fun v : Int => AV.i v) p.2)) W Y, .box b5 0 [.j j.Rounds, .sl 1 (Z16 j), .lit (X2 3).v, .lit (.map (some (X2 4).b))], .map r7 (e.map fun p : aD × aF => ((fun a : aD => Value.agg ((aK a).map bJ).toArray) p.1, (fun v : aF => AV.agg (aS v)) p.2)) B s, .iter Z r7 s (K ++ [a1]) s, .box O 0 (aK n.1), .box a2 0 (aS n.2)], _, .two (.tmp 4 (v := cM aW (none : Option bA)) rfl) (.tmp 5 (v := .b false) rfl), .refl _, .same _, ((none : Option bA), false), h, rfl, rfl⟩
          ·exact absurd b4 (by decide)
        ·have h := aPq t h;refine eD mix 15 [6, 86] [(109, .b a3), (110, .bp b5 0 0), (111, .i o), (112, .bp O 0 0), (113, .i n.1.round)] ?_ ?_
         ·refine bch F (fun q F => ?_) (fun q F => ?_)
          ·obtain rfl := sIn F;refine ⟨[(99, 0, .i o), (100, 1, .b (decide (o < 0))), (101, 2, .b (decide (o < 0))), (102, 3, .tup []), (103, 4, .tup []), (104, 5, .tup []), (105, 6, .tup []), (106, 7, .tup []), (107, 8, .tup []), (108, 9, .b true), (109, 10, .b (true)), (110, 11, .bp b5 0 0), (111, 12, .i o), (112, 13, .bp O 0 0), (113, 14, .i n.1.round)], ?_, ?_⟩
           · exact dk [0, 1, 2, 3, 304, 3, 30506, 3, 30708, 309, 10, 11, 11, 11, 1114] ⟨go (zm (.i o)),
 go (zcm rfl rfl rfl),
 go (zm (.b (decide (o < 0)))),
 gp q,
 gp q,
 gp q,
 gp q,
 gp q,
 gp q,
 go (zpt Z22 q),
 go (zm (.b (true))),
 gt t (zm (.bp b5 0 0)),
 gt t (zm (.i o)),
 gt t (zf rfl oX),
 gt t (zl 5 rfl rfl rfl aT), trivial⟩
           · exact cN (aR rfl (aR rfl (aR rfl (aR rfl (aR rfl (bB (ae rfl)))))))
          ·obtain ⟨E, a4, F⟩ := bns F;obtain rfl := sIn F;refine ⟨[(99, 0, .i o), (100, 1, .b (decide (o < 0))), (101, 2, .b (decide (o < 0))), (102, 3, .bp O 0 0), (103, 4, .i n.1.round), (104, 5, .i o), (105, 6, .agg (aK E)), (106, 7, .agg (aK n.1)), (107, 8, .b (!decide (E = n.1))), (108, 9, .b (!decide (E = n.1))), (109, 10, .b (!decide (E = n.1))), (110, 11, .bp b5 0 0), (111, 12, .i o), (112, 13, .bp O 0 0), (113, 14, .i n.1.round)], ?_, ?_⟩
           · exact dk [0, 1, 2, 3, 304, 3, 30506, 3, 30708, 309, 10, 11, 11, 11, 1114] ⟨go (zm (.i o)),
 go (zcm rfl rfl rfl),
 go (zm (.b (decide (o < 0)))),
 gt q (zf rfl oX),
 gt q (zl 5 rfl rfl rfl aT),
 gt q (zm (.i o)),
 gt q fun S hS => cU (aH rfl) (.func _ _ call56) (ev2 (aX hS rfl) (ev2 (aX hS rfl) evn)) rfl (nN _ _ a4),
 gt q (zla 5 (aK n.1) rfl rfl iL),
 gt q fun S hS => aRr (a := E) (b := n.1) (aH rfl) (aX hS rfl) (aX hS rfl) rfl rfl Tryz.eqGuardType143 aBi,
 go (zpf (.b (!decide (E = n.1))) q),
 go (zm (.b (!decide (E = n.1)))),
 gt t (zm (.bp b5 0 0)),
 gt t (zm (.i o)),
 gt t (zf rfl oX),
 gt t (zl 5 rfl rfl rfl aT), trivial⟩
           · exact cN (aR rfl (aR rfl (aR rfl (aR rfl (aR rfl (bB (ae rfl)))))))
         ·obtain ⟨a5, d5, h⟩ := dN h;refine eP (bD [2, 0, 1, 3, 4, 5, 6] rfl rfl (le_refl _)) ?_;refine aQf rfl rfl (aH rfl) rfl t (jM (passed := [.box b5 0 [.j j.Rounds, .sl 1 (Z16 j), .lit (X2 3).v, .lit (.map (some (X2 4).b))], .arr (X2 3).v 3 1 (C.2.1.map aL), .map (X2 4).b (A.map fun p : aD × Int => ((fun a : aD => Value.agg ((aK a).map bJ).toArray) p.1, (fun v : Int => AV.i v) p.2)) W Y]) (aH rfl) rfl (.func _ _ call175) rfl rfl (vS j C.2.1 A o n.1.round d5)) ?_;rintro _ ⟨_, _, ⟨a6, a7, rfl, rfl⟩, rfl⟩;refine tk t (sn rfl) (to (spf (.b (!a5.1)) t) (aB ?_));refine tip h (fun d6 h => ?_) (fun d6 h => ?_)
          ·refine aC (aA (ta (cM aW (none : Option bA)) (ta Z9 (aB ?_))));exact bY ⟨rfl, _, [], [.box b5 0 [.j j.Rounds, .sl 1 (Z16 j), .lit (X2 3).v, .lit (.map (some (X2 4).b))], .arr (X2 3).v 3 1 (C.2.1.map aL), .map (X2 4).b (a5.2.map fun p : aD × Int => ((fun a : aD => Value.agg ((aK a).map bJ).toArray) p.1, (fun v : Int => AV.i v) p.2)) a6 a7, .map r7 (e.map fun p : aD × aF => ((fun a : aD => Value.agg ((aK a).map bJ).toArray) p.1, (fun v : aF => AV.agg (aS v)) p.2)) B s, .iter Z r7 s (K ++ [a1]) s, .box O 0 (aK n.1), .box a2 0 (aS n.2)], _, .two (.tmp 4 (v := cM aW (none : Option bA)) rfl) (.tmp 5 (v := .b false) rfl), .refl _, .same _, ((none : Option bA), false), h, rfl, rfl⟩
          ·refine eY ?_;exact ⟨(a5.2, a6, a7, (K ++ [a1])), h, bD [1, 2, 0, 3, 4] rfl rfl (bB (ae rfl))⟩
      ·exact absurd b3 (by decide)

theorem sX (a : aN) (e : List aF) {Q : ((Option bA) × Int) → Prop} (h : jN a e Q) : dR Tryz.prog 53 (Z68 a e) [] (fun r' o' => ∃ (r : (Option bA) × Int), Q r ∧ r' = .tup [cM aW r.1, .i r.2] ∧ o' = []) := by
 unfold jN at h;refine gQ func53 rfl (rs := [.tmp 4, .tmp 5]) results53 ntmps53 (Nat.le_of_ble_eq_true rfl) ?_;refine aC (aA ?_);refine bF rfl (cT (v := .agg (aZ a)) (aH rfl) rfl rfl rfl) ?_;rintro _ ⟨b1, rfl⟩;refine ta (cM aW (none : Option bA)) (ta (.i 0) (aB (aC (aC (aA (to (sla 0 (aZ a) rfl rfl iQ) ?_))))));obtain ⟨r2, h3, h⟩ := dN h;refine to (scr call111 (aHc _ h3)) (to (sn rfl) (aB ?_));refine tip h (fun c4 h => ?_) (fun c4 h => ?_)
 ·refine aC (aA (ta (cM aW (none : Option bA)) (ta (.i 70) (aB ?_))));exact bY ⟨rfl, _, [], [.box b1 0 (aZ a)], _, .two (.tmp 4 (v := cM aW (none : Option bA)) rfl) (.tmp 5 (v := .i 70) rfl), .refl _, .same _, ((none : Option bA), 70), h, rfl, rfl⟩
 ·refine bG (aC (aC (aA (tm (.d (Z17 e)) (to (sle rfl wP.of) (to (scm rfl rfl rfl) (tm (.b (decide (60 < (e.length : Int)))) ?_)))))));obtain ⟨b5, h6, h⟩ := dN h;refine bE 4 [1, 2] 18 b5 ?_ ?_
  ·refine bch h6 (fun c h6 => ?_) (fun c h6 => ?_)
   ·refine tp c (tp c (tp c (to (spt Z22 c) ?_)));obtain rfl := sIn h6;refine aB (aM rfl (ae rfl) rfl)
   ·refine tk c (sm (.d (Z17 e))) (tk c (zQ (aH rfl) rfl rfl) ?_);obtain ⟨f, g, h6⟩ := bns h6;refine tk c (sc call112 (vN _ _ 113 [.cp [.j a.Rounds, .sl 1 (Z16 a)]] call113 (fun _ _ h6 => aHd _ _ h6) g) (.cons (.same _) (.cons (aIm (.cons (jQ 0 rfl rfl (dvc (.same _) (dvc (.same _) dvn))) .nil)) .nil))) (to (spf (.b f) c) ?_);obtain rfl := sIn h6;refine aB (aM rfl (ae rfl) rfl)
  ·refine aB ?_;refine tip h (fun c7 h => ?_) (fun c7 h => ?_)
   ·refine aC (aA (ta (cM aW (none : Option bA)) (ta (.i 71) (aB ?_))));exact bY ⟨rfl, _, [], [.box b1 0 (aZ a)], _, .two (.tmp 4 (v := cM aW (none : Option bA)) rfl) (.tmp 5 (v := .i 71) rfl), .refl _, .same _, ((none : Option bA), 71), h, rfl, rfl⟩
   ·refine bG (aC (aA (to (sla 0 (aZ a) rfl rfl iQ) (tm (.d (Z17 e)) ?_))));refine bF rfl (rM (aH rfl) (.func _ _ call115) rfl rfl (aIl _ _ h)) ?_;rintro _ ⟨_, _, ⟨r8, h, rfl, rfl⟩, rfl⟩;refine tm (.tup [cM aW r8.1, .b r8.2]) (to (sex rfl rfl) (to (sex rfl rfl) (ta (cM aW r8.1) (ta (.b r8.2) (aB (aC (aC (aA (tm (.b r8.2) (to (sn rfl) (aB ?_)))))))))));refine tip h (fun c9 h => ?_) (fun c9 h => ?_)
    ·refine aC (aA (ta (cM aW (none : Option bA)) (ta (.i 72) (aB ?_))));exact bY ⟨rfl, _, [], [.box b1 0 (aZ a)], _, .two (.tmp 4 (v := cM aW (none : Option bA)) rfl) (.tmp 5 (v := .i 72) rfl), .refl _, .same _, ((none : Option bA), 72), h, rfl, rfl⟩
    ·refine bG (aC (aA (tm (cM aW r8.1) (ta (cM aW r8.1) (ta (.i 0) (aB ?_))))));exact bY ⟨rfl, _, [], [.box b1 0 (aZ a)], _, .two (.tmp 4 (v := cM aW r8.1) rfl) (.tmp 5 (v := .i 0) rfl), .refl _, .same _, (r8.1, 0), h, rfl, rfl⟩

theorem aJv (b : aN) (c : List aF) {Q : (Int × Int) → Prop} (h : sD b c Q) : dR Tryz.prog 30 (Z68 b c) [] (fun r' o' => ∃ (r : Int × Int), Q r ∧ r' = .tup [.i r.1, .i r.2] ∧ o' = []) := by
 unfold sD at h;refine gQ func30 rfl (rs := [.tmp 4, .tmp 5]) results30 ntmps30 (Nat.le_of_ble_eq_true rfl) ?_;refine aC (aA ?_);refine bF rfl (cT (v := .agg (aZ b)) (aH rfl) rfl rfl rfl) ?_;rintro _ ⟨b1, rfl⟩;refine ta (.i 0) (ta (.i 0) (aB (aC (aA (to (sla 0 (aZ b) rfl rfl iQ) (tm (.d (Z17 c)) ?_))))));refine bF rfl (rM (aH rfl) (.func _ _ call53) rfl rfl (sX _ _ h)) ?_;rintro _ ⟨_, _, ⟨r2, h, rfl, rfl⟩, rfl⟩;refine tm (.tup [cM aW r2.1, .i r2.2]) (to (sex rfl rfl) (to (sex rfl rfl) (ta (cM aW r2.1) (ta (.i r2.2) (aB (aC (aC (aA (tm (.i r2.2) (to (scm rfl rfl rfl) (aB ?_)))))))))));refine tip h (fun c3 h => ?_) (fun c3 h => ?_)
 ·refine aC (aA (tm (.i r2.2) (ta (.i 0) (ta (.i r2.2) (aB ?_)))));exact bY ⟨rfl, _, [], [.box b1 0 (aZ b)], _, .two (.tmp 4 (v := .i 0) rfl) (.tmp 5 (v := .i r2.2) rfl), .refl _, .same _, (0, r2.2), h, rfl, rfl⟩
 ·refine bG (aC ?_);obtain ⟨x4, h5, h⟩ := dN h;obtain ⟨x6, h7, h⟩ := dN h;refine eD mix 12 [] [(23, .i (w64 ((x4.Tree.Slots.length : Int) - 1))), (28, .i ((((x6.won.map fun p : aD × Int => ((fun a : aD => Value.agg ((aK a).map bJ).toArray) p.1, aL p.2))).length : Int)))] ?_ ?_
  ·refine ⟨[(17, 0, cM aW r2.1), (18, 1, .cp [.j x4.Tree.Rounds, .sl 1 (x4.Tree.Slots.map aL), .sl 1 (x4.players.map aL), .mp false (x4.won.map fun p : aD × Int => ((fun a : aD => Value.agg ((aK a).map bJ).toArray) p.1, aL p.2))]), (19, 2, .cp [.j x4.Tree.Rounds, .sl 1 (x4.Tree.Slots.map aL)]), (20, 3, .cp [.sl 1 (x4.Tree.Slots.map aL)]), (21, 4, .d (.sl 1 (x4.Tree.Slots.map aL))), (22, 5, .i (x4.Tree.Slots.length : Int)), (23, 6, .i (w64 ((x4.Tree.Slots.length : Int) - 1))), (24, 7, cM aW r2.1), (25, 8, .cp [.j x6.Tree.Rounds, .sl 1 (x6.Tree.Slots.map aL), .sl 1 (x6.players.map aL), .mp false (x6.won.map fun p : aD × Int => ((fun a : aD => Value.agg ((aK a).map bJ).toArray) p.1, aL p.2))]), (26, 9, .cp [.mp false (x6.won.map fun p : aD × Int => ((fun a : aD => Value.agg ((aK a).map bJ).toArray) p.1, aL p.2))]), (27, 10, .d (.mp false (x6.won.map fun p : aD × Int => ((fun a : aD => Value.agg ((aK a).map bJ).toArray) p.1, aL p.2)))), (28, 11, .i ((((x6.won.map fun p : aD × Int => ((fun a : aD => Value.agg ((aK a).map bJ).toArray) p.1, aL p.2))).length : Int)))], ?_, ?_⟩
   · exact dk [0, 1, 2, 3, 4, 5, 6, 0, 8, 9, 10, 11] ⟨go (zm (cM aW r2.1)),
 go fun S hS => rN (enc := aW) (aH rfl) (aX hS rfl) h5,
 go (zfc [.j x4.Tree.Rounds, .sl 1 (x4.Tree.Slots.map aL)] rfl pZ),
 go (zfc [.sl 1 (x4.Tree.Slots.map aL)] rfl eX),
 go (zlc rfl cZ),
 go (zle rfl cF.of),
 go (zar rfl rfl rfl),
 go (zm (cM aW r2.1)),
 go fun S hS => rN (enc := aW) (aH rfl) (aX hS rfl) h7,
 go (zfc [.mp false (x6.won.map fun p : aD × Int => ((fun a : aD => Value.agg ((aK a).map bJ).toArray) p.1, aL p.2))] rfl qA),
 go (zlc rfl uS),
 go fun S hS => aPj (aH rfl) underlying139 (aX hS rfl) rfl, trivial⟩
   · exact cN (aR rfl (aR rfl (bB trivial)))
  ·refine to (sar rfl rfl rfl) (ta (.i ((w64 ((w64 ((x4.Tree.Slots.length : Int) - 1)) - (((x6.won.map fun p : aD × Int => ((fun a : aD => Value.agg ((aK a).map bJ).toArray) p.1, aL p.2))).length : Int))))) (ta (.i 0) (aB ?_)));exact bY ⟨rfl, _, [], [.box b1 0 (aZ b)], _, .two (.tmp 4 (v := .i ((w64 ((w64 ((x4.Tree.Slots.length : Int) - 1)) - (((x6.won.map fun p : aD × Int => ((fun a : aD => Value.agg ((aK a).map bJ).toArray) p.1, aL p.2))).length : Int))))) rfl) (.tmp 5 (v := .i 0) rfl), .refl _, .same _, (w64 ((w64 ((x4.Tree.Slots.length : Int) - 1)) - (((x6.won.map fun p : aD × Int => ((fun a : aD => Value.agg ((aK a).map bJ).toArray) p.1, aL p.2))).length : Int)), 0), h, rfl, rfl⟩

theorem aJw (a0 : aN) (a1 : List aF) {r : Int × Int} (h : sY a0 a1 = some r) : Fn Tryz.prog 30 (Z68 a0 a1) ((fun x : Int × Int => .tup [.i x.1, .i x.2]) r) := aCl (enc := fun x : Int × Int => .tup [.i x.1, .i x.2]) (aJv a0 a1 (aGx a0 a1 h (fun x => x = r) rfl))

theorem aLs (g : aN) (j : List aF) (a : List Int) {Q : ((Option bA) × (List Int) × Int) → Prop} (h : pC g j a Q) : dR Tryz.prog 54 [.agg (aZ g), .d (Z17 j), .d (Z18 a)] [] (fun r' o' => ∃ (r : (Option bA) × (List Int) × Int), Q r ∧ r' = .tup [cM aW r.1, .d (.sl 1 (r.2.1.map aL)), .i r.2.2] ∧ o' = []) := by
 unfold pC at h;refine gQ func54 rfl (rs := [.tmp 6, .tmp 7, .tmp 8]) results54 ntmps54 (Nat.le_of_ble_eq_true rfl) ?_;refine aC (aA ?_);refine bF rfl (cT (v := .agg (aZ g)) (aH rfl) rfl rfl rfl) ?_;rintro _ ⟨b1, rfl⟩;refine ta (cM aW (none : Option bA)) (to (nH 3 1 (.inl rfl) (aH rfl)) ?_);refine ta (.i 0) (aB (aC (aA (to (sla 0 (aZ g) rfl rfl iQ) (tm (.d (Z17 j)) ?_)))));refine bF rfl (rM (aH rfl) (.func _ _ call53) rfl rfl (sX _ _ h)) ?_;rintro _ ⟨_, _, ⟨r3, h, rfl, rfl⟩, rfl⟩;refine tm (.tup [cM aW r3.1, .i r3.2]) (to (sex rfl rfl) (to (sex rfl rfl) (ta (cM aW r3.1) (ta (.i r3.2) (aB (aC (aC (aA (tm (.i r3.2) (to (scm rfl rfl rfl) (aB ?_)))))))))));refine tip h (fun c4 h => ?_) (fun c4 h => ?_)
 ·refine aC (aA (tm (.i r3.2) (ta (cM aW (none : Option bA)) (to (nH 3 1 (.inl rfl) (aH rfl)) ?_))));refine ta (.i r3.2) (aB ?_);exact bY ⟨rfl, _, [], [.box b1 0 (aZ g), .arr (.slice none 0 0) 3 1 (([] : List Int).map aL), .arr (.slice none 0 0) 3 1 (([] : List Int).map aL)], _, .three (.tmp 6 (v := cM aW (none : Option bA)) rfl) (.tmp 7 (v := .d Z62) rfl) (.tmp 8 (v := .i r3.2) rfl), .refl _, aBe (.cons (.same _) (.cons (.d (cY 2 rfl (bL (f := aL) fun _ => rfl))) (.cons (.same _) .nil))), ((none : Option bA), ([] : List Int), r3.2), h, rfl, rfl⟩
 ·refine bG (aC (aC (aA (tm (Z69 a) (to (sle rfl cF.of) (tm (.i 0) (aB (cH ?_))))))));refine sT [20, 21] (fun (s6 : (Option bA) × Int × (List Int) × Value) => [(6, cM aW s6.1), (7, .d (.lit s6.2.2.2)), (22, .i s6.2.1)]) (fun (s6 : (Option bA) × Int × (List Int) × Value) => [.arr s6.2.2.2 3 1 (s6.2.2.1.map aL)]) (fun (k : Nat) (s6 : (Option bA) × Int × (List Int) × Value) => lN Q a (a.length : Int) k s6.1 s6.2.1 s6.2.2.1) (fun _ h => h) (r3.1, 0, ([] : List Int), (.slice none 0 0)) h (bD [1] rfl rfl (aR rfl (aR rfl (aR rfl (bB (ae rfl)))))) ?_;rintro k8 ⟨c, e, b, w7⟩ h;simp only [lN] at h;refine aC (aA (to (scm rfl rfl rfl) (aB (aC ?_))));refine tip h (fun c9 h => ?_) (fun c9 h => ?_)
  ·refine bG (aC (cH (aC (aA ?_))));obtain ⟨l, n, h⟩ := dN h;refine to (six rfl rfl cF.of (cL aL n)) (to (slc rfl aT) (ta (.i l) (aB (aC (aC (aA (tm (.i l) ?_)))))));obtain ⟨y, o, h⟩ := dN h;refine to (scr call116 (fG _ _ _ o)) (to (sn rfl) (aB ?_));refine tip h (fun p h => ?_) (fun p h => ?_)
   ·refine aC (aA (ta (cM aW (none : Option bA)) (to (nH 3 1 (.inl rfl) (aH rfl)) ?_)));refine ta (.i 1) (aB ?_);exact bY ⟨rfl, _, [], [.arr w7 3 1 (b.map aL), .arr (.slice none 0 0) 3 1 (([] : List Int).map aL)], _, .three (.tmp 6 (v := cM aW (none : Option bA)) rfl) (.tmp 7 (v := .d Z62) rfl) (.tmp 8 (v := .i 1) rfl), .refl _, aBe (.cons (.same _) (.cons (.d (cY 1 rfl (bL (f := aL) fun _ => rfl))) (.cons (.same _) .nil))), ((none : Option bA), ([] : List Int), 1), h, rfl, rfl⟩
   ·refine bG (aA (tm (.d (.lit w7)) (tm (cM aW c) ?_)));obtain ⟨q, s, h⟩ := dN h;refine to (rN (enc := aW) (aH rfl) rfl s) ?_;refine to (sfc [.sl 1 (q.players.map aL)] rfl lA) (to (slc rfl cZ) (tm (.i l) ?_));obtain ⟨t, u, h⟩ := dN h;refine to (scr call117 (sS _ _ u)) (to (eM (aH rfl) cF rfl rfl (rows := ([t]).map aL) rfl (bL (f := aL) fun _ => rfl) rfl (by decide)) ?_);obtain ⟨w, x, h⟩ := dN h;refine bF rfl (eF (i := 0) (aH rfl) cF rfl rfl rfl (fun _ => rfl) x rfl) ?_;rintro _ ⟨m, rfl⟩;refine ta (.d (.lit m)) ?_;refine gO ?_;refine aA (to (sar rfl rfl rfl) (tm (.i (w64 (e + 1))) (aB ?_)));exact ⟨(c, w64 (e + 1), w, m), h, bD [0] rfl rfl (aR rfl (aR rfl (aR rfl (bB (ae rfl)))))⟩
  ·refine dP ?_;refine .inl ⟨rfl, ?_⟩;simp only [wC] at h;refine aC (aA (tm (cM aW c) (tm (.d (.lit w7)) (ta (cM aW c) (ta (.d (.lit w7)) (ta (.i 0) (aB ?_)))))));exact bY ⟨rfl, _, [], [.arr w7 3 1 (b.map aL)], _, .three (.tmp 6 (v := cM aW c) rfl) (.tmp 7 (v := .d (.lit w7)) rfl) (.tmp 8 (v := .i 0) rfl), .refl _, aBe (.cons (.same _) (.cons (.d (cY 0 rfl (bL (f := aL) fun _ => rfl))) (.cons (.same _) .nil))), (c, b, 0), h, rfl, rfl⟩

theorem wR (c : bA) (f : Int) {r : Int} (h : lL c f = some r) : Fn Tryz.prog 57 [.cp (aW c), .i f] (.i r) := by
 unfold lL at h;refine oT [.tmp 4] func57 results57 ntmps57 ?_;refine aC (aA (ta (.i 0) (aB (aC (aC (aA (tm (Z2 c) (to (eB (aH rfl) rfl) ?_))))))));refine to (sfc [.j c.Tree.Rounds, .sl 1 (Z27 c)] rfl pZ) (to (sfc [.j c.Tree.Rounds] rfl iV) (to (slc rfl aT) (tm (.i 0) (aB (cH ?_)))));refine eO (S := Int) [0, 1, 12] (fun s1 => [(13, .i s1)]) (fun s1 => []) (fun k s1 => iD c f c.Tree.Rounds k s1) (fun _ => rfl) (0) h (bD [] rfl rfl (aR rfl (bB (ae rfl)))) ?_;rintro k2 e h;simp only [iD] at h;refine aC (aA (to (scm rfl rfl rfl) (aB (aC ?_))));refine tih h (fun c3 h => ?_) (fun c3 h => ?_)
 ·refine bG (aC (cH (aC (aA (tm (.i e) (ta (.i e) (aB (aC ?_))))))));obtain ⟨r4, h5, h⟩ := bns h;refine eD mix 12 [0, 1, 5, 12, 13] [(6, .i (cK r4 0 c.won)), (26, .b (cO r4 c.won))] ?_ ?_
  ·refine ⟨[(17, 0, .cp [.j c.Tree.Rounds, .sl 1 (Z27 c), .sl 1 (Z48 c), .mp false (c.won.map fun p : aD × Int => ((fun a : aD => Value.agg ((aK a).map bJ).toArray) p.1, aL p.2))]), (18, 1, .cp [.j c.Tree.Rounds, .sl 1 (Z27 c), .sl 1 (Z48 c), .mp false (c.won.map fun p : aD × Int => ((fun a : aD => Value.agg ((aK a).map bJ).toArray) p.1, aL p.2))]), (19, 2, .cp [.mp false (c.won.map fun p : aD × Int => ((fun a : aD => Value.agg ((aK a).map bJ).toArray) p.1, aL p.2))]), (20, 3, .d (.mp false (c.won.map fun p : aD × Int => ((fun a : aD => Value.agg ((aK a).map bJ).toArray) p.1, aL p.2)))), (21, 4, .i e), (22, 5, .i f), (23, 6, .agg (aK r4)), (24, 7, .tup [.i (cK r4 0 c.won), .b (cO r4 c.won)]), (16, 8, .tup [.i (cK r4 0 c.won), .b (cO r4 c.won)]), (25, 9, .i (cK r4 0 c.won)), (26, 10, .b (cO r4 c.won)), (6, 11, .i (cK r4 0 c.won))], ?_, ?_⟩
   · exact dk [0, 1, 2, 3, 0, 0, 506, 407, 8, 9, 9, 10] ⟨go (zm (Z2 c)),
 go fun S hS => eB (aH rfl) (aX hS rfl),
 go (zfc [.mp false (c.won.map fun p : aD × Int => ((fun a : aD => Value.agg ((aK a).map bJ).toArray) p.1, aL p.2))] rfl qA),
 go (zlc rfl uS),
 go (zm (.i e)),
 go (zm (.i f)),
 go fun S hS => cU (aH rfl) (.func _ _ call56) (ev2 (aX hS rfl) (ev2 (aX hS rfl) evn)) rfl (nN _ _ h5),
 go fun S hS => rG (enc := aL) (agg := false) (l := c.won) (z := 0) (a := r4) (aH rfl) tE underlying139 zeroValue3 (fun _ _ => .d (.lit _ rfl)) (aX hS rfl) rfl rfl (aX hS rfl) (lC (enc := aK) r4 rfl),
 go (zm (.tup [.i (cK r4 0 c.won), .b (cO r4 c.won)])),
 go (zex rfl rfl),
 go (zex rfl rfl),
 go (za (.i (cK r4 0 c.won))), trivial⟩
   · exact cN (aR rfl (aR rfl (bB (ae rfl))))
  ·refine ta (.b (cO r4 c.won)) (aB (aC (aA (tm (.b (cO r4 c.won)) (tm (.b (cO r4 c.won)) ?_)))));obtain ⟨b6, h7, h⟩ := bns h;refine bE 10 [0, 1, 5, 12, 13] 38 b6 ?_ ?_
   ·refine bch h7 (fun c9 h7 => ?_) (fun c9 h7 => ?_)
    ·refine tk c9 (sm (.i (cK r4 0 c.won))) (tk c9 (sm (Z2 c)) (tk c9 (eB (aH rfl) rfl) ?_));refine tk c9 (sfc [.sl 1 (Z48 c)] rfl lA) (tk c9 (slc rfl cZ) (tk c9 (sm (.i f)) ?_));obtain ⟨g, j, h7⟩ := bns h7;refine tk c9 (six rfl rfl cF.of (cL aL j)) (tk c9 (slc rfl aT) (tk c9 (scm rfl rfl rfl) (to (spt (.b (!decide ((cK r4 0 c.won) = g))) c9) ?_)));obtain rfl := sIn h7;refine aB (aM rfl (ae rfl) rfl)
    ·refine tp c9 (tp c9 (tp c9 (tp c9 (tp c9 (tp c9 (tp c9 (tp c9 (tp c9 (to (spf Z9 c9) ?_)))))))));obtain rfl := sIn h7;refine aB (aM rfl (ae rfl) rfl)
   ·refine aB ?_;refine tih h (fun c8 h => ?_) (fun c8 h => ?_)
    ·refine aC (aA (tm (.i e) (ta (.i e) (aB ?_))));obtain rfl := sIn h;exact rt
    ·refine eY ?_;refine aA (to (sar rfl rfl rfl) (tm (.i (w64 (e + 1))) (aB ?_)));exact ⟨(w64 (e + 1)), h, bD [] rfl rfl (aR rfl (bB (ae rfl)))⟩
 ·refine dP ?_;refine .inl ⟨rfl, ?_⟩;simp only [rO] at h;refine aC (aA (tm (Z2 c) (to (eB (aH rfl) rfl) ?_)));refine to (sfc [.j c.Tree.Rounds, .sl 1 (Z27 c)] rfl pZ) (to (sfc [.j c.Tree.Rounds] rfl iV) (to (slc rfl aT) (ta (.i c.Tree.Rounds) (aB ?_))));obtain rfl := sIn h;exact rt

theorem vR (f : bA) (e : aD) (c : Int) {r : Int} (h : kX f e c = some r) : Fn Tryz.prog 142 [.cp (aW f), .agg (aK e), .i c] (.i r) := by
 unfold kX at h;refine oT [.tmp 6] func142 results142 ntmps142 ?_;refine aC (aA ?_);refine bF rfl (cT (v := .agg (aK e)) (aH rfl) rfl rfl rfl) ?_;rintro _ ⟨b1, rfl⟩;refine ta (.i 0) (aB (aC (aA (tfl 0 rfl rfl aKw rfl aT (to (sar rfl rfl rfl) (tm (.i c) (to (sar rfl rfl rfl) (ta (.i (Z60 e c)) (aB (aC (aC (aA ?_))))))))))));refine tfl 0 rfl rfl oX rfl aT (to (scm rfl rfl rfl) (aB ?_));refine tih h (fun c2 h => ?_) (fun c2 h => ?_)
 ·refine aC (aA (tm (Z2 f) (to (eB (aH rfl) rfl) ?_)));refine to (sfc [.sl 1 (Z48 f)] rfl lA) (to (slc rfl cZ) (tm (.i (Z60 e c)) ?_));obtain ⟨x3, h4, h⟩ := bns h;refine to (six rfl rfl cF.of (cL aL h4)) (to (slc rfl aT) (ta (.i x3) (aB ?_)));obtain rfl := sIn h;refine bX (bP (bS (l := [6]) (ae rfl))) ?_;exact rt
 ·refine bG (aC (aC ?_));refine eD mix 14 [] [(8, .i (cK (Z4 e c) 0 f.won)), (37, .b (cO (Z4 e c) f.won))] ?_ ?_
  ·refine ⟨[(26, 0, .cp [.j f.Tree.Rounds, .sl 1 (Z27 f), .sl 1 (Z48 f), .mp false (f.won.map fun p : aD × Int => ((fun a : aD => Value.agg ((aK a).map bJ).toArray) p.1, aL p.2))]), (27, 1, .cp [.j f.Tree.Rounds, .sl 1 (Z27 f), .sl 1 (Z48 f), .mp false (f.won.map fun p : aD × Int => ((fun a : aD => Value.agg ((aK a).map bJ).toArray) p.1, aL p.2))]), (28, 2, .cp [.mp false (f.won.map fun p : aD × Int => ((fun a : aD => Value.agg ((aK a).map bJ).toArray) p.1, aL p.2))]), (29, 3, .d (.mp false (f.won.map fun p : aD × Int => ((fun a : aD => Value.agg ((aK a).map bJ).toArray) p.1, aL p.2)))), (30, 4, .bp b1 0 0), (31, 5, .i e.round), (32, 6, .i (w64 (e.round - 1))), (33, 7, .i (Z60 e c)), (34, 8, .agg (aK (Z4 e c))), (35, 9, .tup [.i (cK (Z4 e c) 0 f.won), .b (cO (Z4 e c) f.won)]), (25, 10, .tup [.i (cK (Z4 e c) 0 f.won), .b (cO (Z4 e c) f.won)]), (36, 11, .i (cK (Z4 e c) 0 f.won)), (37, 12, .b (cO (Z4 e c) f.won)), (8, 13, .i (cK (Z4 e c) 0 f.won))], ?_, ?_⟩
   · exact dk [0, 1, 2, 3, 0, 5, 6, 0, 708, 409, 10, 11, 11, 12] ⟨go (zm (Z2 f)),
 go fun S hS => eB (aH rfl) (aX hS rfl),
 go (zfc [.mp false (f.won.map fun p : aD × Int => ((fun a : aD => Value.agg ((aK a).map bJ).toArray) p.1, aL p.2))] rfl qA),
 go (zlc rfl uS),
 go (zf rfl oX),
 go (zl 0 rfl rfl rfl aT),
 go (zar rfl rfl rfl),
 go (zm (.i (Z60 e c))),
 go fun S hS => cQ (aH rfl) yW (zs := [.j 0, .j 0]) rfl rfl rfl (pa2 (aX hS rfl) (pa2 (aX hS rfl) pan)) (es := [.j (w64 (e.round - 1)), .j (Z60 e c)]) rfl,
 go fun S hS => rG (enc := aL) (agg := false) (l := f.won) (z := 0) (a := (Z4 e c)) (aH rfl) tE underlying139 zeroValue3 (fun _ _ => .d (.lit _ rfl)) (aX hS rfl) rfl rfl (aX hS rfl) (lC (enc := aK) (Z4 e c) rfl),
 go (zm (.tup [.i (cK (Z4 e c) 0 f.won), .b (cO (Z4 e c) f.won)])),
 go (zex rfl rfl),
 go (zex rfl rfl),
 go (za (.i (cK (Z4 e c) 0 f.won))), trivial⟩
   · exact cN (aR rfl (aR rfl (bB trivial)))
  ·refine ta (.b (cO (Z4 e c) f.won)) (aB (aC (aA (tm (.b (cO (Z4 e c) f.won)) (aB ?_)))));refine tih h (fun c5 h => ?_) (fun c5 h => ?_)
   ·refine aC (aA (tm (.i (cK (Z4 e c) 0 f.won)) (ta (.i (cK (Z4 e c) 0 f.won)) (aB ?_))));obtain rfl := sIn h;refine bX (bP (bS (l := [6]) (ae rfl))) ?_;exact rt
   ·refine bG (aC (aA (ta (.i (-2)) (aB ?_))));obtain rfl := sIn h;refine bX (bP (bS (l := [6]) (ae rfl))) ?_;exact rt

theorem aAo {S : Type} (J : S → MO → Prop) (ly : Nat) (f : S → aD → cA → Option S) (hy : ∀ (s : S) (m : MO) (x0 : aD) (x1 : cA) (s' : S), J s m → f s x0 x1 = some s' → aDx Tryz.prog ly [.agg (aK x0), .agg (dK x1)] m (J s')) (e : bA) (sy : S) (m0 : MO) (hj : J sy m0) {r : S} (h : iZ e f sy = some r) : dR Tryz.prog 82 [.cp (aW e), .d (.lit (yv ly))] [m0] (fun _ o' => ∃ m', J r m' ∧ o' = [m']) := by
 unfold iZ at h;refine tO func82 rfl (rs := []) results82 ntmps82 (Nat.le_of_ble_eq_true rfl) ?_;refine aC (aA (tm (Z2 e) (to (eB (aH rfl) rfl) ?_)));refine to (sfc [.j e.Tree.Rounds, .sl 1 (Z27 e)] rfl pZ) (to (sfc [.j e.Tree.Rounds] rfl iV) (to (slc rfl aT) (tm (.i 0) (aB (cH ?_)))));refine eO (S := Int × ({x : S × MO // J x.1 x.2})) [0, 1, 11] (fun s1 => [(12, .i s1.1)]) (fun s1 => [s1.2.1.2]) (fun k s1 => dH f e e.Tree.Rounds k s1.1 s1.2.1.1) (fun _ => rfl) (0, ⟨(sy, m0), hj⟩) h (bD [0] rfl rfl (aR rfl (bB (ae rfl)))) ?_;rintro k3 ⟨b, y2⟩ h;simp only [dH] at h;refine aC (aA (to (scm rfl rfl rfl) (aB (aC ?_))));refine tih h (fun c4 h => ?_) (fun c4 h => ?_)
 ·refine bG (aC (cH (aC (aA (tm (.i b) (ta (.i b) (aB (aC (aA (tm (Z2 e) (to (eB (aH rfl) rfl) ?_)))))))))));refine to (sfc [.j e.Tree.Rounds, .sl 1 (Z27 e)] rfl pZ) (to (sfc [.sl 1 (Z27 e)] rfl eX) (to (slc rfl cZ) (to (sle rfl cF.of) (tm (.i b) (to (sar rfl rfl rfl) ?_)))));obtain ⟨u5, h6, h⟩ := bns h;refine to (aRu (aH rfl) rfl rfl (aFu h6)) ?_;refine tm (.i 0) (aB ?_);refine aKi ?_;refine eO (S := Int × ({x : S × MO // J x.1 x.2})) [0, 1, 4, 11, 12, 23] (fun s7 => [(24, .i s7.1)]) (fun s7 => [s7.2.1.2]) (fun k s7 => eW f (dH f e e.Tree.Rounds k3) e b e.Tree.Rounds b ((e.Tree.Slots.length : Int).fdiv (2 ^ (min (w64 (b + 1)).toNat 64))) k s7.1 s7.2.1.1) (fun _ => rfl) (0, ⟨(y2.1.1, y2.1.2), y2.2⟩) h (bD [0] rfl rfl (aR rfl (bB (ae rfl)))) ?_;rintro k9 ⟨c, y8⟩ h;simp only [eW] at h;refine aC (aA (to (scm rfl rfl rfl) (aB (aC ?_))));refine tih h (fun o h => ?_) (fun o h => ?_)
  ·refine bG (aC (cH (aC (aA (tm (.i c) (ta (.i c) (aB (aC (aA (tm (.i b) (tm (.i c) (to (cQ (aH rfl) yW (zs := [.j 0, .j 0]) rfl rfl rfl rfl (es := [.j b, .j c]) rfl) ?_))))))))))));refine bF rfl (cG (zs := [.j 0, .j 0]) (aH rfl) zeroValue143 rfl rfl) ?_;rintro _ ⟨y, rfl⟩;refine to (sst 1 rfl rfl sizeOf143 (aK (aD.mk b c))) (aB (aC ?_));obtain ⟨g, q, h⟩ := bns h;obtain ⟨j, t, h⟩ := bns h;refine eD mix 11 [0, 1, 4, 11, 12, 23, 24] [(30, .d (.lit (yv ly))), (31, .agg (aK (aD.mk b c))), (40, .agg (dK (cA.mk b c g j)))] ?_ ?_
   ·refine ⟨[(30, 0, .d (.lit (yv ly))), (31, 1, .agg (aK (aD.mk b c))), (32, 2, .i b), (33, 3, .i c), (34, 4, .cp [.j e.Tree.Rounds, .sl 1 (Z27 e), .sl 1 (Z48 e), .mp false (e.won.map fun p : aD × Int => ((fun a : aD => Value.agg ((aK a).map bJ).toArray) p.1, aL p.2))]), (35, 5, .agg (aK (aD.mk b c))), (36, 6, .i g), (37, 7, .cp [.j e.Tree.Rounds, .sl 1 (Z27 e), .sl 1 (Z48 e), .mp false (e.won.map fun p : aD × Int => ((fun a : aD => Value.agg ((aK a).map bJ).toArray) p.1, aL p.2))]), (38, 8, .agg (aK (aD.mk b c))), (39, 9, .i j), (40, 10, .agg (dK (cA.mk b c g j)))], ?_, ?_⟩
    · exact dk [0, 0, 0, 0, 0, 0, 506, 0, 0, 809, 3040710] ⟨go (zm (.d (.lit (yv ly)))),
 go (zla 1 (aK (aD.mk b c)) rfl rfl iL),
 go (zm (.i b)),
 go (zm (.i c)),
 go (zm (Z2 e)),
 go (zla 1 (aK (aD.mk b c)) rfl rfl iL),
 go fun S hS => eE (aH rfl) (.func _ _ call142) (ev2 (aX hS rfl) (ev2 (aX hS rfl) (ev2 rfl evn))) rfl (BVs.refl _ _) (vR _ _ _ q) rfl,
 go (zm (Z2 e)),
 go (zla 1 (aK (aD.mk b c)) rfl rfl iL),
 go fun S hS => eE (aH rfl) (.func _ _ call142) (ev2 (aX hS rfl) (ev2 (aX hS rfl) (ev2 rfl evn))) rfl (BVs.refl _ _) (vR _ _ _ t) rfl,
 go fun S hS => cQ (aH rfl) aYn (zs := [.j 0, .j 0, .j 0, .j 0]) rfl rfl rfl (pa2 (aX hS rfl) (pa2 (aX hS rfl) (pa2 (aX hS rfl) (pa2 (aX hS rfl) pan)))) (es := [.j b, .j c, .j g, .j j]) rfl, trivial⟩
    · exact cN (aR rfl (aR rfl (aR rfl (bB (ae rfl)))))
   ·obtain ⟨u, v, h⟩ := bns h;refine aOp rfl (aXh (aH rfl) rfl rfl rfl rfl (hy _ _ _ _ _ y8.2 v)) ?_;rintro _ ⟨w, n, rfl⟩;refine to (sn rfl) (aB ?_);refine yL rfl (fun l => ?_) (fun l => ?_)
    ·exact absurd l (by decide)
    ·refine eY ?_;refine aA (to (sar rfl rfl rfl) (tm (.i (w64 (c + 1))) (aB ?_)));exact ⟨(w64 (c + 1), ⟨(u, w), n⟩), h, bD [0] rfl rfl (aR rfl (bB (ae rfl)))⟩
  ·refine dP ?_;refine .inl ⟨rfl, ?_⟩;simp only [jD] at h;simp only [oB] at h;refine aA (to (sar rfl rfl rfl) (tm (.i (w64 (b + 1))) (aB ?_)));exact ⟨(w64 (b + 1), ⟨(y8.1.1, y8.1.2), y8.2⟩), h, bD [0] rfl rfl (aR rfl (bB (ae rfl)))⟩
 ·refine dP ?_;refine .inl ⟨rfl, ?_⟩;simp only [oA] at h;obtain rfl := sIn h;exact ⟨_, [y2.1.2], [], _, .none, .refl _, .same _, y2.1.2, y2.2, rfl⟩

theorem aEc (e : aN) (g : List aF) (a : Int) (c : Int) {Q : ((Option bA) × aD × Int) → Prop} (h : oP e g a c Q) : dR Tryz.prog 84 (Z75 e g a c) [] (fun r' o' => ∃ (r : (Option bA) × aD × Int), Q r ∧ r' = .tup [cM aW r.1, .agg (aK r.2.1), .i r.2.2] ∧ o' = []) := by
 unfold oP at h;refine gQ func84 rfl (rs := [.tmp 8, .cell 9 143, .tmp 10]) results84 ntmps84 (Nat.le_of_ble_eq_true rfl) ?_;refine aC (aA ?_);refine bF rfl (cT (v := .agg (aZ e)) (aH rfl) rfl rfl rfl) ?_;rintro _ ⟨b1, rfl⟩;refine ta (cM aW (none : Option bA)) ?_;refine bF rfl (cG (zs := [.j 0, .j 0]) (aH rfl) zeroValue143 rfl rfl) ?_;rintro _ ⟨b2, rfl⟩;refine ta (.i 0) (aB (aC (aA (to (sla 0 (aZ e) rfl rfl iQ) (tm (.d (Z17 g)) ?_)))));refine bF rfl (rM (aH rfl) (.func _ _ call53) rfl rfl (sX _ _ h)) ?_;rintro _ ⟨_, _, ⟨r3, h, rfl, rfl⟩, rfl⟩;refine tm (.tup [cM aW r3.1, .i r3.2]) (to (sex rfl rfl) (to (sex rfl rfl) (ta (cM aW r3.1) (ta (.i r3.2) (aB (aC (aA (tm (.i a) (tm (.i c) (to (cQ (aH rfl) yW (zs := [.j 0, .j 0]) rfl rfl rfl rfl (es := [.j a, .j c]) rfl) ?_))))))))));refine bF rfl (cG (zs := [.j 0, .j 0]) (aH rfl) zeroValue143 rfl rfl) ?_;rintro _ ⟨b4, rfl⟩;refine to (sst 2 rfl rfl sizeOf143 (aK (aD.mk a c))) (aB (aC (aC (aA (tm (.i r3.2) (to (scm rfl rfl rfl) (tm (.b (decide (r3.2 = 0))) ?_)))))));obtain ⟨b5, h6, h⟩ := dN h;refine bE 5 [9, 11, 12, 13] 30 b5 ?_ ?_
 ·refine bch h6 (fun f h6 => ?_) (fun f h6 => ?_)
  ·refine tk f (sla 2 (aK (aD.mk a c)) rfl rfl iL) (tk f (sla 0 (aZ e) rfl rfl iQ) ?_);obtain ⟨j, l, h6⟩ := bns h6;refine tk f (scr call146 (wS _ _ l)) (tk f (sn rfl) (to (spt (.b (!j)) f) ?_));obtain rfl := sIn h6;refine aB (aM rfl (ae rfl) rfl)
  ·refine tp f (tp f (tp f (tp f (to (spf Z9 f) ?_))));obtain rfl := sIn h6;refine aB (aM rfl (ae rfl) rfl)
 ·refine aB ?_;refine tip h (fun c7 h => ?_) (fun c7 h => ?_)
  ·refine aA (ta (.i 1) (aB (aC ?_)));refine fB mix 5 [9] (fun X8 => [(8, cM aW r3.1), (33, .i 1)]) (fun X8 => [.box b1 0 (aZ e), .box b2 0 (aK (aD.mk a c)), .box b4 0 (aK (aD.mk a c))]) ?_ ?_
   ·refine ⟨0, fun X8 => [(31, 0, cM aW r3.1), (32, 1, .agg (aK (aD.mk a c))), (33, 2, .i 1), (8, 3, cM aW r3.1)], fun X8 => [([], .box b1 0 (aZ e)), ([(4, .box b2 0 (aK (aD.mk a c)))], .box b2 0 (aK (aD.mk 0 0))), ([], .box b4 0 (aK (aD.mk a c)))], ?_, ?_⟩
    · exact xok [(0, 5), (0, 5), (0, 0), (1, 5), (2, 0)] ⟨fun _ _ w _ k => xp w (ym k (cM aW r3.1)),
 fun _ _ w _ k => xp w (yla k 2 (aK (aD.mk a c)) rfl (og k rfl rfl) iL),
 fun _ _ w _ k => xp w (ym k (.i 1)),
 fun _ _ w _ k => xp w (ya k (cM aW r3.1)),
 fun _ _ _ _ k => xs 1 k rfl rfl (qX (i := 1) (aX k rfl) (og k rfl rfl) (aX k rfl) rfl rfl sizeOf143 rfl (aH rfl) (Nat.le_of_ble_eq_true rfl) (ds' := (aK (aD.mk a c))) rfl), trivial⟩
    · exact fun X8 => cN (aR rfl (aR rfl (bB (ae rfl))))
   ·intro X8;refine ta (.i 1) (aB ?_);exact bY ⟨rfl, _, [], [.box b1 0 (aZ e), .box b2 0 (aK (aD.mk a c)), .box b4 0 (aK (aD.mk a c))], _, .three (.tmp 8 (v := cM aW r3.1) rfl) (.cell 9 143 rfl (i := 1) rfl iL (es := (aK (aD.mk a c))) rfl rfl) (.tmp 10 (v := .i 1) rfl), .refl _, .same _, (r3.1, (aD.mk a c), 1), h, rfl, rfl⟩
  ·refine bG (aC ?_);refine fB mix 5 [9] (fun X9 => [(8, cM aW r3.1), (33, .i r3.2)]) (fun X9 => [.box b1 0 (aZ e), .box b2 0 (aK (aD.mk a c)), .box b4 0 (aK (aD.mk a c))]) ?_ ?_
   ·refine ⟨0, fun X9 => [(31, 0, cM aW r3.1), (32, 1, .agg (aK (aD.mk a c))), (33, 2, .i r3.2), (8, 3, cM aW r3.1)], fun X9 => [([], .box b1 0 (aZ e)), ([(4, .box b2 0 (aK (aD.mk a c)))], .box b2 0 (aK (aD.mk 0 0))), ([], .box b4 0 (aK (aD.mk a c)))], ?_, ?_⟩
    · exact xok [(0, 5), (0, 5), (0, 0), (1, 5), (2, 0)] ⟨fun _ _ w _ k => xp w (ym k (cM aW r3.1)),
 fun _ _ w _ k => xp w (yla k 2 (aK (aD.mk a c)) rfl (og k rfl rfl) iL),
 fun _ _ w _ k => xp w (ym k (.i r3.2)),
 fun _ _ w _ k => xp w (ya k (cM aW r3.1)),
 fun _ _ _ _ k => xs 1 k rfl rfl (qX (i := 1) (aX k rfl) (og k rfl rfl) (aX k rfl) rfl rfl sizeOf143 rfl (aH rfl) (Nat.le_of_ble_eq_true rfl) (ds' := (aK (aD.mk a c))) rfl), trivial⟩
    · exact fun X9 => cN (aR rfl (aR rfl (bB (ae rfl))))
   ·intro X9;refine ta (.i r3.2) (aB ?_);exact bY ⟨rfl, _, [], [.box b1 0 (aZ e), .box b2 0 (aK (aD.mk a c)), .box b4 0 (aK (aD.mk a c))], _, .three (.tmp 8 (v := cM aW r3.1) rfl) (.cell 9 143 rfl (i := 1) rfl iL (es := (aK (aD.mk a c))) rfl rfl) (.tmp 10 (v := .i r3.2) rfl), .refl _, .same _, (r3.1, (aD.mk a c), r3.2), h, rfl, rfl⟩

theorem aGz (f : aN) (g : List aF) (c : Int) (e : Int) {Q : (Int × Int) → Prop} (h : pN f g c e Q) : dR Tryz.prog 31 (Z75 f g c e) [] (fun r' o' => ∃ (r : Int × Int), Q r ∧ r' = .tup [.i r.1, .i r.2] ∧ o' = []) := by
 unfold pN at h;refine gQ func31 rfl (rs := [.tmp 8, .tmp 9]) results31 ntmps31 (Nat.le_of_ble_eq_true rfl) ?_;refine aC (aA ?_);refine bF rfl (cT (v := .agg (aZ f)) (aH rfl) rfl rfl rfl) ?_;rintro _ ⟨b1, rfl⟩;refine ta (.i 0) (ta (.i 0) (aB (aC (aA (to (sla 0 (aZ f) rfl rfl iQ) (tm (.d (Z17 g)) (tm (.i c) (tm (.i e) ?_))))))));refine bF rfl (rM (aH rfl) (.func _ _ call84) rfl rfl (aEc _ _ _ _ h)) ?_;rintro _ ⟨_, _, ⟨r2, h, rfl, rfl⟩, rfl⟩;refine tm (.tup [cM aW r2.1, .agg (aK r2.2.1), .i r2.2.2]) (to (sex rfl rfl) (to (sex rfl rfl) (to (sex rfl rfl) ?_)));refine bF rfl (cG (zs := [.j 0, .j 0]) (aH rfl) zeroValue143 rfl rfl) ?_;rintro _ ⟨b3, rfl⟩;refine ta (cM aW r2.1) (to (sst 1 rfl rfl sizeOf143 (aK r2.2.1)) (ta (.i r2.2.2) (aB (aC (aC (aA (tm (.i r2.2.2) (to (scm rfl rfl rfl) (aB ?_)))))))));refine tip h (fun c4 h => ?_) (fun c4 h => ?_)
 ·refine aC (aA (tm (.i r2.2.2) (ta (.i 0) (ta (.i r2.2.2) (aB ?_)))));exact bY ⟨rfl, _, [], [.box b1 0 (aZ f), .box b3 0 (aK r2.2.1)], _, .two (.tmp 8 (v := .i 0) rfl) (.tmp 9 (v := .i r2.2.2) rfl), .refl _, .same _, (0, r2.2.2), h, rfl, rfl⟩
 ·refine bG (aC ?_);obtain ⟨x5, h6, h⟩ := dN h;refine eD mix 10 [] [(13, .i (cK r2.2.1 0 x5.won)), (35, .b (cO r2.2.1 x5.won))] ?_ ?_
  ·refine ⟨[(28, 0, cM aW r2.1), (29, 1, .cp [.j x5.Tree.Rounds, .sl 1 (x5.Tree.Slots.map aL), .sl 1 (x5.players.map aL), .mp false (x5.won.map fun p : aD × Int => ((fun a : aD => Value.agg ((aK a).map bJ).toArray) p.1, aL p.2))]), (30, 2, .cp [.mp false (x5.won.map fun p : aD × Int => ((fun a : aD => Value.agg ((aK a).map bJ).toArray) p.1, aL p.2))]), (31, 3, .d (.mp false (x5.won.map fun p : aD × Int => ((fun a : aD => Value.agg ((aK a).map bJ).toArray) p.1, aL p.2)))), (32, 4, .agg (aK r2.2.1)), (33, 5, .tup [.i (cK r2.2.1 0 x5.won), .b (cO r2.2.1 x5.won)]), (27, 6, .tup [.i (cK r2.2.1 0 x5.won), .b (cO r2.2.1 x5.won)]), (34, 7, .i (cK r2.2.1 0 x5.won)), (35, 8, .b (cO r2.2.1 x5.won)), (13, 9, .i (cK r2.2.1 0 x5.won))], ?_, ?_⟩
   · exact dk [0, 1, 2, 3, 0, 405, 6, 7, 7, 8] ⟨go (zm (cM aW r2.1)),
 go fun S hS => rN (enc := aW) (aH rfl) (aX hS rfl) h6,
 go (zfc [.mp false (x5.won.map fun p : aD × Int => ((fun a : aD => Value.agg ((aK a).map bJ).toArray) p.1, aL p.2))] rfl qA),
 go (zlc rfl uS),
 go (zla 1 (aK r2.2.1) rfl rfl iL),
 go fun S hS => rG (enc := aL) (agg := false) (l := x5.won) (z := 0) (a := r2.2.1) (aH rfl) tE underlying139 zeroValue3 (fun _ _ => .d (.lit _ rfl)) (aX hS rfl) rfl rfl (aX hS rfl) (lC (enc := aK) r2.2.1 rfl),
 go (zm (.tup [.i (cK r2.2.1 0 x5.won), .b (cO r2.2.1 x5.won)])),
 go (zex rfl rfl),
 go (zex rfl rfl),
 go (za (.i (cK r2.2.1 0 x5.won))), trivial⟩
   · exact cN (aR rfl (aR rfl (bB trivial)))
  ·refine ta (.b (cO r2.2.1 x5.won)) (aB (aC (aC (aA (tm (.b (cO r2.2.1 x5.won)) (to (sn rfl) (aB ?_)))))));refine tip h (fun c7 h => ?_) (fun c7 h => ?_)
   ·refine aC (aA (ta (.i 0) (ta (.i 3) (aB ?_))));exact bY ⟨rfl, _, [], [.box b1 0 (aZ f), .box b3 0 (aK r2.2.1)], _, .two (.tmp 8 (v := .i 0) rfl) (.tmp 9 (v := .i 3) rfl), .refl _, .same _, (0, 3), h, rfl, rfl⟩
   ·refine bG (aC (aA (tm (.i (cK r2.2.1 0 x5.won)) (ta (.i (cK r2.2.1 0 x5.won)) (ta (.i 0) (aB ?_))))));exact bY ⟨rfl, _, [], [.box b1 0 (aZ f), .box b3 0 (aK r2.2.1)], _, .two (.tmp 8 (v := .i (cK r2.2.1 0 x5.won)) rfl) (.tmp 9 (v := .i 0) rfl), .refl _, .same _, (cK r2.2.1 0 x5.won, 0), h, rfl, rfl⟩

theorem vY (d : Int) (c : Int) (a : Int) {r : Bool} (h : eI d c a = some r) : Fn Tryz.prog 75 [.i d, .i c, .i a] (.b r) := by
 unfold eI at h;refine oT [.tmp 6] func75 results75 ntmps75 ?_;refine aC (aA (ta Z9 (aB (aC (aA (tm (.i d) (tm (.i c) (to (scm rfl rfl rfl) (tm (Z52 c d) ?_)))))))));obtain ⟨b1, h2, h⟩ := bns h;refine bE 4 [] 14 b1 ?_ ?_
 ·refine bch h2 (fun c3 h2 => ?_) (fun c3 h2 => ?_)
  ·refine tk c3 (sm (.i d)) (tk c3 (sm (.i a)) (tk c3 (scm rfl rfl rfl) (to (spt (Z52 d a) c3) ?_)));obtain rfl := sIn h2;refine aB (aM rfl trivial rfl)
  ·refine tp c3 (tp c3 (tp c3 (to (spf Z9 c3) ?_)));obtain rfl := sIn h2;refine aB (aM rfl trivial rfl)
 ·refine ta (.b b1) (aB ?_);obtain rfl := sIn h;exact rt

theorem aDt (j : aN) {r : Bool} (h : jE j = some r) : Fn Tryz.prog 24 [.agg (aZ j)] (.b r) := by
 unfold jE at h;refine oT [.tmp 2] func24 results24 ntmps24 ?_;refine aC (aA ?_);refine bF rfl (cT (v := .agg (aZ j)) (aH rfl) rfl rfl rfl) ?_;rintro _ ⟨b1, rfl⟩;refine ta Z9 (aB (aC (aC (aA (tfl 0 rfl rfl iV rfl aT ?_)))));obtain ⟨r2, h3, h⟩ := bns h;refine to (scr call75 (vY _ _ _ h3)) (to (sn rfl) (tm (.b (!r2)) ?_));obtain ⟨b4, h5, h⟩ := bns h;refine bE 9 [1] 18 b4 ?_ ?_
 ·refine bch h5 (fun e h5 => ?_) (fun e h5 => ?_)
  ·refine tp e (tp e (tp e (tp e (tp e (tp e (tp e (tp e (to (spt Z22 e) ?_))))))));obtain rfl := sIn h5;refine aB (aM rfl (ae rfl) rfl)
  ·refine tkl 0 e rfl rfl eX rfl cZ (tk e (sle rfl cF.of) (tkl 0 e rfl rfl iV rfl aT (tk e (aTn (aH rfl) rfl runUnderlying3 runUnderlying160) ?_)));obtain ⟨T, C, h5⟩ := bns h5;refine tk e (aRt (aH rfl) rfl rfl (aFu C)) ?_;refine tk e (scm rfl rfl rfl) (to (spf (.b (!decide ((j.Slots.length : Int) = (w64 (1 * 2 ^ (min (uw j.Rounds).toNat 64)))))) e) ?_);obtain rfl := sIn h5;refine aB (aM rfl (ae rfl) rfl)
 ·refine aB ?_;refine tih h (fun c6 h => ?_) (fun c6 h => ?_)
  ·refine aC (aA (ta Z9 (aB ?_)));obtain rfl := sIn h;refine bX (bP (bS (l := [2]) (ae rfl))) ?_;exact rt
  ·refine bG (aC (aC (aA (ta (.i 0) (aB (cH ?_))))));refine eO (S := Int) [1] (fun s7 => [(3, .i s7)]) (fun s7 => [.box b1 0 (aZ j)]) (fun k s7 => fR j k s7) (fun _ => rfl) (0) h (bD [0] rfl rfl (aR rfl (bB (ae rfl)))) ?_;rintro k8 a h;simp only [fR] at h;refine aC (aC (aA (tm (.i a) (tfl 0 rfl rfl eX rfl cZ (to (sle rfl cF.of) (to (scm rfl rfl rfl) (aB ?_)))))));refine tih h (fun c9 h => ?_) (fun c9 h => ?_)
   ·refine bG (aC (cH (aC (aC (aA (tfl 0 rfl rfl eX rfl cZ (tm (.i a) ?_)))))));obtain ⟨U, E, h⟩ := bns h;refine to (six rfl rfl cF.of (cL aL E)) (to (slc rfl aT) ?_);obtain ⟨F, G, h⟩ := bns h;refine to (scr call75 (vY _ _ _ G)) (to (sn rfl) (tm (.b (!F)) ?_));obtain ⟨H, q, h⟩ := bns h;refine bE 21 [1, 3] 54 H ?_ ?_
    ·refine bch q (fun c q => ?_) (fun c q => ?_)
     ·refine tp c (tp c (tp c (tp c (tq (tq (tq (tq (tq (tq (tp c (tp c (tq (tq ?_)))))))))))));refine tq (tq (tq (tq (tq (tp c (to (spt Z22 c) ?_))))));obtain rfl := sIn q;refine aB (aM rfl (ae rfl) rfl)
     ·refine tk c (sm (.i a)) (tk c (gV (aH rfl) rfl rfl (by decide)) ?_);refine tk c (scm rfl rfl rfl) (tk c (sm (.b (decide ((a.tmod 2) = 1)))) ?_);obtain ⟨y, s, q⟩ := bns q;refine bE 7 [1, 3, 33, 34, 35, 36, 37] 44 y ?_ ?_
      ·refine bch s (fun n s => ?_) (fun n s => ?_)
       ·refine tkl 0 n rfl rfl eX rfl cZ (tk n (sm (.i a)) ?_);obtain ⟨I, J, s⟩ := bns s;refine tk n (six rfl rfl cF.of (cL aL J)) (tk n (slc rfl aT) (tk n (scm rfl rfl rfl) (tk c (spt (.b (decide (I = (-1)))) n) ?_)));obtain rfl := sIn s;refine aB (aM rfl (ae rfl) rfl)
       ·refine tp n (tp n (tp n (tp n (tp n (tp n (tk c (spf Z9 n) ?_))))));obtain rfl := sIn s;refine aB (aM rfl (ae rfl) rfl)
      ·refine tk c (sm (.b y)) ?_;obtain ⟨z, t, q⟩ := bns q;refine bE 8 [1, 3, 33, 34, 35, 36, 37, 44, 45] 53 z ?_ ?_
       ·refine bch t (fun g t => ?_) (fun g t => ?_)
        ·refine tkl 0 g rfl rfl eX rfl cZ (tk g (sm (.i a)) (tk g (sar rfl rfl rfl) ?_));obtain ⟨K, L, t⟩ := bns t;refine tk g (six rfl rfl cF.of (cL aL L)) (tk g (slc rfl aT) (tk g (scm rfl rfl rfl) (tk c (spt (.b (decide (K = (-1)))) g) ?_)));obtain rfl := sIn t;refine aB (aM rfl (ae rfl) rfl)
        ·refine tp g (tp g (tp g (tp g (tp g (tp g (tp g (tk c (spf Z9 g) ?_)))))));obtain rfl := sIn t;refine aB (aM rfl (ae rfl) rfl)
       ·refine to (spf (.b z) c) ?_;obtain rfl := sIn q;refine aB (aM rfl (ae rfl) rfl)
    ·refine aB ?_;refine tih h (fun M h => ?_) (fun M h => ?_)
     ·refine aC (aA (ta Z9 (aB ?_)));obtain rfl := sIn h;refine bX (bP (bS (l := [2]) (ae rfl))) ?_;exact rt
     ·refine bG (aC (aA (ta (.i 0) (aB ?_))));refine aKi ?_;refine eO (S := Int) [1, 3] (fun x => [(4, .i x)]) (fun x => [.box b1 0 (aZ j)]) (fun k x => fS (fR j k8) a j k x) (fun _ => rfl) (0) h (bD [0] rfl rfl (aR rfl (bB (ae rfl)))) ?_;rintro V f h;simp only [fS] at h;refine aC (aC (aA (tm (.i f) (tm (.i a) (to (scm rfl rfl rfl) (aB ?_))))));refine tih h (fun N h => ?_) (fun N h => ?_)
      ·refine bG (aC (cH (aC ?_)));obtain ⟨o, A, h⟩ := bns h;obtain ⟨p, B, h⟩ := bns h;obtain ⟨O, u, h⟩ := bns h;refine eD mix 19 [1, 3, 4] [(78, .b O)] ?_ ?_
       ·refine bch u (fun m u => ?_) (fun m u => ?_)
        ·obtain ⟨w, P, u⟩ := bns u;obtain rfl := sIn u;refine ⟨[(60, 0, .bp b1 0 1), (61, 1, .d (.sl 1 (Z16 j))), (62, 2, .i f), (63, 3, .cp [.j o]), (64, 4, .i o), (65, 5, .bp b1 0 1), (66, 6, .d (.sl 1 (Z16 j))), (67, 7, .i a), (68, 8, .cp [.j p]), (69, 9, .i p), (70, 10, .b (decide (o = p))), (71, 11, .b (decide (o = p))), (72, 12, .bp b1 0 1), (73, 13, .d (.sl 1 (Z16 j))), (74, 14, .i a), (75, 15, .cp [.j w]), (76, 16, .i w), (77, 17, .b (!decide (w = (-1)))), (78, 18, .b (!decide (w = (-1))))], ?_, ?_⟩
         · exact dk [0, 1, 0, 203, 4, 0, 6, 0, 708, 9, 510, 11, 12, 1213, 12, 121415, 1216, 1217, 1218] ⟨go (zf rfl eX),
 go (zl 0 rfl rfl rfl cZ),
 go (zm (.i f)),
 go (zix rfl rfl cF.of (cL aL A)),
 go (zlc rfl aT),
 go (zf rfl eX),
 go (zl 0 rfl rfl rfl cZ),
 go (zm (.i a)),
 go (zix rfl rfl cF.of (cL aL B)),
 go (zlc rfl aT),
 go (zcm rfl rfl rfl),
 go (zm (.b (decide (o = p)))),
 gt m (zf rfl eX),
 gt m (zl 0 rfl rfl rfl cZ),
 gt m (zm (.i a)),
 gt m (zix rfl rfl cF.of (cL aL P)),
 gt m (zlc rfl aT),
 gt m (zcm rfl rfl rfl),
 go (zpt (.b (!decide (w = (-1)))) m), trivial⟩
         · exact cN (aR rfl (bB (ae rfl)))
        ·obtain rfl := sIn u;refine ⟨[(60, 0, .bp b1 0 1), (61, 1, .d (.sl 1 (Z16 j))), (62, 2, .i f), (63, 3, .cp [.j o]), (64, 4, .i o), (65, 5, .bp b1 0 1), (66, 6, .d (.sl 1 (Z16 j))), (67, 7, .i a), (68, 8, .cp [.j p]), (69, 9, .i p), (70, 10, .b (decide (o = p))), (71, 11, .b (decide (o = p))), (72, 12, .tup []), (73, 13, .tup []), (74, 14, .tup []), (75, 15, .tup []), (76, 16, .tup []), (77, 17, .tup []), (78, 18, .b false)], ?_, ?_⟩
         · exact dk [0, 1, 0, 203, 4, 0, 6, 0, 708, 9, 510, 11, 12, 1213, 12, 121415, 1216, 1217, 1218] ⟨go (zf rfl eX),
 go (zl 0 rfl rfl rfl cZ),
 go (zm (.i f)),
 go (zix rfl rfl cF.of (cL aL A)),
 go (zlc rfl aT),
 go (zf rfl eX),
 go (zl 0 rfl rfl rfl cZ),
 go (zm (.i a)),
 go (zix rfl rfl cF.of (cL aL B)),
 go (zlc rfl aT),
 go (zcm rfl rfl rfl),
 go (zm (.b (decide (o = p)))),
 gp m,
 gp m,
 gp m,
 gp m,
 gp m,
 gp m,
 go (zpf Z9 m), trivial⟩
         · exact cN (aR rfl (bB (ae rfl)))
       ·refine aB ?_;refine tih h (fun Q h => ?_) (fun Q h => ?_)
        ·refine aC (aA (ta Z9 (aB ?_)));obtain rfl := sIn h;refine bX (bP (bS (l := [2]) (ae rfl))) ?_;exact rt
        ·refine eY ?_;refine aA (tm (.i f) (to (sar rfl rfl rfl) (ta (.i (w64 (f + 1))) (aB ?_))));exact ⟨(w64 (f + 1)), h, bD [0] rfl rfl (aR rfl (bB (ae rfl)))⟩
      ·refine dP ?_;refine .inl ⟨rfl, ?_⟩;simp only [qQ] at h;simp only [qP] at h;refine aA (tm (.i a) (to (sar rfl rfl rfl) (ta (.i (w64 (a + 1))) (aB ?_))));exact ⟨(w64 (a + 1)), h, bD [0] rfl rfl (aR rfl (bB (ae rfl)))⟩
   ·refine dP ?_;refine .inl ⟨rfl, ?_⟩;simp only [qO] at h;refine aC (aA (ta Z22 (aB ?_)));obtain rfl := sIn h;refine bX (bP (bS (l := [2]) (ae rfl))) ?_;exact rt

theorem vT (b : aN) (a : Int) {r : Int} (h : fL b a = some r) : Fn Tryz.prog 27 [.agg (aZ b), .i a] (.i r) := by
 unfold fL at h;refine oT [.tmp 4] func27 results27 ntmps27 ?_;refine aC (aA ?_);refine bF rfl (cT (v := .agg (aZ b)) (aH rfl) rfl rfl rfl) ?_;rintro _ ⟨b1, rfl⟩;refine ta (.i 0) (aB (aC (aA (tfl 0 rfl rfl iV rfl aT (to (sar rfl rfl rfl) (tm (.i a) (to (sar rfl rfl rfl) (to (aTn (aH rfl) rfl runUnderlying3 runUnderlying160) ?_))))))));obtain ⟨u2, h3, h⟩ := bns h;refine to (aRt (aH rfl) rfl rfl (aFu h3)) ?_;refine ta (.i (w64 (1 * 2 ^ (min (uw (w64 ((w64 (b.Rounds - 1)) - a))).toNat 64)))) (aB ?_);obtain rfl := sIn h;refine bX (bP (bS (l := [4]) (ae rfl))) ?_;exact rt

theorem aHa (a0 : aN) (a1 : List aF) (a2 : Int) (a3 : Int) {r : Int × Int} (h : qK a0 a1 a2 a3 = some r) : Fn Tryz.prog 31 (Z75 a0 a1 a2 a3) ((fun x : Int × Int => .tup [.i x.1, .i x.2]) r) := aCl (enc := fun x : Int × Int => .tup [.i x.1, .i x.2]) (aGz a0 a1 a2 a3 (aEb a0 a1 a2 a3 h (fun x => x = r) rfl))

theorem aGh (x : List Int) {r : List Int} {x_v : Value} {e : TypeId} (h : slices_Sort_int x = some r) : dR Tryz.prog 103 [.d (.lit x_v)] [.arr x_v e 1 (x.map aL)] (fun r' o' => r' = .tup [] ∧ o' = [.arr x_v e 1 (r.map aL)]) := by
 unfold slices_Sort_int at h;split at h
 ·cases h;exact aRx (fun blk off cap zs w => Tryz.slices_Sort_int blk off cap zs w) (fun q cap w => Tryz.slices_Sort_int_none q cap w) (by assumption)
 ·cases h

theorem aLq (u : aN) (x : List aF) (c : Int) (o : Int) {Q : ((List Int) × Int) → Prop} (h : tQ u x c o Q) : dR Tryz.prog 43 (Z75 u x c o) [] (fun r' o' => ∃ (r : (List Int) × Int), Q r ∧ r' = .tup [.d (.sl 1 (r.1.map aL)), .i r.2] ∧ o' = []) := by
 unfold tQ at h;refine gQ func43 rfl (rs := [.tmp 8, .tmp 9]) results43 ntmps43 (Nat.le_of_ble_eq_true rfl) ?_;refine aC (aA ?_);refine bF rfl (cT (v := .agg (aZ u)) (aH rfl) rfl rfl rfl) ?_;rintro _ ⟨b1, rfl⟩;refine to (aAl 1 (aH rfl)) ?_;refine ta (.i 0) (aB (aC (aA (to (sla 0 (aZ u) rfl rfl iQ) (tm (.d (Z17 x)) (tm (.i c) (tm (.i o) ?_)))))));refine bF rfl (rM (aH rfl) (.func _ _ call84) rfl rfl (aEc _ _ _ _ h)) ?_;rintro _ ⟨_, _, ⟨r2, h, rfl, rfl⟩, rfl⟩;refine tm (.tup [cM aW r2.1, .agg (aK r2.2.1), .i r2.2.2]) (to (sex rfl rfl) (to (sex rfl rfl) (to (sex rfl rfl) ?_)));refine bF rfl (cG (zs := [.j 0, .j 0]) (aH rfl) zeroValue143 rfl rfl) ?_;rintro _ ⟨b3, rfl⟩;refine ta (cM aW r2.1) (to (sst 1 rfl rfl sizeOf143 (aK r2.2.1)) (ta (.i r2.2.2) (aB (aC (aC (aA (tm (.i r2.2.2) (to (scm rfl rfl rfl) (aB ?_)))))))));refine tip h (fun c4 h => ?_) (fun c4 h => ?_)
 ·refine aC (aA (tm (.i r2.2.2) (to (aAl 1 (aH rfl)) ?_)));refine ta (.i r2.2.2) (aB ?_);exact bY ⟨rfl, _, [], [.box b1 0 (aZ u), .box b3 0 (aK r2.2.1)], _, .two (.tmp 8 (v := .d (.sl 1 ((([] : List Int)).map aL))) rfl) (.tmp 9 (v := .i r2.2.2) rfl), .refl _, .same _, (([] : List Int), r2.2.2), h, rfl, rfl⟩
 ·refine bG (aC (aA (to (nH 3 1 (.inl rfl) (aH rfl)) ?_)));refine aB (aC (aC (aA (tm (cM aW r2.1) ?_))));obtain ⟨x6, h7, h⟩ := dN h;refine to (rN (enc := aW) (aH rfl) rfl h7) ?_;refine to (sfc [.sl 1 (x6.players.map aL)] rfl lA) (to (slc rfl cZ) (to (sle rfl cF.of) (tm (.i 0) (aB (cH ?_)))));refine sT [2, 10, 11, 31, 32] (fun (s8 : Int × (List Int) × Value) => [(13, .d (.lit s8.2.2)), (33, .i s8.1)]) (fun (s8 : Int × (List Int) × Value) => [.box b3 0 (aK r2.2.1), .arr s8.2.2 3 1 (s8.2.1.map aL)]) (fun (k : Nat) (s8 : Int × (List Int) × Value) => iY Q c r2.1 x6.players (x6.players.length : Int) r2.2.1 k s8.1 s8.2.1) (fun _ h => h) (0, ([] : List Int), (.slice none 0 0)) h (bD [1, 2] rfl rfl (aR rfl (aR rfl (bB (ae rfl))))) ?_;rintro L ⟨e, q, w9⟩ h;simp only [iY] at h;refine aC (aA (to (scm rfl rfl rfl) (aB (aC ?_))));refine tip h (fun C h => ?_) (fun C h => ?_)
  ·refine bG (aC (cH (aC (aA (tm (.i e) ?_)))));obtain ⟨l, E, h⟩ := dN h;refine to (six rfl rfl cF.of (cL aL E)) (to (slc rfl aT) (ta (.i e) (ta (.i l) (aB (aC ?_)))));obtain ⟨s, y, h⟩ := dN h;refine bX (aKa (enc := aW) (k := 10) rfl y) ?_;obtain ⟨M, t, h⟩ := dN h;obtain ⟨F, n, h⟩ := dN h;refine eD mix 16 [2, 10, 11, 13, 15, 31, 32, 33] [(53, .b F)] ?_ ?_
   ·refine bch t (fun j t => ?_) (fun j t => ?_)
    ·obtain ⟨m, z, t⟩ := bns t;obtain rfl := sIn t;refine bch n (fun g n => ?_) (fun g n => ?_)
     ·obtain ⟨w, G, n⟩ := bns n;obtain rfl := sIn n;refine ⟨[(38, 0, .i l), (39, 1, .b (!decide (l = (-1)))), (40, 2, .b (!decide (l = (-1)))), (41, 3, .i c), (42, 4, .i e), (43, 5, .agg (aK m)), (44, 6, .agg (aK r2.2.1)), (45, 7, .b (decide (m = r2.2.1))), (46, 8, .b (decide (m = r2.2.1))), (47, 9, .b (decide (m = r2.2.1))), (48, 10, .cp [.j s.Tree.Rounds, .sl 1 (s.Tree.Slots.map aL), .sl 1 (s.players.map aL), .mp false (s.won.map fun p : aD × Int => ((fun a : aD => Value.agg ((aK a).map bJ).toArray) p.1, aL p.2))]), (49, 11, .i e), (50, 12, .i w), (51, 13, .i c), (52, 14, .b (decide (c < w))), (53, 15, .b (decide (c < w)))], ?_, ?_⟩
      · exact dk [0, 1, 2, 3, 3, 30405, 3, 30607, 308, 9, 10, 10, 101112, 10, 101314, 1015] ⟨go (zm (.i l)),
 go (zcm rfl rfl rfl),
 go (zm (.b (!decide (l = (-1))))),
 gt j (zm (.i c)),
 gt j (zm (.i e)),
 gt j fun S hS => cU (aH rfl) (.func _ _ call56) (ev2 (aX hS rfl) (ev2 (aX hS rfl) evn)) rfl (nN _ _ z),
 gt j (zla 0 (aK r2.2.1) rfl rfl iL),
 gt j fun S hS => aRo (a := m) (b := r2.2.1) (aH rfl) (aX hS rfl) (aX hS rfl) rfl rfl Tryz.eqGuardType143 aBi,
 go (zpt (.b (decide (m = r2.2.1))) j),
 go (zm (.b (decide (m = r2.2.1)))),
 gt g (zm (.cp [.j s.Tree.Rounds, .sl 1 (s.Tree.Slots.map aL), .sl 1 (s.players.map aL), .mp false (s.won.map fun p : aD × Int => ((fun a : aD => Value.agg ((aK a).map bJ).toArray) p.1, aL p.2))])),
 gt g (zm (.i e)),
 gt g fun S hS => eE (aH rfl) (.func _ _ call57) (ev2 (aX hS rfl) (ev2 (aX hS rfl) evn)) rfl (BVs.refl _ _) (wR _ _ G) rfl,
 gt g (zm (.i c)),
 gt g (zcm rfl rfl rfl),
 go (zpt (.b (decide (c < w))) g), trivial⟩
      · exact cN (aR rfl (bB (ae rfl)))
     ·obtain rfl := sIn n;refine ⟨[(38, 0, .i l), (39, 1, .b (!decide (l = (-1)))), (40, 2, .b (!decide (l = (-1)))), (41, 3, .i c), (42, 4, .i e), (43, 5, .agg (aK m)), (44, 6, .agg (aK r2.2.1)), (45, 7, .b (decide (m = r2.2.1))), (46, 8, .b (decide (m = r2.2.1))), (47, 9, .b (decide (m = r2.2.1))), (48, 10, .tup []), (49, 11, .tup []), (50, 12, .tup []), (51, 13, .tup []), (52, 14, .tup []), (53, 15, .b false)], ?_, ?_⟩
      · exact dk [0, 1, 2, 3, 3, 30405, 3, 30607, 308, 9, 10, 10, 101112, 10, 101314, 1015] ⟨go (zm (.i l)),
 go (zcm rfl rfl rfl),
 go (zm (.b (!decide (l = (-1))))),
 gt j (zm (.i c)),
 gt j (zm (.i e)),
 gt j fun S hS => cU (aH rfl) (.func _ _ call56) (ev2 (aX hS rfl) (ev2 (aX hS rfl) evn)) rfl (nN _ _ z),
 gt j (zla 0 (aK r2.2.1) rfl rfl iL),
 gt j fun S hS => aRo (a := m) (b := r2.2.1) (aH rfl) (aX hS rfl) (aX hS rfl) rfl rfl Tryz.eqGuardType143 aBi,
 go (zpt (.b (decide (m = r2.2.1))) j),
 go (zm (.b (decide (m = r2.2.1)))),
 gp g,
 gp g,
 gp g,
 gp g,
 gp g,
 go (zpf Z9 g), trivial⟩
      · exact cN (aR rfl (bB (ae rfl)))
    ·obtain rfl := sIn t;have g : false = false := rfl;have n := yR g n;obtain rfl := sIn n;refine ⟨[(38, 0, .i l), (39, 1, .b (!decide (l = (-1)))), (40, 2, .b (!decide (l = (-1)))), (41, 3, .tup []), (42, 4, .tup []), (43, 5, .tup []), (44, 6, .tup []), (45, 7, .tup []), (46, 8, .b false), (47, 9, .b (false)), (48, 10, .tup []), (49, 11, .tup []), (50, 12, .tup []), (51, 13, .tup []), (52, 14, .tup []), (53, 15, .b false)], ?_, ?_⟩
     · exact dk [0, 1, 2, 3, 3, 30405, 3, 30607, 308, 9, 10, 10, 101112, 10, 101314, 1015] ⟨go (zm (.i l)),
 go (zcm rfl rfl rfl),
 go (zm (.b (!decide (l = (-1))))),
 gp j,
 gp j,
 gp j,
 gp j,
 gp j,
 go (zpf Z9 j),
 go (zm Z67),
 gp g,
 gp g,
 gp g,
 gp g,
 gp g,
 go (zpf Z9 g), trivial⟩
     · exact cN (aR rfl (bB (ae rfl)))
   ·refine aB ?_;refine bX (aSp (enc := aW) (k := 10) rfl y) ?_;refine tip h (fun H h => ?_) (fun H h => ?_)
    ·refine aA (tm (.d (.lit w9)) (tm (.i l) (to (eM (aH rfl) cF rfl rfl (rows := ([l]).map aL) rfl (bL (f := aL) fun _ => rfl) rfl (by decide)) ?_)));obtain ⟨I, J, h⟩ := dN h;refine bF rfl (eF (i := 1) (aH rfl) cF rfl rfl rfl (fun _ => rfl) J rfl) ?_;rintro _ ⟨A, rfl⟩;refine ta (.d (.lit A)) ?_;refine gO ?_;refine aA (to (sar rfl rfl rfl) (tm (.i (w64 (e + 1))) (aB ?_)));exact ⟨(w64 (e + 1), I, A), h, bD [0, 1] rfl rfl (aR rfl (aR rfl (bB (ae rfl))))⟩
    ·refine eY ?_;refine aA (to (sar rfl rfl rfl) (tm (.i (w64 (e + 1))) (aB ?_)));exact ⟨(w64 (e + 1), q, w9), h, bD [0, 1] rfl rfl (aR rfl (aR rfl (bB (ae rfl))))⟩
  ·refine dP ?_;refine .inl ⟨rfl, ?_⟩;simp only [wB] at h;refine aC (aA (tm (.d (.lit w9)) ?_));obtain ⟨B, K, h⟩ := dN h;refine eP (bD [1, 0] rfl rfl (le_refl _)) ?_;refine bF rfl (jM (passed := [.arr w9 3 1 (q.map aL)]) (aH rfl) rfl (.func _ _ call103) rfl rfl (aGh q K)) ?_;rintro _ ⟨_, _, ⟨rfl, rfl⟩, rfl⟩;refine aB (aC (aA (tm (.d (.lit w9)) (ta (.d (.lit w9)) (ta (.i 0) (aB ?_))))));exact bY ⟨rfl, _, [], [.arr w9 3 1 (B.map aL), .box b3 0 (aK r2.2.1)], _, .two (.tmp 8 (v := .d (.lit w9)) rfl) (.tmp 9 (v := .i 0) rfl), .refl _, aBe (.cons (.d (cY 0 rfl (bL (f := aL) fun _ => rfl))) (.cons (.same _) .nil)), (B, 0), h, rfl, rfl⟩

theorem aBx {r : bH × (List Int)} (h : sF = some r) : Fn Tryz.prog 74 [] (.tup [.agg (aO r.1), .d (.sl 1 (r.2.map aL))]) := by
 unfold sF at h;refine eU func74 rfl (rs := [.cell 0 72, .tmp 1]) results74 ntmps74 (Nat.le_of_ble_eq_true rfl) ?_;refine aC (aA ?_);refine bF rfl (cG (zs := [.j 0, .j 0, .k false, .j 0, .j 0, .j 0, .j 0, .j 0, .j 0, .k false]) (aH rfl) zeroValue72 rfl rfl) ?_;rintro _ ⟨b1, rfl⟩;refine to (aAl 1 (aH rfl)) ?_;refine aB (aC (aA (to (cQ (aH rfl) aYo (zs := [.j 0, .j 0, .k false, .j 0, .j 0, .j 0, .j 0, .j 0, .j 0, .k false]) rfl rfl rfl rfl (es := [.j 2, .j 2, .k false, .j 2, .j 3, .j 0, .j 4, .j 2, .j 2, .k false]) rfl) ?_)));refine bF rfl (cG (zs := [.j 0, .j 0, .k false, .j 0, .j 0, .j 0, .j 0, .j 0, .j 0, .k false]) (aH rfl) zeroValue72 rfl rfl) ?_;rintro _ ⟨b2, rfl⟩;refine to (sst 1 rfl rfl sizeOf72 Z26) (aB (aC (aA (to (sla 1 Z26 rfl rfl eH) (to (eM (aH rfl) cF rfl rfl (rows := Z37.map aL) rfl (bL (f := aL) fun _ => rfl) rfl (by decide)) ?_)))));refine to (sst 0 rfl rfl sizeOf72 Z26) (ta (.d (.sl 1 ((Z37).map aL))) (aB ?_));obtain rfl := sIn h;exact bY ⟨rfl, _, [.box b1 0 Z26, .box b2 0 Z26], .two (.cell 0 72 rfl (i := 0) rfl eH (es := Z26) rfl rfl) (.tmp 1 (v := .d (.sl 1 ((Z37).map aL))) rfl), .refl _, .same _⟩

theorem nL (d : Int) (c : Int) (a : Int) {r : Bool} (h : jO d c a = some r) : Fn Tryz.prog 188 [.i d, .i c, .i a] (.b r) := by
 unfold jO at h;refine oT [.tmp 6] func188 results188 ntmps188 ?_;refine aC (aA (ta Z9 (aB (aC (aA (tm (.i c) (tm (.i d) (to (scm rfl rfl rfl) (tm (Z52 c d) ?_)))))))));obtain ⟨b1, h2, h⟩ := bns h;refine bE 4 [] 14 b1 ?_ ?_
 ·refine bch h2 (fun c3 h2 => ?_) (fun c3 h2 => ?_)
  ·refine tk c3 (sm (.i d)) (tk c3 (sm (.i a)) (tk c3 (scm rfl rfl rfl) (to (spt (Z52 d a) c3) ?_)));obtain rfl := sIn h2;refine aB (aM rfl trivial rfl)
  ·refine tp c3 (tp c3 (tp c3 (to (spf Z9 c3) ?_)));obtain rfl := sIn h2;refine aB (aM rfl trivial rfl)
 ·refine ta (.b b1) (aB ?_);obtain rfl := sIn h;exact rt

theorem aAm (a : Int) (c : bH) {r : Bool} (h : oL a c = some r) : Fn Tryz.prog 187 [.i a, .cp (aO c)] (.b r) := by
 unfold oL at h;refine oT [.tmp 3] func187 results187 ntmps187 ?_;refine aC (aA (ta Z9 (aB (aC (aA (tm (.i a) (to (scm rfl rfl rfl) (tm (Z43 a) ?_))))))));obtain ⟨b1, h2, h⟩ := bns h;refine bE 3 [0, 1] 9 b1 ?_ ?_
 ·refine bch h2 (fun c9 h2 => ?_) (fun c9 h2 => ?_)
  ·refine tp c9 (tp c9 (to (spt Z22 c9) ?_));obtain rfl := sIn h2;refine aB (aM rfl (ae rfl) rfl)
  ·refine tk c9 (sm (.i a)) (tk c9 (scm rfl rfl rfl) (to (spf (.b (decide (a = 0))) c9) ?_));obtain rfl := sIn h2;refine aB (aM rfl (ae rfl) rfl)
 ·refine tm (.b b1) ?_;obtain ⟨b3, h4, h⟩ := bns h;refine bE 6 [0, 1] 16 b3 ?_ ?_
  ·refine bch h4 (fun c8 h4 => ?_) (fun c8 h4 => ?_)
   ·refine tp c8 (tp c8 (tp c8 (tp c8 (tp c8 (to (spt Z22 c8) ?_)))));obtain rfl := sIn h4;refine aB (aM rfl (ae rfl) rfl)
   ·refine tk c8 (sm (.i a)) (tk c8 (sfc [.j c.Games] rfl pE) (tk c8 (slc rfl aT) (tk c8 (sar rfl rfl rfl) (tk c8 (scm rfl rfl rfl) (to (spf (.b (decide (a = (w64 (c.Games - 1))))) c8) ?_)))));obtain rfl := sIn h4;refine aB (aM rfl (ae rfl) rfl)
  ·refine tm (.b b3) ?_;obtain ⟨b5, h6, h⟩ := bns h;refine bE 5 [] 22 b5 ?_ ?_
   ·refine bch h6 (fun c7 h6 => ?_) (fun c7 h6 => ?_)
    ·refine tp c7 (tp c7 (tp c7 (tp c7 (to (spt Z22 c7) ?_))));obtain rfl := sIn h6;refine aB (aM rfl trivial rfl)
    ·refine tk c7 (sm (.i a)) (tk c7 (sfc [.j c.Games] rfl pE) (tk c7 (slc rfl aT) (tk c7 (scm rfl rfl rfl) (to (spf (.b (decide (a = c.Games))) c7) ?_))));obtain rfl := sIn h6;refine aB (aM rfl trivial rfl)
   ·refine ta (.b b5) (aB ?_);obtain rfl := sIn h;exact rt

end Go.Am
