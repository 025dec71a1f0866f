/- The functions compute what the shallow ones say: printed by program. -/
import Derived.Test.YtiohgpipanopaaaGreatTlSh
import Derived.Test.YtiohgpipanopaaaGreatAmFam2
import Derived.Test.YtiohgpipanopaaaGreatAmRange
import Derived.Test.YtiohgpipanopaaaGreatAmSort
import Derived.Test.YtiohgpipanopaaaGreatTlShelf
import Derived.Test.YtiohgpipanopaaaGreatAmEnt
import Derived.Test.YtiohgpipanopaaaGreatAmSortF
import Derived.Test.YtiohgpipanopaaaGreatAmRangeC
import Derived.Test.YtiohgpipanopaaaGreatAmBox
import Derived.Test.YtiohgpipanopaaaGreatAmPrim
import Derived.Test.YtiohgpipanopaaaGreatBbDet
import Derived.Test.YtiohgpipanopaaaGreatChecked
import Derived.Test.YtiohgpipanopaaaGreatAmShort
import Derived.KernelRfl
namespace Go.Am
open Go.Proofs
open Go.Proofs.Tryz
set_option maxRecDepth 100000
set_option maxHeartbeats 40000000

abbrev D.j (n : Int) : D := .lit (.int .i64 n)
abbrev D.k (b : Bool) : D := .lit (.bool b)
abbrev VI (n : Int) : Value := .int .i64 n
abbrev Z0 (p0 : bL) : AV := .cp [.j p0.rules.Format.Sets, .j p0.rules.Format.Games, .k p0.rules.Format.NoAd, .j p0.rules.Format.Tie, .j p0.rules.Format.To, .j p0.rules.Format.LastTie, .j p0.rules.Format.LastTo, .j p0.rules.Format.First, .j p0.rules.Format.Then, .k p0.rules.Format.Doubles, .sl 2 (p0.Score.Board.Sets.map aN), .j p0.Score.Board.Games.A, .j p0.Score.Board.Games.B, .j p0.Score.Board.Points.A, .j p0.Score.Board.Points.B, .j p0.Score.Server, .j p0.Score.Ends, .j p0.Score.Balls, .j p0.Score.Winner, .j p0.first, .j p0.won.A, .j p0.won.B, .sl 1 (p0.ties.map cL), .sl 7 (p0.games.map bD)]
abbrev Z1 (p0 : aX) : AV := .cp [.j p0.Tree.Rounds, .sl 1 (p0.Tree.Slots.map aG), .sl 1 (p0.players.map aG), .mp false (p0.won.map fun p : aD × Int => ((fun a : aD => Value.agg ((aH a).map bN).toArray) p.1, aG p.2))]
abbrev Z2 (p0 : aD) (p1 : Int) := aD.mk (w64 (p0.round - 1)) (w64 ((w64 (2 * p0.place)) + p1))
abbrev Z3 := aK (aU.mk 4 0 ([(aP.mk 1 1 false), (aP.mk 2 1 false), (aP.mk 3 2 false), (aP.mk 4 0 false)]) ([] : List Int))
abbrev Z4 (p0 : List Int) : D := .sl 1 (p0.map aG)
abbrev Z5 := aK (aU.mk 4 1 ([(aP.mk 10 1 false), (aP.mk 20 2 false), (aP.mk 30 1 false)]) ([5, 4]))
abbrev Z6 : AV := .b false
abbrev Z7 (p0 : Nat) (p1 : Nat) (p2 : bL) (p3 : Value) (p4 : Value) (p5 : Value) : List MO := [.box p0 p1 [.j p2.rules.Format.Sets, .j p2.rules.Format.Games, .k p2.rules.Format.NoAd, .j p2.rules.Format.Tie, .j p2.rules.Format.To, .j p2.rules.Format.LastTie, .j p2.rules.Format.LastTo, .j p2.rules.Format.First, .j p2.rules.Format.Then, .k p2.rules.Format.Doubles, .lit p3, .j p2.Score.Board.Games.A, .j p2.Score.Board.Games.B, .j p2.Score.Board.Points.A, .j p2.Score.Board.Points.B, .j p2.Score.Server, .j p2.Score.Ends, .j p2.Score.Balls, .j p2.Score.Winner, .j p2.first, .j p2.won.A, .j p2.won.B, .lit p4, .lit p5], .arr p3 78 2 (p2.Score.Board.Sets.map aN), .arr p4 4 1 (p2.ties.map cL), .arr p5 228 7 (p2.games.map bD)]
abbrev Z8 (p0 : Nat) (p1 : Nat) (p2 : aJ) (p3 : Value) (p4 : Nat) (p5 : List Int) (p6 : Nat) (p7 : List (aE × Int)) (p8 : List Nat) (p9 : Nat) : List MO := [.box p0 p1 [.j p2.Rounds, .sl 1 (p2.Slots.map aG), .lit p3, .lit (.map (some p4))], .arr p3 3 1 (p5.map aG), .map p6 (p7.map fun p : aE × Int => ((fun a : aE => Value.agg ((aO a).map bN).toArray) p.1, (fun v : Int => AV.i v) p.2)) p8 p9]
abbrev Z9 (p0 : bL) := p0.Score.Board.Sets.map aN
abbrev Z10 (p0 : aU) := w64 (p0.Size - (p0.Persons.length : Int))
abbrev Z11 (p0 : aU) := p0.Persons.map aL
abbrev Z12 (p0 : Int) := w64 ((w64 (p0 + 1)).tdiv 2)
abbrev Z13 := (([] : List Int)).map aG
abbrev Z14 (p0 : aJ) := p0.Slots.map aG
abbrev Z15 (p0 : aU) := (w64 (p0.Size - 1)) - (w64 (p0.Size.tdiv 4))
abbrev Z16 : List D := [.sl 2 ((([] : List bH)).map aN), .j 0, .j 0, .j 0, .j 0, .j 0, .j 0, .j 0, .j 0]
abbrev Z17 : AV := .b true
abbrev Z18 := bF (aJ.mk 3 ([1, (-1), 2, 3, 4, 5, 6, 7]))
abbrev Z19 := cU (eU.mk 2 2 false 2 3 0 4 2 2 false)
abbrev Z20 (p0 : List aE) : D := .sl 5 (p0.map aO)
abbrev Z21 (p0 : bL) := w64 (p0.Score.Ends + 1)
abbrev Z22 (p0 : aU) : AV := .i (p0.Persons.length : Int)
abbrev Z23 (p0 : Nat) : List D := [.lit (yv p0)]
abbrev Z24 := aL (aP.mk 0 0 false)
abbrev Z25 (p0 : bL) := p0.ties.map cL
abbrev Z26 := ([] : List Int).map aG
abbrev Z27 := jF (cP.mk (dI.mk ([] : List bH) (bH.mk 0 0) (bH.mk 0 0)) 0 0 0 0)
abbrev Z28 (p0 : aX) := p0.Tree.Slots.map aG
abbrev Z29 (p0 : Int) : AV := .b (decide (p0 = (-1)))
abbrev Z30 : List Int := [0, 0, 0, 0, 1, 1, 1, 1, 0, 0, 0, 0, 0, 0, 0, 0, 1, 1, 1, 1]
abbrev Z31 (p0 : Nat) : D := .lit (.map (some p0))
abbrev Z32 := [(aE.mk 1 1 0 2 0), (aE.mk 3 0 3 7 0), (aE.mk 5 0 4 8 4)]
abbrev Z33 (p0 : bH) := aN (bH.mk (w64 (p0.A + 1)) p0.B)
abbrev Z34 (p0 : bH) := aN (bH.mk p0.A (w64 (p0.B + 1)))
abbrev Z35 (p0 : List Int) : AV := .d (Z4 p0)
abbrev Z36 := cN eG (none : Option bL)
abbrev Z37 := (([] : List aP)).map aL
abbrev Z38 (p0 : aU) := p0.Lots.map aG
abbrev Z39 (p0 : List Int) : List D := [.sl 1 (p0.map aG)]
abbrev Z40 (p0 : bL) := p0.games.map bD
abbrev Z41 (p0 : aJ) := w64 (1 * 2 ^ (min p0.Rounds.toNat 64))
abbrev Z42 := [(aP.mk 1 1 false), (aP.mk 2 1 false), (aP.mk 3 2 false), (aP.mk 4 0 false)]
abbrev Z43 (p0 : Int) (p1 : Int) := p0.fdiv (2 ^ (min (w64 (p1 + 1)).toNat 64))
abbrev Z44 (p0 : Int) (p1 : gI) := w64 (p0 - p1.Format.First)
abbrev Z45 (p0 : aU) := w64 (p0.Size.tdiv 4)
abbrev Z46 := bH.mk 0 0
abbrev Z47 (p0 : gI) := cB (gA.mk p0.Format.LastTie p0.Format.LastTo)
abbrev Z48 := [(aP.mk 10 1 false), (aP.mk 20 2 false), (aP.mk 30 1 false)]
abbrev Z49 (p0 : aX) := p0.players.map aG
abbrev Z50 (p0 : aD) (p1 : Int) := w64 ((w64 (2 * p0.place)) + p1)
abbrev Z51 : List D := [.lit (.slice none 0 0)]
abbrev Z52 : List MO := [.arr (.slice none 0 0) 3 1 Z26]
abbrev Z53 (p0 : aU) (p1 : List Int) : List AV := [.agg (aK p0), .d (Z4 p1)]
abbrev Z54 : AV := .b (false)
abbrev Z55 := bF (aJ.mk 0 ([] : List Int))
abbrev Z56 (p0 : Int) (p1 : Int) : AV := .b (decide (p0 ≤ p1))
abbrev Z57 := aE.mk 0 0 0 0 0
abbrev Z58 (p0 : gI) := cB (gA.mk p0.Format.Tie p0.Format.To)
abbrev Z59 (p0 : aU) := [w64 (p0.Size.tdiv 4), w64 (Z15 p0)]
abbrev Z60 : AV := .b (true)
abbrev Z61 (p0 : Nat) (p1 : Nat) : AV := .bp p0 p1 0
abbrev Z62 := w64 ((0 : Int).tdiv 2)
theorem mix : Tryz.prog.follows .mixedOrders = true := Checked.mixed Tryz.checked

theorem dO : kA Tryz.prog 25 4 := ⟨isAgg25, sizeOf25⟩
theorem bM : SliceTy Tryz.prog 23 3 1 8 (.int .i64 0) := ⟨underlying23, ⟨Tryz.t3, by kernel_rfl, rfl, rfl, rfl⟩, rfl, by decide⟩
theorem dE : bV Tryz.prog 25 0 0 := bP runUnderlying25 rfl rfl sizeOf3
theorem aS : iO Tryz.prog 3 := ⟨isAgg3, sizeOf3⟩
theorem aPx : iR Tryz.prog 38 (.agg #[.int .i64 0, .slice none 0 0]) [(0, 1), (1, 1)] := ⟨zeroValue38, _, runUnderlying38, fun w => by simp [sizeOf23, sizeOf3]⟩
theorem nX : kA Tryz.prog 38 2 := ⟨isAgg38, sizeOf38⟩
theorem lL : bV Tryz.prog 25 1 1 := bP runUnderlying25 rfl rfl sizeOf3
theorem eB : bV Tryz.prog 25 2 2 := bP runUnderlying25 rfl rfl sizeOf22
theorem gJ : iO Tryz.prog 22 := ⟨isAgg22, sizeOf22⟩
theorem gN : SliceTy Tryz.prog 22 43 3 24 (.agg #[.int .i64 0, .int .i64 0, .bool false]) := ⟨underlying22, ⟨Tryz.t43, by kernel_rfl, rfl, rfl, rfl⟩, rfl, by decide⟩
theorem kO : bV Tryz.prog 43 0 0 := bP runUnderlying43 rfl rfl sizeOf3
theorem qL : bV Tryz.prog 38 0 0 := bP runUnderlying38 rfl rfl sizeOf3
theorem aJc : SliceTy Tryz.prog 45 49 4 32 (.agg #[.int .i64 0, .int .i64 0, .int .i64 0, .int .i64 0]) := ⟨underlying45, ⟨Tryz.t49, by kernel_rfl, rfl, rfl, rfl⟩, rfl, by decide⟩
theorem zM : bV Tryz.prog 49 0 0 := bP runUnderlying49 rfl rfl sizeOf3
theorem cS : iO Tryz.prog 23 := ⟨isAgg23, sizeOf23⟩
theorem sA : bV Tryz.prog 25 3 3 := bP runUnderlying25 rfl rfl sizeOf23
theorem wI : kA Tryz.prog 43 3 := ⟨isAgg43, sizeOf43⟩
theorem qM : bV Tryz.prog 43 1 1 := bP runUnderlying43 rfl rfl sizeOf3
theorem uD : bV Tryz.prog 43 2 2 := bP runUnderlying43 rfl rfl sizeOf4
theorem oZ : iO Tryz.prog 4 := ⟨isAgg4, sizeOf4⟩
theorem wY : iR Tryz.prog 43 (.agg #[.int .i64 0, .int .i64 0, .bool false]) [(0, 1), (1, 1), (2, 1)] := ⟨zeroValue43, _, runUnderlying43, fun w => by simp [sizeOf3, sizeOf4]⟩
theorem aPw : iR Tryz.prog 25 (.agg #[.int .i64 0, .int .i64 0, .slice none 0 0, .slice none 0 0]) [(0, 1), (1, 1), (2, 1), (3, 1)] := ⟨zeroValue25, _, runUnderlying25, fun w => by simp [sizeOf22, sizeOf23, sizeOf3]⟩
theorem aMn : iO Tryz.prog 180 := ⟨isAgg180, sizeOf180⟩
theorem aSz : iO Tryz.prog 244 := ⟨isAgg244, sizeOf244⟩
theorem aCn : iR Tryz.prog 95 (.agg #[.int .i64 0, .int .i64 0, .int .i64 0, .int .i64 0, .int .i64 0]) [(0, 1), (1, 1), (2, 1), (3, 1), (4, 1)] := ⟨zeroValue95, _, runUnderlying95, fun w => by simp [sizeOf3]⟩
theorem xV : SliceTy Tryz.prog 88 95 5 40 (.agg #[.int .i64 0, .int .i64 0, .int .i64 0, .int .i64 0, .int .i64 0]) := ⟨underlying88, ⟨Tryz.t95, by kernel_rfl, rfl, rfl, rfl⟩, rfl, by decide⟩
theorem uQ : bV Tryz.prog 141 0 0 := bP runUnderlying141 rfl rfl sizeOf38
theorem oW : bV Tryz.prog 38 1 1 := bP runUnderlying38 rfl rfl sizeOf23
theorem xL : bV Tryz.prog 141 2 3 := bP runUnderlying141 rfl rfl sizeOf139
theorem aCv : iO Tryz.prog 139 := ⟨isAgg139, sizeOf139⟩
theorem aNi : qS Tryz.prog 3 VI := aOw underlying3
theorem pB : kA Tryz.prog 95 5 := ⟨isAgg95, sizeOf95⟩
theorem wO : bV Tryz.prog 95 3 3 := bP runUnderlying95 rfl rfl sizeOf3
theorem aEk : bV Tryz.prog 95 0 0 := bP runUnderlying95 rfl rfl sizeOf3
theorem zQ : bV Tryz.prog 95 1 1 := bP runUnderlying95 rfl rfl sizeOf3
theorem sC : bV Tryz.prog 95 2 2 := bP runUnderlying95 rfl rfl sizeOf3
theorem aEl : bV Tryz.prog 95 4 4 := bP runUnderlying95 rfl rfl sizeOf3
theorem wF : iR Tryz.prog 143 (.agg #[.int .i64 0, .int .i64 0]) [(0, 1), (1, 1)] := ⟨zeroValue143, _, runUnderlying143, fun w => by simp [sizeOf3]⟩
theorem iI : kA Tryz.prog 143 2 := ⟨isAgg143, sizeOf143⟩
theorem nH : bV Tryz.prog 143 0 0 := bP runUnderlying143 rfl rfl sizeOf3
theorem aHs : bV Tryz.prog 143 1 1 := bP runUnderlying143 rfl rfl sizeOf3
theorem aTh : iR Tryz.prog 141 (.agg #[.int .i64 0, .slice none 0 0, .slice none 0 0, .map none]) [(0, 2), (2, 1), (3, 1)] := ⟨zeroValue141, _, runUnderlying141, fun w => by simp [sizeOf139, sizeOf23, sizeOf38]⟩
theorem aOt : aJj Tryz.prog 95 aO := by
  rintro ⟨a0, a1, a2, a3, a4⟩ ⟨b0, b1, b2, b3, b4⟩ w
  simp [aO, bN, go_sem, Op.eqFields, Program.fieldsOf] <;> (repeat' split) <;> simp_all
theorem aTv (b : Bool) (a : aE) (w : World) : (Instr.checkKey b 10000 95 (.agg ((aO a).map bN).toArray)).run Tryz.prog w = .ok () w := by
  obtain ⟨a1, a2, a3, a4, a5⟩ := a;rw [show (10000 : Nat) = 9990 + 10 from rfl]
  generalize (9990 : Nat) = m
  simp [Instr.checkKey, aO, bN, go_sem, Std.Legacy.Range.forIn_eq_forIn_range', Std.Legacy.Range.size]
theorem aKg : qS Tryz.prog 95 (fun a : aE => Value.agg ((aO a).map bN).toArray) :=
  aBo underlying95 aOt aTv (fun a w => aKf _ rfl _ _) (by
    rintro ⟨a1, a2, a3, a4, a5⟩ ⟨b1, b2, b3, b4, b5⟩ h
    simp [aO] at h ⊢
    simp_all) (fun _ => rfl)
theorem yS : aJj Tryz.prog 143 aH := by
  rintro ⟨a0, a1⟩ ⟨b0, b1⟩ w
  simp [aH, bN, go_sem, Op.eqFields, Program.fieldsOf] <;> (repeat' split) <;> simp_all
theorem aSn (b : Bool) (a : aD) (w : World) : (Instr.checkKey b 10000 143 (.agg ((aH a).map bN).toArray)).run Tryz.prog w = .ok () w := by
  obtain ⟨a1, a2⟩ := a;rw [show (10000 : Nat) = 9990 + 10 from rfl]
  generalize (9990 : Nat) = m
  simp [Instr.checkKey, aH, bN, go_sem, Std.Legacy.Range.forIn_eq_forIn_range', Std.Legacy.Range.size]
theorem wA : qS Tryz.prog 143 (fun a : aD => Value.agg ((aH a).map bN).toArray) :=
  aBo underlying143 yS aSn (fun a w => aKf _ rfl _ _) (by
    rintro ⟨a1, a2⟩ ⟨b1, b2⟩ h
    simp [aH] at h ⊢
    simp_all) (fun _ => rfl)
theorem mB : bV Tryz.prog 141 1 2 := bP runUnderlying141 rfl rfl sizeOf23
theorem aOj : kA Tryz.prog 49 4 := ⟨isAgg49, sizeOf49⟩
theorem aEf : bV Tryz.prog 49 1 1 := bP runUnderlying49 rfl rfl sizeOf3
theorem aPf : iO Tryz.prog 45 := ⟨isAgg45, sizeOf45⟩
theorem aUf : iR Tryz.prog 49 (.agg #[.int .i64 0, .int .i64 0, .int .i64 0, .int .i64 0]) [(0, 1), (1, 1), (2, 1), (3, 1)] := ⟨zeroValue49, _, runUnderlying49, fun w => by simp [sizeOf3]⟩
theorem yO : kA Tryz.prog 72 10 := ⟨isAgg72, sizeOf72⟩
theorem aEj : bV Tryz.prog 82 3 7 := bP runUnderlying82 rfl rfl sizeOf3
theorem aUg : iR Tryz.prog 72 (.agg #[.int .i64 0, .int .i64 0, .bool false, .int .i64 0, .int .i64 0, .int .i64 0, .int .i64 0, .int .i64 0, .int .i64 0, .bool false]) [(0, 1), (1, 1), (2, 1), (3, 1), (4, 1), (5, 1), (6, 1), (7, 1), (8, 1), (9, 1)] := ⟨zeroValue72, _, runUnderlying72, fun w => by simp [sizeOf3, sizeOf4]⟩
theorem aUh : iR Tryz.prog 82 (.agg #[.slice none 0 0, .int .i64 0, .int .i64 0, .int .i64 0, .int .i64 0, .int .i64 0, .int .i64 0, .int .i64 0, .int .i64 0]) [(0, 5), (5, 1), (6, 1), (7, 1), (8, 1)] := ⟨zeroValue82, _, runUnderlying82, fun w => by simp [sizeOf3, sizeOf80]⟩
theorem cH : bV Tryz.prog 174 1 10 := bP runUnderlying174 rfl rfl sizeOf82
theorem aJm : kA Tryz.prog 82 9 := ⟨isAgg82, sizeOf82⟩
theorem aTi : iR Tryz.prog 171 (.agg #[.int .i64 0, .int .i64 0, .bool false, .int .i64 0, .int .i64 0, .int .i64 0, .int .i64 0, .int .i64 0, .int .i64 0, .bool false]) [(0, 10)] := ⟨zeroValue171, _, runUnderlying171, fun w => by simp [sizeOf72]⟩
theorem sB : bV Tryz.prog 82 4 8 := bP runUnderlying82 rfl rfl sizeOf3
theorem zN : bV Tryz.prog 72 0 0 := bP runUnderlying72 rfl rfl sizeOf3
theorem zO : bV Tryz.prog 72 1 1 := bP runUnderlying72 rfl rfl sizeOf3
theorem aJy : bV Tryz.prog 72 3 3 := bP runUnderlying72 rfl rfl sizeOf3
theorem aKa : bV Tryz.prog 72 5 5 := bP runUnderlying72 rfl rfl sizeOf3
theorem aJz : bV Tryz.prog 72 4 4 := bP runUnderlying72 rfl rfl sizeOf3
theorem aKb : bV Tryz.prog 72 6 6 := bP runUnderlying72 rfl rfl sizeOf3
theorem aEg : bV Tryz.prog 72 7 7 := bP runUnderlying72 rfl rfl sizeOf3
theorem aEh : bV Tryz.prog 72 8 8 := bP runUnderlying72 rfl rfl sizeOf3
theorem vY : kA Tryz.prog 171 10 := ⟨isAgg171, sizeOf171⟩
theorem aTj : iR Tryz.prog 174 (.agg #[.int .i64 0, .int .i64 0, .bool false, .int .i64 0, .int .i64 0, .int .i64 0, .int .i64 0, .int .i64 0, .int .i64 0, .bool false, .slice none 0 0, .int .i64 0, .int .i64 0, .int .i64 0, .int .i64 0, .int .i64 0, .int .i64 0, .int .i64 0, .int .i64 0, .int .i64 0, .int .i64 0, .int .i64 0, .slice none 0 0, .slice none 0 0]) [(0, 10), (10, 9), (19, 1), (20, 2), (22, 1), (23, 1)] := ⟨zeroValue174, _, runUnderlying174, fun w => by simp [sizeOf171, sizeOf172, sizeOf3, sizeOf78, sizeOf82, sizeOf83]⟩
theorem wN : bV Tryz.prog 82 1 5 := bP runUnderlying82 rfl rfl sizeOf3
theorem qK : bV Tryz.prog 174 4 22 := bP runUnderlying174 rfl rfl sizeOf172
theorem wC : iO Tryz.prog 172 := ⟨isAgg172, sizeOf172⟩
theorem nI : bV Tryz.prog 174 0 0 := bP runUnderlying174 rfl rfl sizeOf171
theorem sO : bV Tryz.prog 174 3 20 := bP runUnderlying174 rfl rfl sizeOf78
theorem gY : kA Tryz.prog 78 2 := ⟨isAgg78, sizeOf78⟩
theorem kP : bV Tryz.prog 82 0 0 := bP runUnderlying82 rfl rfl sizeOf80
theorem zP : bV Tryz.prog 80 1 1 := bP runUnderlying80 rfl rfl sizeOf78
theorem wX : SliceTy Tryz.prog 172 4 1 1 (.bool false) := ⟨underlying172, ⟨Tryz.t4, by kernel_rfl, rfl, rfl, rfl⟩, rfl, by decide⟩
theorem oX : bV Tryz.prog 78 0 0 := bP runUnderlying78 rfl rfl sizeOf3
theorem gR : bV Tryz.prog 171 0 0 := bP runUnderlying171 rfl rfl sizeOf72
theorem oY : bV Tryz.prog 78 1 1 := bP runUnderlying78 rfl rfl sizeOf3
theorem aMs : iR Tryz.prog 283 (.agg #[.int .i64 0, .int .i64 0]) [(0, 1), (1, 1)] := ⟨zeroValue283, _, runUnderlying283, fun w => by simp [sizeOf3]⟩
theorem aGq : kA Tryz.prog 283 2 := ⟨isAgg283, sizeOf283⟩
theorem aHv : bV Tryz.prog 283 0 0 := bP runUnderlying283 rfl rfl sizeOf3
theorem aHt : bV Tryz.prog 174 2 19 := bP runUnderlying174 rfl rfl sizeOf3
theorem aKc : bV Tryz.prog 72 9 9 := bP runUnderlying72 rfl rfl sizeOf4
theorem uE : bV Tryz.prog 80 2 3 := bP runUnderlying80 rfl rfl sizeOf78
theorem qN : bV Tryz.prog 82 2 6 := bP runUnderlying82 rfl rfl sizeOf3
theorem aHu : bV Tryz.prog 174 5 23 := bP runUnderlying174 rfl rfl sizeOf83
theorem aUc : iO Tryz.prog 83 := ⟨isAgg83, sizeOf83⟩
theorem aEi : bV Tryz.prog 80 0 0 := bP runUnderlying80 rfl rfl sizeOf76
theorem aPg : iO Tryz.prog 76 := ⟨isAgg76, sizeOf76⟩
theorem aOb : SliceTy Tryz.prog 76 78 2 16 (.agg #[.int .i64 0, .int .i64 0]) := ⟨underlying76, ⟨Tryz.t78, by kernel_rfl, rfl, rfl, rfl⟩, rfl, by decide⟩
theorem aTk : iR Tryz.prog 228 (.agg #[.int .i64 0, .bool false, .int .i64 0, .int .i64 0, .int .i64 0, .int .i64 0, .bool false]) [(0, 1), (1, 1), (2, 1), (3, 1), (4, 2), (6, 1)] := ⟨zeroValue228, _, runUnderlying228, fun w => by simp [sizeOf3, sizeOf4, sizeOf78]⟩
theorem aSg : SliceTy Tryz.prog 83 228 7 56 (.agg #[.int .i64 0, .bool false, .int .i64 0, .int .i64 0, .int .i64 0, .int .i64 0, .bool false]) := ⟨underlying83, ⟨Tryz.t228, by kernel_rfl, rfl, rfl, rfl⟩, rfl, by decide⟩
theorem aPy : iR Tryz.prog 78 (.agg #[.int .i64 0, .int .i64 0]) [(0, 1), (1, 1)] := ⟨zeroValue78, _, runUnderlying78, fun w => by simp [sizeOf3]⟩
theorem aOu : bV Tryz.prog 283 1 1 := bP runUnderlying283 rfl rfl sizeOf3
theorem aQt : bV Tryz.prog 72 2 2 := bP runUnderlying72 rfl rfl sizeOf4
theorem aJx : bV Tryz.prog 49 2 2 := bP runUnderlying49 rfl rfl sizeOf3
theorem aQs : bV Tryz.prog 49 3 3 := bP runUnderlying49 rfl rfl sizeOf3
theorem qO : bV Tryz.prog 99 0 0 := bP runUnderlying99 rfl rfl sizeOf23
theorem aKd : bV Tryz.prog 99 1 1 := bP runUnderlying99 rfl rfl sizeOf23
theorem zR : bV Tryz.prog 99 2 2 := bP runUnderlying99 rfl rfl sizeOf23

theorem kI (d : Int) (c : Int) (a : Int) {r : Bool} (h : eA d c a = some r) : Fn Tryz.prog 46 [.i d, .i c, .i a] (.b r) := by
 unfold eA at h;refine oT [.tmp 6] func46 results46 ntmps46 ?_;refine aC (aA (ta Z6 (aB (aC (aA (tm (.i d) (tm (.i c) (to (scm rfl rfl rfl) (tm (Z56 c d) ?_)))))))));obtain ⟨b1, h2, h⟩ := bns h;refine aW 4 [] 14 b1 ?_ ?_
 ·refine bch h2 (fun c3 h2 => ?_) (fun c3 h2 => ?_)
  ·refine tk c3 (sm (.i d)) (tk c3 (sm (.i a)) (tk c3 (scm rfl rfl rfl) (to (spt (Z56 d a) c3) ?_)));obtain rfl := sIn h2;refine aB (aI rfl trivial rfl)
  ·refine tp c3 (tp c3 (tp c3 (to (spf Z6 c3) ?_)));obtain rfl := sIn h2;refine aB (aI rfl trivial rfl)
 ·refine ta (.b b1) (aB ?_);obtain rfl := sIn h;exact rt

theorem aBg (a : aU) {r : Int} (h : mI a = some r) : Fn Tryz.prog 9 [.agg (aK a)] (.i r) := by
 unfold mI at h;refine oT [.tmp 2] func9 results9 ntmps9 ?_;refine aC (aA ?_);refine bB rfl (cO (v := .agg (aK a)) (aF rfl) rfl rfl rfl) ?_;rintro _ ⟨b1, rfl⟩;refine ta (.i 0) (aB (aC (aA (tfl 0 rfl rfl eB rfl gJ (to (sle rfl gN.of) (ta (Z22 a) (aB (aC (aC (aA (tfl 0 rfl rfl dE rfl aS ?_)))))))))));refine to (scm rfl rfl rfl) (tm (.b (!decide (a.Size = 4))) ?_);obtain ⟨b2, h3, h⟩ := bns h;refine aW 4 [1, 3] 18 b2 ?_ ?_
 ·refine bch h3 (fun q h3 => ?_) (fun q h3 => ?_)
  ·refine tkl 0 q rfl rfl dE rfl aS (tk q (scm rfl rfl rfl) (to (spt (.b (!decide (a.Size = 8))) q) ?_));obtain rfl := sIn h3;refine aB (aI rfl ⟨rfl, rfl, trivial⟩ rfl)
  ·refine tp q (tp q (tp q (to (spf Z6 q) ?_)));obtain rfl := sIn h3;refine aB (aI rfl ⟨rfl, rfl, trivial⟩ rfl)
 ·refine tm (.b b2) ?_;obtain ⟨b4, h5, h⟩ := bns h;refine aW 6 [1, 3] 25 b4 ?_ ?_
  ·refine bch h5 (fun m h5 => ?_) (fun m h5 => ?_)
   ·refine tp m (tp m (tp m (tp m (tp m (to (spt Z17 m) ?_)))));obtain rfl := sIn h5;refine aB (aI rfl ⟨rfl, rfl, trivial⟩ rfl)
   ·refine tk m (sm (Z22 a)) (tkl 0 m rfl rfl dE rfl aS ?_);obtain ⟨H, I, h5⟩ := bns h5;refine tk m (scr call46 (kI _ _ _ I)) (tk m (sn rfl) (to (spf (.b (!H)) m) ?_));obtain rfl := sIn h5;refine aB (aI rfl ⟨rfl, rfl, trivial⟩ rfl)
  ·refine tm (.b b4) ?_;obtain ⟨b6, h7, h⟩ := bns h;refine aW 10 [1, 3] 36 b6 ?_ ?_
   ·refine bch h7 (fun c h7 => ?_) (fun c h7 => ?_)
    ·refine tp c (tp c (tp c (tp c (tp c (tp c (tp c (tp c (tp c (to (spt Z17 c) ?_)))))))));obtain rfl := sIn h7;refine aB (aI rfl ⟨rfl, rfl, trivial⟩ rfl)
    ·refine tkl 0 c rfl rfl lL rfl aS (tk c (sm (Z22 a)) (tkl 0 c rfl rfl dE rfl aS (tk c (nM (aF rfl) rfl rfl (by decide)) ?_)));refine tk c (aSf (aF rfl) rfl rfl) ?_;obtain ⟨J, K, h7⟩ := bns h7;refine tk c (scr call46 (kI _ _ _ K)) (tk c (sn rfl) (to (spf (.b (!J)) c) ?_));obtain rfl := sIn h7;refine aB (aI rfl ⟨rfl, rfl, trivial⟩ rfl)
   ·refine tm (.b b6) ?_;obtain ⟨b8, h9, h⟩ := bns h;refine aW 9 [1, 3] 46 b8 ?_ ?_
    ·refine bch h9 (fun f h9 => ?_) (fun f h9 => ?_)
     ·refine tp f (tp f (tp f (tp f (tp f (tp f (tp f (tp f (to (spt Z17 f) ?_))))))));obtain rfl := sIn h9;refine aB (aI rfl ⟨rfl, rfl, trivial⟩ rfl)
     ·refine tkl 0 f rfl rfl dE rfl aS (tk f (sm (Z22 a)) (tk f (sar rfl rfl rfl) (tkl 0 f rfl rfl dE rfl aS (tk f (nM (aF rfl) rfl rfl (by decide)) ?_))));refine tk f (scm rfl rfl rfl) (to (spf (.b (decide ((w64 (a.Size.tdiv 2)) < (Z10 a)))) f) ?_);obtain rfl := sIn h9;refine aB (aI rfl ⟨rfl, rfl, trivial⟩ rfl)
    ·refine tm (.b b8) ?_;obtain ⟨L, y, h⟩ := bns h;refine aW 5 [1, 3] 52 L ?_ ?_
     ·refine bch y (fun o y => ?_) (fun o y => ?_)
      ·refine tp o (tp o (tp o (tp o (to (spt Z17 o) ?_))));obtain rfl := sIn y;refine aB (aI rfl ⟨rfl, rfl, trivial⟩ rfl)
      ·refine tkl 0 o rfl rfl sA rfl cS (tk o (sle rfl bM.of) (tk o (scm rfl rfl rfl) (to (spf (.b (decide (10 < (a.Lots.length : Int)))) o) ?_)));obtain rfl := sIn y;refine aB (aI rfl ⟨rfl, rfl, trivial⟩ rfl)
     ·refine aB ?_;refine tih h (fun M h => ?_) (fun M h => ?_)
      ·refine aC (aA (ta (.i 60) (aB ?_)));obtain rfl := sIn h;refine bK (bC (bE (l := [2]) ⟨rfl, trivial⟩)) ?_;exact rt
      ·refine aY (aC (aC (aA (ta (.i 0) (aB (bT ?_))))));refine cW (S := Int) [1, 3] (fun A => [(4, .i A)]) (fun A => [.box b1 0 (aK a)]) (fun k A => dV (a.Persons.length : Int) a k A) (fun _ => rfl) (0) h (aT [0] rfl rfl (aM rfl (aR ⟨rfl, rfl, trivial⟩))) ?_;rintro N e h;simp only [dV] at h;refine aC (aC (aA (tm (.i e) (tm (Z22 a) (to (scm rfl rfl rfl) (aB ?_))))));refine tih h (fun O h => ?_) (fun O h => ?_)
       ·refine aY (aC (bT (aC (aA (tfl 0 rfl rfl eB rfl gJ (tm (.i e) ?_))))));obtain ⟨s, P, h⟩ := bns h;refine to (six rfl rfl gN.of (bU aL P)) (to (yM (aL s) rfl wI) ?_);refine bB rfl (cD (zs := [.j 0, .j 0, .k false]) (aF rfl) zeroValue43 rfl rfl) ?_;rintro _ ⟨E, rfl⟩;refine to (sst 1 rfl rfl sizeOf43 (aL s)) (aB (aC (aC (aA (tfl 1 rfl rfl kO rfl aS ?_)))));obtain ⟨Q, T, h⟩ := bns h;refine to (scr call46 (kI _ _ _ T)) (to (sn rfl) (tm (.b (!Q)) ?_));obtain ⟨F, t, h⟩ := bns h;refine aW 5 [1, 3, 4, 5] 72 F ?_ ?_
        ·refine bch t (fun p t => ?_) (fun p t => ?_)
         ·refine tp p (tp p (tp p (tp p (to (spt Z17 p) ?_))));obtain rfl := sIn t;refine aB (aI rfl ⟨rfl, rfl, rfl, rfl, trivial⟩ rfl)
         ·refine tkl 1 p rfl rfl qM rfl aS ?_;obtain ⟨U, V, t⟩ := bns t;refine tk p (scr call46 (kI _ _ _ V)) (tk p (sn rfl) (to (spf (.b (!U)) p) ?_));obtain rfl := sIn t;refine aB (aI rfl ⟨rfl, rfl, rfl, rfl, trivial⟩ rfl)
        ·refine tm (.b F) ?_;obtain ⟨W, u, h⟩ := bns h;refine aW 9 [1, 3, 4, 5] 82 W ?_ ?_
         ·refine bch u (fun g u => ?_) (fun g u => ?_)
          ·refine tp g (tp g (tp g (tp g (tp g (tq (tq (tp g (to (spt Z17 g) ?_))))))));obtain rfl := sIn u;refine aB (aI rfl ⟨rfl, rfl, rfl, rfl, trivial⟩ rfl)
          ·refine tk g (sm (.i e)) (tkl 0 g rfl rfl lL rfl aS (tk g (scm rfl rfl rfl) (tk g (sm (.b (decide (e < a.Seeds)))) ?_)));obtain ⟨G, z, u⟩ := bns u;refine aW 3 [1, 3, 4, 5, 73, 74, 75, 76, 77, 78] 81 G ?_ ?_
           ·refine bch z (fun x z => ?_) (fun x z => ?_)
            ·refine tkl 1 x rfl rfl uD rfl oZ (tk g (spt (.b s.Qualified) x) ?_);obtain rfl := sIn z;refine aB (aI rfl ⟨rfl, rfl, rfl, rfl, rfl, rfl, rfl, rfl, rfl, rfl, trivial⟩ rfl)
            ·refine tp x (tp x (tk g (spf Z6 x) ?_));obtain rfl := sIn z;refine aB (aI rfl ⟨rfl, rfl, rfl, rfl, rfl, rfl, rfl, rfl, rfl, rfl, trivial⟩ rfl)
           ·refine to (spf (.b G) g) ?_;obtain rfl := sIn u;refine aB (aI rfl ⟨rfl, rfl, rfl, rfl, trivial⟩ rfl)
         ·refine aB ?_;refine tih h (fun X h => ?_) (fun X h => ?_)
          ·refine aC (aA (ta (.i 60) (aB ?_)));obtain rfl := sIn h;refine bK (bC (bE (l := [2]) ⟨rfl, trivial⟩)) ?_;exact rt
          ·refine aY (aC (aA (ta (.i 0) (aB ?_))));refine aHf ?_;refine cW (S := Int) [1, 3, 4, 5] (fun B => [(6, .i B)]) (fun B => [.box b1 0 (aK a), .box E 0 (aL s)]) (fun k B => gC (dV (a.Persons.length : Int) a N) (a.Persons.length : Int) e a s k B) (fun _ => rfl) (0) h (aT [0, 1] rfl rfl (aM rfl (aR ⟨rfl, rfl, rfl, rfl, trivial⟩))) ?_;rintro a5 j h;simp only [gC] at h;refine aC (aC (aA (tm (.i j) (tm (.i e) (to (scm rfl rfl rfl) (aB ?_))))));refine tih h (fun Y h => ?_) (fun Y h => ?_)
           ·refine aY (aC (bT (aC ?_)));obtain ⟨w, Z, h⟩ := bns h;refine dJ mix 8 [1, 3, 4, 5, 6] [(93, .i w.Player), (95, .i s.Player)] ?_ ?_
            ·refine ⟨[(88, 0, .bp b1 0 2), (89, 1, .d (.sl 3 (Z11 a))), (90, 2, .i j), (91, 3, .cp [.j w.Player, .j w.Nation, .k w.Qualified]), (92, 4, .cp [.j w.Player]), (93, 5, .i w.Player), (94, 6, .bp E 0 0), (95, 7, .i s.Player)], ?_, ?_⟩
             · exact dk [0, 1, 0, 203, 4, 5, 0, 7] ⟨go (zf rfl eB),
 go (zl 0 rfl rfl rfl gJ),
 go (zm (.i j)),
 go (zix rfl rfl gN.of (bU aL Z)),
 go (zfc [.j w.Player] rfl kO),
 go (zlc rfl aS),
 go (zf rfl kO),
 go (zl 1 rfl rfl rfl aS), trivial⟩
             · exact bZ (aM rfl (aM rfl (aR ⟨rfl, rfl, rfl, rfl, rfl, trivial⟩)))
            ·refine to (scm rfl rfl rfl) (aB ?_);refine tih h (fun a0 h => ?_) (fun a0 h => ?_)
             ·refine aC (aA (ta (.i 60) (aB ?_)));obtain rfl := sIn h;refine bK (bC (bE (l := [2]) ⟨rfl, trivial⟩)) ?_;exact rt
             ·refine dB ?_;refine aA (tm (.i j) (to (sar rfl rfl rfl) (ta (.i (w64 (j + 1))) (aB ?_))));exact ⟨(w64 (j + 1)), h, aT [0, 1] rfl rfl (aM rfl (aR ⟨rfl, rfl, rfl, rfl, trivial⟩))⟩
           ·refine cK ?_;refine .inl ⟨rfl, ?_⟩;simp only [pQ] at h;simp only [pP] at h;refine aA (tm (.i e) (to (sar rfl rfl rfl) (ta (.i (w64 (e + 1))) (aB ?_))));exact ⟨(w64 (e + 1)), h, aT [0] rfl rfl (aM rfl (aR ⟨rfl, rfl, trivial⟩))⟩
       ·refine cK ?_;refine .inl ⟨rfl, ?_⟩;simp only [mO] at h;refine aC (aC (aA (ta (.i 0) (aB (bT ?_)))));refine cW (S := Int) [1] (fun C => [(7, .i C)]) (fun C => [.box b1 0 (aK a)]) (fun k C => gD a k C) (fun _ => rfl) (0) h (aT [0] rfl rfl (aM rfl (aR ⟨rfl, trivial⟩))) ?_;rintro a6 n h;simp only [gD] at h;refine aC (aC (aA (tm (.i n) (tfl 0 rfl rfl sA rfl cS (to (sle rfl bM.of) (to (scm rfl rfl rfl) (aB ?_)))))));refine tih h (fun a1 h => ?_) (fun a1 h => ?_)
        ·refine aY (aC (bT (aC (aA (tfl 0 rfl rfl sA rfl cS (tm (.i n) ?_))))));obtain ⟨a7, a2, h⟩ := bns h;refine to (six rfl rfl bM.of (bU aG a2)) (to (slc rfl aS) ?_);obtain ⟨a8, a3, h⟩ := bns h;refine to (scr call46 (kI _ _ _ a3)) (to (sn rfl) (aB ?_));refine tih h (fun a4 h => ?_) (fun a4 h => ?_)
         ·refine aC (aA (ta (.i 60) (aB ?_)));obtain rfl := sIn h;refine bK (bC (bE (l := [2]) ⟨rfl, trivial⟩)) ?_;exact rt
         ·refine dB ?_;refine aA (tm (.i n) (to (sar rfl rfl rfl) (ta (.i (w64 (n + 1))) (aB ?_))));exact ⟨(w64 (n + 1)), h, aT [0] rfl rfl (aM rfl (aR ⟨rfl, trivial⟩))⟩
        ·refine cK ?_;refine .inl ⟨rfl, ?_⟩;simp only [pR] at h;refine aC (aA (ta (.i 0) (aB ?_)));obtain rfl := sIn h;refine bK (bC (bE (l := [2]) ⟨rfl, trivial⟩)) ?_;exact rt

theorem xE (c : List Int) (e : Int) {r : Bool} (h : mW c e = some r) : Fn Tryz.prog 107 [.d (Z4 c), .i e] (.b r) := by
 unfold mW at h;refine oT [.tmp 4] func107 results107 ntmps107 ?_;refine aC (aA (ta Z6 (aB (aC (aC (aA (ta (.i 0) (aB (bT ?_)))))))));refine cW (S := Int) [0, 1] (fun s1 => [(5, .i s1)]) (fun s1 => []) (fun k s1 => iT c e k s1) (fun _ => rfl) (0) h (aT [] rfl rfl (aM rfl (aR ⟨rfl, rfl, trivial⟩))) ?_;rintro k2 a h;simp only [iT] at h;refine aC (aC (aA (tm (.i a) (tm (Z35 c) (to (sle rfl bM.of) (to (scm rfl rfl rfl) (aB ?_)))))));refine tih h (fun c3 h => ?_) (fun c3 h => ?_)
 ·refine aY (aC (bT (aC (aA (tm (Z35 c) (tm (.i a) ?_))))));obtain ⟨x4, h5, h⟩ := bns h;refine to (six rfl rfl bM.of (bU aG h5)) (to (slc rfl aS) (tm (.i e) (to (scm rfl rfl rfl) (aB ?_))));refine tih h (fun c6 h => ?_) (fun c6 h => ?_)
  ·refine aC (aA (ta Z17 (aB ?_)));obtain rfl := sIn h;exact rt
  ·refine dB ?_;refine aA (tm (.i a) (to (sar rfl rfl rfl) (ta (.i (w64 (a + 1))) (aB ?_))));exact ⟨(w64 (a + 1)), h, aT [] rfl rfl (aM rfl (aR ⟨rfl, rfl, trivial⟩))⟩
 ·refine cK ?_;refine .inl ⟨rfl, ?_⟩;simp only [rW] at h;refine aC (aA (ta Z6 (aB ?_)));obtain rfl := sIn h;exact rt

theorem aAy (e : aU) (a : List Int) {r : Bool} (h : lO e a = some r) : Fn Tryz.prog 86 (Z53 e a) (.b r) := by
 unfold lO at h;refine oT [.tmp 4] func86 results86 ntmps86 ?_;refine aC (aA ?_);refine bB rfl (cO (v := .agg (aK e)) (aF rfl) rfl rfl rfl) ?_;rintro _ ⟨b1, rfl⟩;refine ta Z6 (aB (aC (aC (aA (ta (.i 0) (aB (bT ?_)))))));refine cW (S := Int) [1, 2] (fun s2 => [(5, .i s2)]) (fun s2 => [.box b1 0 (aK e)]) (fun k s2 => fP a e k s2) (fun _ => rfl) (0) h (aT [0] rfl rfl (aM rfl (aR ⟨rfl, rfl, trivial⟩))) ?_;rintro k3 c h;simp only [fP] at h;refine aC (aC (aA (tm (.i c) (tfl 0 rfl rfl eB rfl gJ (to (sle rfl gN.of) (to (scm rfl rfl rfl) (aB ?_)))))));refine tih h (fun c4 h => ?_) (fun c4 h => ?_)
 ·refine aY (aC (bT (aC (aA (tm (Z35 a) (tfl 0 rfl rfl eB rfl gJ (tm (.i c) ?_)))))));obtain ⟨x5, h6, h⟩ := bns h;refine to (six rfl rfl gN.of (bU aL h6)) (to (sfc [.j x5.Player] rfl kO) (to (slc rfl aS) ?_));obtain ⟨r7, h8, h⟩ := bns h;refine to (scr call107 (xE _ _ h8)) (to (sn rfl) (aB ?_));refine tih h (fun c9 h => ?_) (fun c9 h => ?_)
  ·refine aC (aA (ta Z6 (aB ?_)));obtain rfl := sIn h;refine bK (bC (bE (l := [4]) ⟨rfl, trivial⟩)) ?_;exact rt
  ·refine dB ?_;refine aA (tm (.i c) (to (sar rfl rfl rfl) (ta (.i (w64 (c + 1))) (aB ?_))));exact ⟨(w64 (c + 1)), h, aT [0] rfl rfl (aM rfl (aR ⟨rfl, rfl, trivial⟩))⟩
 ·refine cK ?_;refine .inl ⟨rfl, ?_⟩;simp only [oS] at h;refine aC (aA (ta Z17 (aB ?_)));obtain rfl := sIn h;refine bK (bC (bE (l := [4]) ⟨rfl, trivial⟩)) ?_;exact rt

theorem kH (c : aU) (a : Int) {r : Int} (h : fX c a = some r) : Fn Tryz.prog 35 [.agg (aK c), .i a] (.i r) := by
 unfold fX at h;refine oT [.tmp 4] func35 results35 ntmps35 ?_;refine aC (aA ?_);refine bB rfl (cO (v := .agg (aK c)) (aF rfl) rfl rfl rfl) ?_;rintro _ ⟨b1, rfl⟩;refine ta (.i 0) (aB (aC (aC (aA (ta (.i 0) (aB (bT ?_)))))));refine cW (S := Int) [1, 2] (fun s2 => [(5, .i s2)]) (fun s2 => [.box b1 0 (aK c)]) (fun k s2 => fO a c k s2) (fun _ => rfl) (0) h (aT [0] rfl rfl (aM rfl (aR ⟨rfl, rfl, trivial⟩))) ?_;rintro k3 b h;simp only [fO] at h;refine aC (aC (aA (tm (.i b) (tfl 0 rfl rfl eB rfl gJ (to (sle rfl gN.of) (to (scm rfl rfl rfl) (aB ?_)))))));refine tih h (fun c4 h => ?_) (fun c4 h => ?_)
 ·refine aY (aC (bT (aC (aA (tfl 0 rfl rfl eB rfl gJ (tm (.i b) ?_))))));obtain ⟨x5, h6, h⟩ := bns h;refine to (six rfl rfl gN.of (bU aL h6)) (to (sfc [.j x5.Player] rfl kO) (to (slc rfl aS) (tm (.i a) (to (scm rfl rfl rfl) (aB ?_)))));refine tih h (fun c7 h => ?_) (fun c7 h => ?_)
  ·refine aC (aA (tm (.i b) (ta (.i b) (aB ?_))));obtain rfl := sIn h;refine bK (bC (bE (l := [4]) ⟨rfl, trivial⟩)) ?_;exact rt
  ·refine dB ?_;refine aA (tm (.i b) (to (sar rfl rfl rfl) (ta (.i (w64 (b + 1))) (aB ?_))));exact ⟨(w64 (b + 1)), h, aT [0] rfl rfl (aM rfl (aR ⟨rfl, rfl, trivial⟩))⟩
 ·refine cK ?_;refine .inl ⟨rfl, ?_⟩;simp only [oQ] at h;refine aC (aA (ta (.i (-1)) (aB ?_)));obtain rfl := sIn h;refine bK (bC (bE (l := [4]) ⟨rfl, trivial⟩)) ?_;exact rt

theorem zJ (c : aU) (g : Int) (j : Int) {r : Bool} (h : kX c g j = some r) : Fn Tryz.prog 87 [.agg (aK c), .i g, .i j] (.b r) := by
 unfold kX at h;refine oT [.tmp 6] func87 results87 ntmps87 ?_;refine aC (aA ?_);refine bB rfl (cO (v := .agg (aK c)) (aF rfl) rfl rfl rfl) ?_;rintro _ ⟨b1, rfl⟩;refine ta Z6 (aB (aC (aC (aA (tm (.i g) (to (scm rfl rfl rfl) (tm (Z29 g) ?_)))))));obtain ⟨b2, h3, h⟩ := bns h;refine aW 3 [1, 2, 3] 14 b2 ?_ ?_
 ·refine bch h3 (fun m h3 => ?_) (fun m h3 => ?_)
  ·refine tp m (tp m (to (spt Z17 m) ?_));obtain rfl := sIn h3;refine aB (aI rfl ⟨rfl, rfl, rfl, trivial⟩ rfl)
  ·refine tk m (sm (.i j)) (tk m (scm rfl rfl rfl) (to (spf (Z29 j) m) ?_));obtain rfl := sIn h3;refine aB (aI rfl ⟨rfl, rfl, rfl, trivial⟩ rfl)
 ·refine aB ?_;refine tih h (fun c4 h => ?_) (fun c4 h => ?_)
  ·refine aC (aA (tm (.i g) (tm (.i j) (to (scm rfl rfl rfl) (ta (.b (!decide (g = j))) (aB ?_))))));obtain rfl := sIn h;refine bK (bC (bE (l := [6]) ⟨rfl, trivial⟩)) ?_;exact rt
  ·refine aY (aC ?_);obtain ⟨r6, h7, h⟩ := bns h;obtain ⟨x8, h9, h⟩ := bns h;obtain ⟨z, A, h⟩ := bns h;obtain ⟨f, B, h⟩ := bns h;refine fZ mix 17 [] (fun X5 => [(7, .bp (X5 14).b 0 0), (8, .bp (X5 15).b 0 0), (31, .agg (aL f))]) (fun X5 => [.box b1 0 (aK c), .box (X5 14).b 0 (aL x8), .box (X5 15).b 0 Z24]) ?_ ?_
   ·refine ⟨2, fun X5 => [(18, 0, .bp b1 0 2), (19, 1, .d (.sl 3 (Z11 c))), (20, 2, .agg (aK c)), (21, 3, .i g), (22, 4, .i r6), (23, 5, .cp [.j x8.Player, .j x8.Nation, .k x8.Qualified]), (24, 6, .agg (aL x8)), (25, 7, .bp b1 0 2), (26, 8, .d (.sl 3 (Z11 c))), (27, 9, .agg (aK c)), (28, 10, .i j), (29, 11, .i z), (30, 12, .cp [.j f.Player, .j f.Nation, .k f.Qualified]), (31, 13, .agg (aL f)), (7, 14, .bp (X5 14).b 0 0), (8, 15, .bp (X5 15).b 0 0)], fun X5 => [([], .box b1 0 (aK c)), ([(16, .box (X5 14).b 0 (aL x8)), (14, .box (X5 14).b 0 Z24)], nob), ([(15, .box (X5 15).b 0 Z24)], nob)], ?_, ?_⟩
    · exact xok [(0, 17), (1, 17), (0, 17), (0, 17), (304, 17), (205, 17), (6, 17), (0, 0), (8, 0), (0, 17), (0, 17), (1011, 17), (912, 0), (13, 0), (0, 17), (0, 17), (71516, 0)] ⟨fun _ _ w _ k => xp w (yf k rfl eB),
 fun _ _ w _ k => xp w (yl k 0 rfl (og k rfl rfl) rfl gJ),
 fun _ _ w _ k => xp w (yla k 0 (aK c) rfl (og k rfl rfl) dO),
 fun _ _ w _ k => xp w (ym k (.i g)),
 fun _ _ w _ k => xp w (dC (aF rfl) (.func _ _ call35) (ev2 (aV k rfl) (ev2 (aV k rfl) evn)) rfl (BVs.refl _ _) (kH _ _ h7) rfl),
 fun _ _ w _ k => xp w (yix k rfl rfl gN.of (bU aL h9)),
 fun _ _ w _ k => xp w (aOg k (aL x8) rfl wI),
 fun _ _ w _ k => xp w (yf k rfl eB),
 fun _ _ w _ k => xp w (yl k 0 rfl (og k rfl rfl) rfl gJ),
 fun _ _ w _ k => xp w (yla k 0 (aK c) rfl (og k rfl rfl) dO),
 fun _ _ w _ k => xp w (ym k (.i j)),
 fun _ _ w _ k => xp w (dC (aF rfl) (.func _ _ call35) (ev2 (aV k rfl) (ev2 (aV k rfl) evn)) rfl (BVs.refl _ _) (kH _ _ A) rfl),
 fun _ _ w _ k => xp w (yix k rfl rfl gN.of (bU aL B)),
 fun _ _ w _ k => xp w (aOg k (aL f) rfl wI),
 fun X5 S hw hi hS => oG (X := X5) (p := 1) (v := fun x => .bp x.b 0 0) (mo := fun x => .box x.b 0 Z24) hS hi rfl rfl (fun _ => rfl) hw (fun _ => rfl) (fun _ => rfl) (fun _ => rfl) (fun _ => ⟨rfl, rfl, .inr rfl, ⟨rfl, rfl, .inr rfl, ⟨rfl, rfl, .inr rfl, ⟨rfl, rfl, .inr rfl, ⟨rfl, rfl, .inr rfl, ⟨rfl, rfl, .inr rfl, ⟨rfl, rfl, .inr rfl, ⟨rfl, rfl, .inr rfl, ⟨rfl, rfl, .inr rfl, ⟨rfl, rfl, .inr rfl, ⟨rfl, rfl, .inr rfl, ⟨rfl, rfl, .inr rfl, ⟨rfl, rfl, .inr rfl, ⟨rfl, rfl, .inr rfl, ⟨rfl, rfl, .inl rfl, ⟨rfl, rfl, .inr rfl, trivial⟩⟩⟩⟩⟩⟩⟩⟩⟩⟩⟩⟩⟩⟩⟩⟩) (fun _ => ⟨trivial, rfl, ⟨⟨rfl, .inl rfl, ⟨rfl, .inl rfl, trivial⟩⟩, rfl, ⟨⟨rfl, .inr rfl, trivial⟩, rfl, trivial⟩⟩⟩) (gV (cD (zs := [.j 0, .j 0, .k false]) (aF rfl) zeroValue43 rfl rfl) (by rintro _ ⟨w, rfl⟩; exact ⟨⟨w, undef⟩, aT [0, 3, 2] rfl rfl (le_refl _)⟩)),
 fun X5 S hw hi hS => oG (X := X5) (p := 2) (v := fun x => .bp x.b 0 0) (mo := fun x => .box x.b 0 Z24) hS hi rfl rfl (fun _ => rfl) hw (fun _ => rfl) (fun _ => rfl) (fun _ => rfl) (fun _ => ⟨rfl, rfl, .inr rfl, ⟨rfl, rfl, .inr rfl, ⟨rfl, rfl, .inr rfl, ⟨rfl, rfl, .inr rfl, ⟨rfl, rfl, .inr rfl, ⟨rfl, rfl, .inr rfl, ⟨rfl, rfl, .inr rfl, ⟨rfl, rfl, .inr rfl, ⟨rfl, rfl, .inr rfl, ⟨rfl, rfl, .inr rfl, ⟨rfl, rfl, .inr rfl, ⟨rfl, rfl, .inr rfl, ⟨rfl, rfl, .inr rfl, ⟨rfl, rfl, .inr rfl, ⟨rfl, rfl, .inr rfl, ⟨rfl, rfl, .inl rfl, trivial⟩⟩⟩⟩⟩⟩⟩⟩⟩⟩⟩⟩⟩⟩⟩⟩) (fun _ => ⟨trivial, rfl, ⟨⟨rfl, .inr rfl, ⟨rfl, .inr rfl, trivial⟩⟩, rfl, ⟨⟨rfl, .inl rfl, trivial⟩, rfl, trivial⟩⟩⟩) (gV (cD (zs := [.j 0, .j 0, .k false]) (aF rfl) zeroValue43 rfl rfl) (by rintro _ ⟨w, rfl⟩; exact ⟨⟨w, undef⟩, aT [0, 1, 3] rfl rfl (le_refl _)⟩)),
 fun _ _ _ _ k => xs 1 k rfl rfl (rA (i := 1) (aV k rfl) (og k rfl rfl) (aV k rfl) rfl rfl sizeOf43 rfl (aF rfl) (Nat.le_of_ble_eq_true rfl) (ds' := (aL x8)) rfl), trivial⟩
    · exact fun X5 => bZ (aM rfl (aM rfl (aM rfl (aR trivial))))
   ·intro X5;refine to (sst 2 rfl rfl sizeOf43 (aL f)) (aB (aC (aA (tfl 1 rfl rfl qM rfl aS (to (scm rfl rfl rfl) (tm (.b (decide (x8.Nation = 0))) ?_))))));obtain ⟨t, q, h⟩ := bns h;refine aW 6 [7, 8] 41 t ?_ ?_
    ·refine bch q (fun e q => ?_) (fun e q => ?_)
     ·refine tp e (tp e (tp e (tp e (tp e (to (spt Z17 e) ?_)))));obtain rfl := sIn q;refine aB (aI rfl ⟨rfl, rfl, trivial⟩ rfl)
     ·refine tkl 1 e rfl rfl qM rfl aS (tkl 2 e rfl rfl qM rfl aS (tk e (scm rfl rfl rfl) (to (spf (.b (!decide (x8.Nation = f.Nation))) e) ?_)));obtain rfl := sIn q;refine aB (aI rfl ⟨rfl, rfl, trivial⟩ rfl)
    ·refine tm (.b t) ?_;obtain ⟨u, n, h⟩ := bns h;refine aW 8 [] 50 u ?_ ?_
     ·refine bch n (fun a n => ?_) (fun a n => ?_)
      ·refine tkl 1 a rfl rfl uD rfl oZ (tk a (sm (.b x8.Qualified)) ?_);obtain ⟨y, s, n⟩ := bns n;refine aW 3 [42] 48 y ?_ ?_
       ·refine bch s (fun o s => ?_) (fun o s => ?_)
        ·refine tkl 2 o rfl rfl uD rfl oZ (tk a (spt (.b f.Qualified) o) ?_);obtain rfl := sIn s;refine aB (aI rfl ⟨rfl, trivial⟩ rfl)
        ·refine tp o (tp o (tk a (spf Z6 o) ?_));obtain rfl := sIn s;refine aB (aI rfl ⟨rfl, trivial⟩ rfl)
       ·refine tk a (sn rfl) (to (spt (.b (!y)) a) ?_);obtain rfl := sIn n;refine aB (aI rfl trivial rfl)
      ·refine tp a (tp a (tp a (tq (tq (tp a (tp a (to (spf Z6 a) ?_)))))));obtain rfl := sIn n;refine aB (aI rfl trivial rfl)
     ·refine ta (.b u) (aB ?_);obtain rfl := sIn h;refine bK (bC (bE (l := [6]) ⟨rfl, trivial⟩)) ?_;exact rt

theorem aDb (a : List Int) (b : Int) {r : Int} (h : nB a b = some r) : Fn Tryz.prog 88 [.d (Z4 a), .i b] (.i r) := by
 unfold nB at h;refine oT [.tmp 4] func88 results88 ntmps88 ?_;refine aC (aA (ta (.i 0) (aB (aC (aC (aA (ta (.i 0) (aB (bT ?_)))))))));refine cW (S := Int) [0, 1] (fun s1 => [(5, .i s1)]) (fun s1 => []) (fun k s1 => gO a b k s1) (fun _ => rfl) (0) h (aT [] rfl rfl (aM rfl (aR ⟨rfl, rfl, trivial⟩))) ?_;rintro k2 c h;simp only [gO] at h;refine aC (aC (aA (tm (.i c) (tm (Z35 a) (to (sle rfl bM.of) (to (scm rfl rfl rfl) (aB ?_)))))));refine tih h (fun c3 h => ?_) (fun c3 h => ?_)
 ·refine aY (aC (bT (aC (aA (tm (Z35 a) (tm (.i c) ?_))))));obtain ⟨x4, h5, h⟩ := bns h;refine to (six rfl rfl bM.of (bU aG h5)) (to (slc rfl aS) (tm (.i b) (to (scm rfl rfl rfl) (aB ?_))));refine tih h (fun c6 h => ?_) (fun c6 h => ?_)
  ·refine aC (aA (tm (.i c) (ta (.i c) (aB ?_))));obtain rfl := sIn h;exact rt
  ·refine dB ?_;refine aA (tm (.i c) (to (sar rfl rfl rfl) (ta (.i (w64 (c + 1))) (aB ?_))));exact ⟨(w64 (c + 1)), h, aT [] rfl rfl (aM rfl (aR ⟨rfl, rfl, trivial⟩))⟩
 ·refine cK ?_;refine .inl ⟨rfl, ?_⟩;simp only [qF] at h;refine aC (aA (ta (.i (-1)) (aB ?_)));obtain rfl := sIn h;exact rt

theorem aBi (a : Int) {r : Int} (h : oR a = some r) : Fn Tryz.prog 89 [.i a] (.i r) := by
 unfold oR at h;refine oT [.tmp 2] func89 results89 ntmps89 ?_;refine aC (aA (ta (.i 0) (aB (aC (aA (tm (.i a) (to (aLa (aF rfl) rfl rfl (.inr (.inr ⟨rfl, rfl⟩))) ?_)))))));refine ta (.i (aDv a 1)) (aB ?_);obtain rfl := sIn h;exact rt

theorem aBh (a : aU) (c : List Int) {r : Bool} (h : mJ a c = some r) : Fn Tryz.prog 33 (Z53 a c) (.b r) := by
 unfold mJ at h;refine oT [.tmp 4] func33 results33 ntmps33 ?_;refine aC (aA ?_);refine bB rfl (cO (v := .agg (aK a)) (aF rfl) rfl rfl rfl) ?_;rintro _ ⟨b1, rfl⟩;refine ta Z6 (aB (aC (aC (aA (to (sla 0 (aK a) rfl rfl dO) (tm (Z35 c) ?_))))));obtain ⟨r2, h3, h⟩ := bns h;refine to (scr call86 (aAy _ _ h3)) (to (sn rfl) (aB ?_));refine tih h (fun c4 h => ?_) (fun c4 h => ?_)
 ·refine aC (aA (ta Z6 (aB ?_)));obtain rfl := sIn h;refine bK (bC (bE (l := [4]) ⟨rfl, trivial⟩)) ?_;exact rt
 ·refine aY (aC (aC (aA (ta (.i 0) (aB (bT ?_))))));refine cW (S := Int) [1, 2] (fun s5 => [(5, .i s5)]) (fun s5 => [.box b1 0 (aK a)]) (fun k s5 => gE c a k s5) (fun _ => rfl) (0) h (aT [0] rfl rfl (aM rfl (aR ⟨rfl, rfl, trivial⟩))) ?_;rintro k6 g h;simp only [gE] at h;refine aC (aC (aA (tm (.i g) (tfl 0 rfl rfl dE rfl aS (to (scm rfl rfl rfl) (aB ?_))))));refine tih h (fun c7 h => ?_) (fun c7 h => ?_)
  ·refine aY (aC (bT (aC ?_)));obtain ⟨x8, h9, h⟩ := bns h;obtain ⟨A, H, h⟩ := bns h;refine dJ mix 10 [1, 2, 5] [(21, .agg (aK a)), (25, .i x8), (30, .i A)] ?_ ?_
   ·refine ⟨[(21, 0, .agg (aK a)), (22, 1, .d (Z4 c)), (23, 2, .i g), (24, 3, .cp [.j x8]), (25, 4, .i x8), (26, 5, .d (Z4 c)), (27, 6, .i g), (28, 7, .i (w64 (g + 1))), (29, 8, .cp [.j A]), (30, 9, .i A)], ?_, ?_⟩
    · exact dk [0, 0, 0, 203, 4, 0, 0, 7, 608, 9] ⟨go (zla 0 (aK a) rfl rfl dO),
 go (zm (Z35 c)),
 go (zm (.i g)),
 go (zix rfl rfl bM.of (bU aG h9)),
 go (zlc rfl aS),
 go (zm (Z35 c)),
 go (zm (.i g)),
 go (zar rfl rfl rfl),
 go (zix rfl rfl bM.of (bU aG H)),
 go (zlc rfl aS), trivial⟩
    · exact bZ (aM rfl (aM rfl (aM rfl (aR ⟨rfl, rfl, rfl, trivial⟩))))
   ·obtain ⟨V, I, h⟩ := bns h;refine to (scr call87 (zJ _ _ _ I)) (to (sn rfl) (aB ?_));refine tih h (fun J h => ?_) (fun J h => ?_)
    ·refine aC (aA (ta Z6 (aB ?_)));obtain rfl := sIn h;refine bK (bC (bE (l := [4]) ⟨rfl, trivial⟩)) ?_;exact rt
    ·refine dB ?_;refine aA (tm (.i g) (to (sar rfl rfl rfl) (ta (.i (w64 (g + 2))) (aB ?_))));exact ⟨(w64 (g + 2)), h, aT [0] rfl rfl (aM rfl (aR ⟨rfl, rfl, trivial⟩))⟩
  ·refine cK ?_;refine .inl ⟨rfl, ?_⟩;simp only [kG] at h;refine aC (aA (tfl 0 rfl rfl dE rfl aS (tfl 0 rfl rfl eB rfl gJ (to (sle rfl gN.of) (to (sar rfl rfl rfl) (ta (.i (Z10 a)) (aB (aC (aC (aA (ta (.i 0) ?_)))))))))));refine aB (bT ?_);refine cW (S := Int) [1, 2, 6] (fun z => [(7, .i z)]) (fun z => [.box b1 0 (aK a)]) (fun k z => gF c (Z10 a) a k z) (fun _ => rfl) (0) h (aT [0] rfl rfl (aM rfl (aR ⟨rfl, rfl, rfl, trivial⟩))) ?_;rintro W e h;simp only [gF] at h;refine aC (aC (aA (tm (.i e) (tfl 0 rfl rfl lL rfl aS (to (scm rfl rfl rfl) (aB ?_))))));refine tih h (fun K h => ?_) (fun K h => ?_)
   ·refine aY (aC (bT (aC (aA (tm (Z35 c) (tfl 0 rfl rfl eB rfl gJ (tm (.i e) ?_)))))));obtain ⟨L, M, h⟩ := bns h;refine to (six rfl rfl gN.of (bU aL M)) (to (sfc [.j L.Player] rfl kO) (to (slc rfl aS) ?_));obtain ⟨n, N, h⟩ := bns h;refine to (scr call88 (aDb _ _ N)) (ta (.i n) (aB (aC ?_)));refine dJ mix 11 [1, 2, 6, 7, 8] [(9, .i (Z45 a)), (62, .i (w64 (Z15 a)))] ?_ ?_
    ·refine ⟨[(53, 0, .bp b1 0 0), (54, 1, .i a.Size), (55, 2, .i (Z45 a)), (56, 3, .bp b1 0 0), (57, 4, .i a.Size), (58, 5, .i (w64 (a.Size - 1))), (59, 6, .bp b1 0 0), (60, 7, .i a.Size), (61, 8, .i (Z45 a)), (62, 9, .i (w64 (Z15 a))), (9, 10, .i (Z45 a))], ?_, ?_⟩
     · exact dk [0, 1, 2, 0, 4, 5, 0, 7, 8, 609, 3] ⟨go (zf rfl dE),
 go (zl 0 rfl rfl rfl aS),
 go fun S hS => nM (aF rfl) (aV hS rfl) rfl (by decide),
 go (zf rfl dE),
 go (zl 0 rfl rfl rfl aS),
 go (zar rfl rfl rfl),
 go (zf rfl dE),
 go (zl 0 rfl rfl rfl aS),
 go fun S hS => nM (aF rfl) (aV hS rfl) rfl (by decide),
 go (zar rfl rfl rfl),
 go (za (.i (Z45 a))), trivial⟩
     · exact bZ (aM rfl (aM rfl (aR ⟨rfl, rfl, rfl, rfl, rfl, trivial⟩)))
    ·refine ta (.i (w64 (Z15 a))) (aB (aC (aC (aA (tm (.i e) (to (scm rfl rfl rfl) (tm (.b (decide (e = 0))) ?_)))))));obtain ⟨B, u, h⟩ := bns h;refine aW 3 [1, 2, 6, 7, 8, 9, 10] 68 B ?_ ?_
     ·refine bch u (fun s u => ?_) (fun s u => ?_)
      ·refine tk s (sm (.i n)) (tk s (scm rfl rfl rfl) (to (spt (.b (!decide (n = 0))) s) ?_));obtain rfl := sIn u;refine aB (aI rfl ⟨rfl, rfl, rfl, rfl, rfl, rfl, rfl, trivial⟩ rfl)
      ·refine tp s (tp s (to (spf Z6 s) ?_));obtain rfl := sIn u;refine aB (aI rfl ⟨rfl, rfl, rfl, rfl, rfl, rfl, rfl, trivial⟩ rfl)
     ·refine tm (.b B) ?_;obtain ⟨C, t, h⟩ := bns h;refine aW 10 [1, 2, 6, 7, 8, 9, 10] 79 C ?_ ?_
      ·refine bch t (fun j t => ?_) (fun j t => ?_)
       ·refine tp j (tp j (tp j (tq (tq (tq (tq (tq (tp j (to (spt Z17 j) ?_)))))))));obtain rfl := sIn t;refine aB (aI rfl ⟨rfl, rfl, rfl, rfl, rfl, rfl, rfl, trivial⟩ rfl)
       ·refine tk j (sm (.i e)) (tk j (scm rfl rfl rfl) (tk j (sm (.b (decide (e = 1)))) ?_));obtain ⟨E, w, t⟩ := bns t;refine aW 6 [1, 2, 6, 7, 8, 9, 10, 69, 70, 71, 72] 78 E ?_ ?_
        ·refine bch w (fun m w => ?_) (fun m w => ?_)
         ·refine tk m (sm (.i n)) (tkl 0 m rfl rfl dE rfl aS (tk m (sar rfl rfl rfl) (tk m (scm rfl rfl rfl) (tk j (spt (.b (!decide (n = (w64 (a.Size - 1))))) m) ?_))));obtain rfl := sIn w;refine aB (aI rfl ⟨rfl, rfl, rfl, rfl, rfl, rfl, rfl, rfl, rfl, rfl, rfl, trivial⟩ rfl)
         ·refine tp m (tp m (tp m (tp m (tp m (tk j (spf Z6 m) ?_)))));obtain rfl := sIn w;refine aB (aI rfl ⟨rfl, rfl, rfl, rfl, rfl, rfl, rfl, rfl, rfl, rfl, rfl, trivial⟩ rfl)
        ·refine to (spf (.b E) j) ?_;obtain rfl := sIn t;refine aB (aI rfl ⟨rfl, rfl, rfl, rfl, rfl, rfl, rfl, trivial⟩ rfl)
      ·refine tm (.b C) ?_;obtain ⟨O, o, h⟩ := bns h;refine aW 13 [1, 2, 6, 7, 8] 93 O ?_ ?_
       ·refine bch o (fun f o => ?_) (fun f o => ?_)
        ·refine tp f (tp f (tp f (tq (tq (tq (tp f (tp f (tq (tq (tq (tp f (to (spt Z17 f) ?_))))))))))));obtain rfl := sIn o;refine aB (aI rfl ⟨rfl, rfl, rfl, rfl, rfl, trivial⟩ rfl)
        ·refine tk f (sm (.i e)) (tk f (scm rfl rfl rfl) (tk f (sm (.b (decide (2 ≤ e)))) ?_));obtain ⟨F, x, o⟩ := bns o;refine aW 4 [1, 2, 6, 7, 8, 10, 80, 81, 82, 83] 87 F ?_ ?_
         ·refine bch x (fun p x => ?_) (fun p x => ?_)
          ·refine tk p (sm (.i n)) (tk p (sm (.i (Z45 a))) (tk p (scm rfl rfl rfl) (tk f (spt (.b (!decide (n = (Z45 a)))) p) ?_)));obtain rfl := sIn x;refine aB (aI rfl ⟨rfl, rfl, rfl, rfl, rfl, rfl, rfl, rfl, rfl, rfl, trivial⟩ rfl)
          ·refine tp p (tp p (tp p (tk f (spf Z6 p) ?_)));obtain rfl := sIn x;refine aB (aI rfl ⟨rfl, rfl, rfl, rfl, rfl, rfl, rfl, rfl, rfl, rfl, trivial⟩ rfl)
         ·refine tk f (sm (.b F)) ?_;obtain ⟨G, y, o⟩ := bns o;refine aW 4 [1, 2, 6, 7, 8, 80, 81, 82, 83, 87, 88] 92 G ?_ ?_
          ·refine bch y (fun q y => ?_) (fun q y => ?_)
           ·refine tk q (sm (.i n)) (tk q (sm (.i (w64 (Z15 a)))) (tk q (scm rfl rfl rfl) (tk f (spt (.b (!decide (n = (w64 (Z15 a))))) q) ?_)));obtain rfl := sIn y;refine aB (aI rfl ⟨rfl, rfl, rfl, rfl, rfl, rfl, rfl, rfl, rfl, rfl, rfl, trivial⟩ rfl)
           ·refine tp q (tp q (tp q (tk f (spf Z6 q) ?_)));obtain rfl := sIn y;refine aB (aI rfl ⟨rfl, rfl, rfl, rfl, rfl, rfl, rfl, rfl, rfl, rfl, rfl, trivial⟩ rfl)
          ·refine to (spf (.b G) f) ?_;obtain rfl := sIn o;refine aB (aI rfl ⟨rfl, rfl, rfl, rfl, rfl, trivial⟩ rfl)
       ·refine aB ?_;refine tih h (fun P h => ?_) (fun P h => ?_)
        ·refine aC (aA (ta Z6 (aB ?_)));obtain rfl := sIn h;refine bK (bC (bE (l := [4]) ⟨rfl, trivial⟩)) ?_;exact rt
        ·refine aY (aC (aA (tm (.i e) (tm (.i (Z10 a)) (to (scm rfl rfl rfl) (tm (Z35 c) (tm (.i n) ?_)))))));obtain ⟨X, Q, h⟩ := bns h;refine to (scr call89 (aBi _ Q)) ?_;obtain ⟨Y, T, h⟩ := bns h;refine to (six rfl rfl bM.of (bU aG T)) (to (slc rfl aS) (to (scm rfl rfl rfl) (to (aUr (aF rfl) rfl rfl underlying4) ?_)));refine aB ?_;refine tih h (fun U h => ?_) (fun U h => ?_)
         ·refine aC (aA (ta Z6 (aB ?_)));obtain rfl := sIn h;refine bK (bC (bE (l := [4]) ⟨rfl, trivial⟩)) ?_;exact rt
         ·refine dB ?_;refine aA (tm (.i e) (to (sar rfl rfl rfl) (ta (.i (w64 (e + 1))) (aB ?_))));exact ⟨(w64 (e + 1)), h, aT [0] rfl rfl (aM rfl (aR ⟨rfl, rfl, rfl, trivial⟩))⟩
   ·refine cK ?_;refine .inl ⟨rfl, ?_⟩;simp only [pS] at h;refine aC (aA (ta Z17 (aB ?_)));obtain rfl := sIn h;refine bK (bC (bE (l := [4]) ⟨rfl, trivial⟩)) ?_;exact rt

theorem zG {r : aU × aU} (h : nA = some r) : Fn Tryz.prog 47 [] (.tup [.agg (aK r.1), .agg (aK r.2)]) := by
 unfold nA at h;refine iP func47 rfl (rs := [.cell 0 25, .cell 1 25]) results47 ntmps47 (Nat.le_of_ble_eq_true rfl) ?_;refine aC (aA ?_);refine bB rfl (cD (zs := [.j 0, .j 0, .sl 3 Z37, .sl 1 Z13]) (aF rfl) zeroValue25 rfl rfl) ?_;rintro _ ⟨b1, rfl⟩;refine bB rfl (cD (zs := [.j 0, .j 0, .sl 3 Z37, .sl 1 Z13]) (aF rfl) zeroValue25 rfl rfl) ?_;rintro _ ⟨b2, rfl⟩;refine aB (aC (aA (to (dG (aF rfl) wY (zs := [.j 0, .j 0, .k false]) rfl rfl rfl rfl (es := [.j 10, .j 1, .k false]) rfl) ?_)));refine to (dG (aF rfl) wY (zs := [.j 0, .j 0, .k false]) rfl rfl rfl rfl (es := [.j 20, .j 2, .k false]) rfl) ?_;refine to (dG (aF rfl) wY (zs := [.j 0, .j 0, .k false]) rfl rfl rfl rfl (es := [.j 30, .j 1, .k false]) rfl) ?_;refine to (fH (aF rfl) gN rfl rfl (rows := Z48.map aL) rfl (bR (f := aL) fun _ => rfl) rfl (by decide)) ?_;refine to (fH (aF rfl) bM rfl rfl (rows := ([5, 4]).map aG) rfl (bR (f := aG) fun _ => rfl) rfl (by decide)) ?_;refine to (dG (aF rfl) aPw (zs := [.j 0, .j 0, .sl 3 Z37, .sl 1 Z13]) rfl rfl rfl rfl (es := [.j 4, .j 1, .sl 3 ((Z48).map aL), .sl 1 ((([5, 4])).map aG)]) rfl) ?_;refine to (sst 0 rfl rfl sizeOf25 Z5) (aB (aC (aA (to (dG (aF rfl) wY (zs := [.j 0, .j 0, .k false]) rfl rfl rfl rfl (es := [.j 1, .j 1, .k false]) rfl) ?_))));refine to (dG (aF rfl) wY (zs := [.j 0, .j 0, .k false]) rfl rfl rfl rfl (es := [.j 2, .j 1, .k false]) rfl) ?_;refine to (dG (aF rfl) wY (zs := [.j 0, .j 0, .k false]) rfl rfl rfl rfl (es := [.j 3, .j 2, .k false]) rfl) ?_;refine to (dG (aF rfl) wY (zs := [.j 0, .j 0, .k false]) rfl rfl rfl rfl (es := [.j 4, .j 0, .k false]) rfl) ?_;refine to (fH (aF rfl) gN rfl rfl (rows := Z42.map aL) rfl (bR (f := aL) fun _ => rfl) rfl (by decide)) ?_;refine to (dG (aF rfl) aPw (zs := [.j 0, .j 0, .sl 3 Z37, .sl 1 Z13]) rfl rfl rfl rfl (es := [.j 4, .j 0, .sl 3 ((Z42).map aL), .sl 1 Z13]) rfl) ?_;refine to (sst 1 rfl rfl sizeOf25 Z3) (aB (aC ?_));refine fZ mix 3 [0, 1] (fun X3 => [(15, .agg Z3)]) (fun X3 => [.box b1 0 Z5, .box b2 0 Z3]) ?_ ?_
 ·refine ⟨0, fun X3 => [(14, 0, .agg Z5), (15, 1, .agg Z3)], fun X3 => [([(2, .box b1 0 Z5)], .box b1 0 Z5), ([], .box b2 0 Z3)], ?_, ?_⟩
  · exact xok [(0, 3), (0, 0), (1, 0)] ⟨fun _ _ w _ k => xp w (yla k 0 Z5 rfl (og k rfl rfl) dO),
 fun _ _ w _ k => xp w (yla k 1 Z3 rfl (og k rfl rfl) dO),
 fun _ _ _ _ k => xs 0 k rfl rfl (rA (i := 0) (aV k rfl) (og k rfl rfl) (aV k rfl) rfl rfl sizeOf25 rfl (aF rfl) (Nat.le_of_ble_eq_true rfl) (ds' := Z5) rfl), trivial⟩
  · exact fun X3 => bZ (aM rfl (aR ⟨rfl, rfl, trivial⟩))
 ·intro X3;refine to (sst 1 rfl rfl sizeOf25 Z3) (aB ?_);obtain rfl := sIn h;exact cA ⟨rfl, _, [.box b1 0 Z5, .box b2 0 Z3], .two (.cell 0 25 rfl (i := 0) rfl dO (es := Z5) rfl rfl) (.cell 1 25 rfl (i := 1) rfl dO (es := Z3) rfl rfl), .refl _, .same _⟩

theorem mF (d : Int) (c : Int) (a : Int) {r : Bool} (h : fS d c a = some r) : Fn Tryz.prog 92 [.i d, .i c, .i a] (.b r) := by
 unfold fS at h;refine oT [.tmp 6] func92 results92 ntmps92 ?_;refine aC (aA (ta Z6 (aB (aC (aA (tm (.i c) (tm (.i d) (to (scm rfl rfl rfl) (tm (Z56 c d) ?_)))))))));obtain ⟨b1, h2, h⟩ := bns h;refine aW 4 [] 14 b1 ?_ ?_
 ·refine bch h2 (fun c3 h2 => ?_) (fun c3 h2 => ?_)
  ·refine tk c3 (sm (.i d)) (tk c3 (sm (.i a)) (tk c3 (scm rfl rfl rfl) (to (spt (Z56 d a) c3) ?_)));obtain rfl := sIn h2;refine aB (aI rfl trivial rfl)
  ·refine tp c3 (tp c3 (tp c3 (to (spf Z6 c3) ?_)));obtain rfl := sIn h2;refine aB (aI rfl trivial rfl)
 ·refine ta (.b b1) (aB ?_);obtain rfl := sIn h;exact rt

theorem nR (e : List aP) (g : aP → Option Bool) {r : Int} (c : Nat) (f : List AV) (j : ∀ args w, (callFunc c args).run Tryz.prog w = .ok (.enter c args) w) (l : ∀ (x0 : aP) r, g x0 = some r → Fn Tryz.prog c ([.agg (aL x0)] ++ f) (.b r)) (h : eN e g = some r) : Fn Tryz.prog 199 [.d (.sl 3 (e.map aL)), .fn c f] (.i r) := by
 unfold eN at h;refine oT [.tmp 4] func199 results199 ntmps199 ?_;refine aC (aA (ta (.i 0) (aB (aC (aC (aA (tm (.d (.sl 3 (e.map aL))) (to (sle rfl gN.of) (tm (.i 0) (aB (bT ?_)))))))))));refine cW (S := Int) [0, 1, 7] (fun s1 => [(8, .i s1)]) (fun s1 => []) (fun k s1 => dF e g (e.length : Int) k s1) (fun _ => rfl) (0) h (aT [] rfl rfl (aM rfl (aR ⟨rfl, rfl, rfl, trivial⟩))) ?_;rintro k2 a h;simp only [dF] at h;refine aC (aA (to (scm rfl rfl rfl) (aB (aC ?_))));refine tih h (fun c3 h => ?_) (fun c3 h => ?_)
 ·refine aY (aC (bT (aC (aA (tm (.i a) (ta (.i a) (aB (aC (aA (tm (.fn c f) (tm (.d (.sl 3 (e.map aL))) (tm (.i a) ?_))))))))))));obtain ⟨x4, h5, h⟩ := bns h;refine to (six rfl rfl gN.of (bU aL h5)) (to (yM (aL x4) rfl wI) ?_);obtain ⟨r6, h7, h⟩ := bns h;refine to (dC (aF rfl) (.clo _ _ _ _ j rfl) (zL rfl) rfl (BVs.refl _ _) (l _ _  h7) rfl) ?_;refine aB ?_;refine tih h (fun c8 h => ?_) (fun c8 h => ?_)
  ·refine aC (aA (tm (.i a) (ta (.i a) (aB ?_))));obtain rfl := sIn h;exact rt
  ·refine dB ?_;refine aA (to (sar rfl rfl rfl) (tm (.i (w64 (a + 1))) (aB ?_)));exact ⟨(w64 (a + 1)), h, aT [] rfl rfl (aM rfl (aR ⟨rfl, rfl, rfl, trivial⟩))⟩
 ·refine cK ?_;refine .inl ⟨rfl, ?_⟩;simp only [jS] at h;refine aC (aA (ta (.i (-1)) (aB ?_)));obtain rfl := sIn h;exact rt

theorem sH (e : List aP) (i : aP → Option Bool) {r : Bool} (a : Nat) (c : List AV) (f : ∀ args w, (callFunc a args).run Tryz.prog w = .ok (.enter a args) w) (g : ∀ (x0 : aP) r, i x0 = some r → Fn Tryz.prog a ([.agg (aL x0)] ++ c) (.b r)) (h : eW e i = some r) : Fn Tryz.prog 148 [.d (.sl 3 (e.map aL)), .fn a c] (.b r) := by
 unfold eW at h;refine oT [.tmp 4] func148 results148 ntmps148 ?_;refine aC (aA (ta Z6 (aB (aC (aA (tm (.d (.sl 3 (e.map aL))) (tm (.fn a c) ?_)))))));obtain ⟨r1, h2, h⟩ := bns h;refine to (scr call199 (nR _ _ a c f g h2)) (to (scm rfl rfl rfl) (ta (.b (decide (0 ≤ r1))) (aB ?_)));obtain rfl := sIn h;exact rt

theorem aFl (a : aP) (c : aP) {r : Bool} (h : rN a c = some r) : Fn Tryz.prog 149 [.agg (aL a), .cp (aL c)] (.b r) := by
 unfold rN at h;refine oT [.tmp 3] func149 results149 ntmps149 ?_;refine aC (aA ?_);refine bB rfl (cO (v := .agg (aL a)) (aF rfl) rfl rfl rfl) ?_;rintro _ ⟨b1, rfl⟩;refine ta Z6 (aB (aC (aA (tfl 0 rfl rfl kO rfl aS (to (sfc [.j c.Player] rfl kO) (to (slc rfl aS) (to (scm rfl rfl rfl) (ta (.b (decide (a.Player = c.Player))) (aB ?_)))))))));obtain rfl := sIn h;refine bK (bC (bE (l := [3]) ⟨rfl, trivial⟩)) ?_;exact rt

theorem yN (e : List Int) (g : Int → Option Bool) {r : Int} (c : Nat) (f : List AV) (j : ∀ args w, (callFunc c args).run Tryz.prog w = .ok (.enter c args) w) (l : ∀ (x0 : Int) r, g x0 = some r → Fn Tryz.prog c ([.i x0] ++ f) (.b r)) (h : jT e g = some r) : Fn Tryz.prog 182 [.d (Z4 e), .fn c f] (.i r) := by
 unfold jT at h;refine oT [.tmp 4] func182 results182 ntmps182 ?_;refine aC (aA (ta (.i 0) (aB (aC (aC (aA (tm (Z35 e) (to (sle rfl bM.of) (tm (.i 0) (aB (bT ?_)))))))))));refine cW (S := Int) [0, 1, 7] (fun s1 => [(8, .i s1)]) (fun s1 => []) (fun k s1 => eQ e g (e.length : Int) k s1) (fun _ => rfl) (0) h (aT [] rfl rfl (aM rfl (aR ⟨rfl, rfl, rfl, trivial⟩))) ?_;rintro k2 a h;simp only [eQ] at h;refine aC (aA (to (scm rfl rfl rfl) (aB (aC ?_))));refine tih h (fun c3 h => ?_) (fun c3 h => ?_)
 ·refine aY (aC (bT (aC (aA (tm (.i a) (ta (.i a) (aB (aC (aA (tm (.fn c f) (tm (Z35 e) (tm (.i a) ?_))))))))))));obtain ⟨x4, h5, h⟩ := bns h;refine to (six rfl rfl bM.of (bU aG h5)) (to (slc rfl aS) ?_);obtain ⟨r6, h7, h⟩ := bns h;refine to (dC (aF rfl) (.clo _ _ _ _ j rfl) (zL rfl) rfl (BVs.refl _ _) (l _ _  h7) rfl) ?_;refine aB ?_;refine tih h (fun c8 h => ?_) (fun c8 h => ?_)
  ·refine aC (aA (tm (.i a) (ta (.i a) (aB ?_))));obtain rfl := sIn h;exact rt
  ·refine dB ?_;refine aA (to (sar rfl rfl rfl) (tm (.i (w64 (a + 1))) (aB ?_)));exact ⟨(w64 (a + 1)), h, aT [] rfl rfl (aM rfl (aR ⟨rfl, rfl, rfl, trivial⟩))⟩
 ·refine cK ?_;refine .inl ⟨rfl, ?_⟩;simp only [mU] at h;refine aC (aA (ta (.i (-1)) (aB ?_)));obtain rfl := sIn h;exact rt

theorem vS (e : List Int) (j : Int → Option Bool) {r : Bool} (a : Nat) (c : List AV) (f : ∀ args w, (callFunc a args).run Tryz.prog w = .ok (.enter a args) w) (g : ∀ (x0 : Int) r, j x0 = some r → Fn Tryz.prog a ([.i x0] ++ c) (.b r)) (h : iA e j = some r) : Fn Tryz.prog 130 [.d (Z4 e), .fn a c] (.b r) := by
 unfold iA at h;refine oT [.tmp 4] func130 results130 ntmps130 ?_;refine aC (aA (ta Z6 (aB (aC (aA (tm (Z35 e) (tm (.fn a c) ?_)))))));obtain ⟨r1, h2, h⟩ := bns h;refine to (scr call182 (yN _ _ a c f g h2)) (to (scm rfl rfl rfl) (ta (.b (decide (0 ≤ r1))) (aB ?_)));obtain rfl := sIn h;exact rt

theorem aFm (a : Int) {r : Bool} (h : rO a = some r) : Fn Tryz.prog 150 [.i a] (.b r) := by
 unfold rO at h;refine oT [.tmp 2] func150 results150 ntmps150 ?_;refine aC (aA (ta Z6 (aB (aC (aA (tm (.i a) ?_))))));obtain ⟨r1, h2, h⟩ := bns h;refine to (scr call92 (mF _ _ _ h2)) (to (sn rfl) (ta (.b (!r1)) (aB ?_)));obtain rfl := sIn h;exact rt

theorem aAr (d : aU) {r : Int} (h : pK d = some r) : Fn Tryz.prog 95 [.agg (aK d)] (.i r) := by
 unfold pK at h;refine oT [.tmp 2] func95 results95 ntmps95 ?_;refine aC (aA ?_);refine bB rfl (cO (v := .agg (aK d)) (aF rfl) rfl rfl rfl) ?_;rintro _ ⟨b1, rfl⟩;refine ta (.i 0) (aB (aC (aA (tfl 0 rfl rfl eB rfl gJ (to (sle rfl gN.of) (ta (Z22 d) (aB (aC (aC (aA (tfl 0 rfl rfl dE rfl aS ?_)))))))))));refine to (scm rfl rfl rfl) (tm (.b (!decide (d.Size = 4))) ?_);obtain ⟨b2, h3, h⟩ := bns h;refine aW 4 [1, 3] 17 b2 ?_ ?_
 ·refine bch h3 (fun o h3 => ?_) (fun o h3 => ?_)
  ·refine tkl 0 o rfl rfl dE rfl aS (tk o (scm rfl rfl rfl) (to (spt (.b (!decide (d.Size = 8))) o) ?_));obtain rfl := sIn h3;refine aB (aI rfl ⟨rfl, rfl, trivial⟩ rfl)
  ·refine tp o (tp o (tp o (to (spf Z6 o) ?_)));obtain rfl := sIn h3;refine aB (aI rfl ⟨rfl, rfl, trivial⟩ rfl)
 ·refine tm (.b b2) ?_;obtain ⟨b4, h5, h⟩ := bns h;refine aW 6 [1, 3] 24 b4 ?_ ?_
  ·refine bch h5 (fun g h5 => ?_) (fun g h5 => ?_)
   ·refine tp g (tp g (tp g (tp g (tp g (to (spt Z17 g) ?_)))));obtain rfl := sIn h5;refine aB (aI rfl ⟨rfl, rfl, trivial⟩ rfl)
   ·refine tk g (sm (Z22 d)) (tkl 0 g rfl rfl dE rfl aS ?_);obtain ⟨E, F, h5⟩ := bns h5;refine tk g (scr call92 (mF _ _ _ F)) (tk g (sn rfl) (to (spf (.b (!E)) g) ?_));obtain rfl := sIn h5;refine aB (aI rfl ⟨rfl, rfl, trivial⟩ rfl)
  ·refine tm (.b b4) ?_;obtain ⟨b6, h7, h⟩ := bns h;refine aW 9 [1, 3] 34 b6 ?_ ?_
   ·refine bch h7 (fun e h7 => ?_) (fun e h7 => ?_)
    ·refine tp e (tp e (tp e (tp e (tp e (tp e (tp e (tp e (to (spt Z17 e) ?_))))))));obtain rfl := sIn h7;refine aB (aI rfl ⟨rfl, rfl, trivial⟩ rfl)
    ·refine tkl 0 e rfl rfl dE rfl aS (tk e (sm (Z22 d)) (tk e (sar rfl rfl rfl) (tkl 0 e rfl rfl dE rfl aS (tk e (nM (aF rfl) rfl rfl (by decide)) ?_))));refine tk e (scm rfl rfl rfl) (to (spf (.b (decide ((w64 (d.Size.tdiv 2)) < (Z10 d)))) e) ?_);obtain rfl := sIn h7;refine aB (aI rfl ⟨rfl, rfl, trivial⟩ rfl)
   ·refine tm (.b b6) ?_;obtain ⟨b8, h9, h⟩ := bns h;refine aW 10 [1] 45 b8 ?_ ?_
    ·refine bch h9 (fun c h9 => ?_) (fun c h9 => ?_)
     ·refine tp c (tp c (tp c (tp c (tp c (tp c (tp c (tp c (tp c (to (spt Z17 c) ?_)))))))));obtain rfl := sIn h9;refine aB (aI rfl ⟨rfl, trivial⟩ rfl)
     ·refine tkl 0 c rfl rfl lL rfl aS (tkl 0 c rfl rfl dE rfl aS (tk c (nM (aF rfl) rfl rfl (by decide)) ?_));refine tk c (sm (Z22 d)) (tk c (aSf (aF rfl) rfl rfl) ?_);obtain ⟨G, H, h9⟩ := bns h9;refine tk c (scr call92 (mF _ _ _ H)) (tk c (sn rfl) (to (spf (.b (!G)) c) ?_));obtain rfl := sIn h9;refine aB (aI rfl ⟨rfl, trivial⟩ rfl)
    ·refine tm (.b b8) ?_;obtain ⟨I, w, h⟩ := bns h;refine aW 5 [1] 51 I ?_ ?_
     ·refine bch w (fun j w => ?_) (fun j w => ?_)
      ·refine tp j (tp j (tp j (tp j (to (spt Z17 j) ?_))));obtain rfl := sIn w;refine aB (aI rfl ⟨rfl, trivial⟩ rfl)
      ·refine tkl 0 j rfl rfl sA rfl cS (tk j (sle rfl bM.of) (tk j (scm rfl rfl rfl) (to (spf (.b (decide (10 < (d.Lots.length : Int)))) j) ?_)));obtain rfl := sIn w;refine aB (aI rfl ⟨rfl, trivial⟩ rfl)
     ·refine aB ?_;refine tih h (fun J h => ?_) (fun J h => ?_)
      ·refine aC (aA (ta (.i 60) (aB ?_)));obtain rfl := sIn h;refine bK (bC (bE (l := [2]) ⟨rfl, trivial⟩)) ?_;exact rt
      ·refine aY (aC (aC (aA (tfl 0 rfl rfl eB rfl gJ (to (sle rfl gN.of) (tm (.i 0) (aB (bT ?_))))))));refine cW (S := Int) [1, 53, 54] (fun y => [(55, .i y)]) (fun y => [.box b1 0 (aK d)]) (fun k y => kN d.Persons (d.Persons.length : Int) d k y) (fun _ => rfl) (0) h (aT [0] rfl rfl (aM rfl (aR ⟨rfl, rfl, rfl, trivial⟩))) ?_;rintro Y a h;simp only [kN] at h;refine aC (aA (to (scm rfl rfl rfl) (aB (aC ?_))));refine tih h (fun K h => ?_) (fun K h => ?_)
       ·refine aY (aC (bT (aC (aA (tm (.i a) ?_)))));obtain ⟨t, L, h⟩ := bns h;refine to (six rfl rfl gN.of (bU aL L)) (to (yM (aL t) rfl wI) ?_);refine bB rfl (cD (zs := [.j 0, .j 0, .k false]) (aF rfl) zeroValue43 rfl rfl) ?_;rintro _ ⟨Z, rfl⟩;refine ta (.i a) (to (sst 1 rfl rfl sizeOf43 (aL t)) (aB (aC (aA (tfl 0 rfl rfl eB rfl gJ (tm (.i a) ?_))))));obtain ⟨a0, M, h⟩ := bns h;refine to (tQ (aF rfl) gN.of rfl rfl rfl (zA aL M)) ?_;refine to (uW (aF rfl) rfl rfl) ?_;obtain ⟨z, N, h⟩ := bns h;refine to (sc call148 (sH _ _ 149 [.cp [.j t.Player, .j t.Nation, .k t.Qualified]] call149 (fun _ _ h => aFl _ _ h) N) (.cons (.same _) (.cons (aCr (.cons (iE 1 rfl rfl (dvc (.same _) (dvc (.same _) (dvc (.same _) dvn)))) .nil)) .nil))) (ta (.b z) (aB (aC (aA (tm (.b z) (tm (.b z) ?_))))));obtain ⟨A, p, h⟩ := bns h;refine aW 5 [1, 4, 5, 53, 54, 55] 72 A ?_ ?_
        ·refine bch p (fun m p => ?_) (fun m p => ?_)
         ·refine tp m (tp m (tp m (tp m (to (spt Z17 m) ?_))));obtain rfl := sIn p;refine aB (aI rfl ⟨rfl, rfl, rfl, rfl, rfl, rfl, trivial⟩ rfl)
         ·refine tkl 1 m rfl rfl kO rfl aS ?_;obtain ⟨O, P, p⟩ := bns p;refine tk m (scr call92 (mF _ _ _ P)) (tk m (sn rfl) (to (spf (.b (!O)) m) ?_));obtain rfl := sIn p;refine aB (aI rfl ⟨rfl, rfl, rfl, rfl, rfl, rfl, trivial⟩ rfl)
        ·refine tm (.b A) ?_;obtain ⟨B, q, h⟩ := bns h;refine aW 5 [1, 4, 5, 53, 54, 55] 78 B ?_ ?_
         ·refine bch q (fun n q => ?_) (fun n q => ?_)
          ·refine tp n (tp n (tp n (tp n (to (spt Z17 n) ?_))));obtain rfl := sIn q;refine aB (aI rfl ⟨rfl, rfl, rfl, rfl, rfl, rfl, trivial⟩ rfl)
          ·refine tkl 1 n rfl rfl qM rfl aS ?_;obtain ⟨Q, T, q⟩ := bns q;refine tk n (scr call92 (mF _ _ _ T)) (tk n (sn rfl) (to (spf (.b (!Q)) n) ?_));obtain rfl := sIn q;refine aB (aI rfl ⟨rfl, rfl, rfl, rfl, rfl, rfl, trivial⟩ rfl)
         ·refine tm (.b B) ?_;obtain ⟨U, s, h⟩ := bns h;refine aW 9 [1, 53, 54, 55] 88 U ?_ ?_
          ·refine bch s (fun f s => ?_) (fun f s => ?_)
           ·refine tp f (tp f (tp f (tp f (tp f (tq (tq (tp f (to (spt Z17 f) ?_))))))));obtain rfl := sIn s;refine aB (aI rfl ⟨rfl, rfl, rfl, rfl, trivial⟩ rfl)
           ·refine tk f (sm (.i a)) (tkl 0 f rfl rfl lL rfl aS (tk f (scm rfl rfl rfl) (tk f (sm (.b (decide (a < d.Seeds)))) ?_)));obtain ⟨C, x, s⟩ := bns s;refine aW 3 [1, 53, 54, 55, 79, 80, 81, 82, 83, 84] 87 C ?_ ?_
            ·refine bch x (fun u x => ?_) (fun u x => ?_)
             ·refine tkl 1 u rfl rfl uD rfl oZ (tk f (spt (.b t.Qualified) u) ?_);obtain rfl := sIn x;refine aB (aI rfl ⟨rfl, rfl, rfl, rfl, rfl, rfl, rfl, rfl, rfl, rfl, trivial⟩ rfl)
             ·refine tp u (tp u (tk f (spf Z6 u) ?_));obtain rfl := sIn x;refine aB (aI rfl ⟨rfl, rfl, rfl, rfl, rfl, rfl, rfl, rfl, rfl, rfl, trivial⟩ rfl)
            ·refine to (spf (.b C) f) ?_;obtain rfl := sIn s;refine aB (aI rfl ⟨rfl, rfl, rfl, rfl, trivial⟩ rfl)
          ·refine aB ?_;refine tih h (fun V h => ?_) (fun V h => ?_)
           ·refine aC (aA (ta (.i 60) (aB ?_)));obtain rfl := sIn h;refine bK (bC (bE (l := [2]) ⟨rfl, trivial⟩)) ?_;exact rt
           ·refine dB ?_;refine aA (to (sar rfl rfl rfl) (tm (.i (w64 (a + 1))) (aB ?_)));exact ⟨(w64 (a + 1)), h, aT [0] rfl rfl (aM rfl (aR ⟨rfl, rfl, rfl, trivial⟩))⟩
       ·refine cK ?_;refine .inl ⟨rfl, ?_⟩;simp only [qT] at h;refine aC (aC (aA (tfl 0 rfl rfl sA rfl cS ?_)));obtain ⟨a1, W, h⟩ := bns h;refine to (scr call130 (vS _ _ 150 [] call150 (fun _ _ h => aFm _ h) W)) (aB ?_);refine tih h (fun X h => ?_) (fun X h => ?_)
        ·refine aC (aA (ta (.i 60) (aB ?_)));obtain rfl := sIn h;refine bK (bC (bE (l := [2]) ⟨rfl, trivial⟩)) ?_;exact rt
        ·refine aY (aC (aA (ta (.i 0) (aB ?_))));obtain rfl := sIn h;refine bK (bC (bE (l := [2]) ⟨rfl, trivial⟩)) ?_;exact rt

theorem yZ (x : List Int) (cmp : Int → Int → Option Int) {r : List Int} {x_v : Value} {e : TypeId} (f : Nat) (v : List AV) (he : ∀ args w, (callFunc f args).run Tryz.prog w = .ok (.enter f args) w) (hh : ∀ x0 x1 r, cmp x0 x1 = some r → Fn Tryz.prog f ([.i x0, .i x1] ++ v) (.i r)) (h : pW x cmp = some r) : dN Tryz.prog 167 [.d (.lit x_v), .fn f v] [.arr x_v e 1 (x.map aG)] (fun r' o' => r' = .tup [] ∧ o' = [.arr x_v e 1 (r.map aG)]) := aPu (fun enc h1 cf hO g cb blk off cap d w => Tryz.slices_SortFunc_total enc h1 cf hO g cb blk off cap d w) (fun p cap fv w => Tryz.slices_SortFunc_none (α := Int) p cap fv w) he hh h

theorem aFo (b : Int) (c : Int) (a : aU) {r : Int} (h : mY b c a = some r) : Fn Tryz.prog 168 [.i b, .i c, .cp (aK a)] (.i r) := by
 unfold mY at h;refine oT [.tmp 5] func168 results168 ntmps168 ?_;refine aC (aA (ta (.i 0) (aB (aC ?_))));obtain ⟨x1, h2, h⟩ := bns h;obtain ⟨x3, h4, h⟩ := bns h;refine dJ mix 12 [] [(11, .i x1.Player), (17, .i x3.Player)] ?_ ?_
 ·refine ⟨[(6, 0, .cp [.sl 3 (Z11 a)]), (7, 1, .d (.sl 3 (Z11 a))), (8, 2, .i b), (9, 3, .cp [.j x1.Player, .j x1.Nation, .k x1.Qualified]), (10, 4, .cp [.j x1.Player]), (11, 5, .i x1.Player), (12, 6, .cp [.sl 3 (Z11 a)]), (13, 7, .d (.sl 3 (Z11 a))), (14, 8, .i c), (15, 9, .cp [.j x3.Player, .j x3.Nation, .k x3.Qualified]), (16, 10, .cp [.j x3.Player]), (17, 11, .i x3.Player)], ?_, ?_⟩
  · exact dk [0, 1, 0, 203, 4, 5, 0, 7, 0, 809, 10, 11] ⟨go (zfc [.sl 3 (Z11 a)] rfl eB),
 go (zlc rfl gJ),
 go (zm (.i b)),
 go (zix rfl rfl gN.of (bU aL h2)),
 go (zfc [.j x1.Player] rfl kO),
 go (zlc rfl aS),
 go (zfc [.sl 3 (Z11 a)] rfl eB),
 go (zlc rfl gJ),
 go (zm (.i c)),
 go (zix rfl rfl gN.of (bU aL h4)),
 go (zfc [.j x3.Player] rfl kO),
 go (zlc rfl aS), trivial⟩
  · exact bZ (aM rfl (aM rfl (aR trivial)))
 ·refine to (sar rfl rfl rfl) (ta (.i (w64 (x1.Player - x3.Player))) (aB ?_));obtain rfl := sIn h;exact rt

theorem aAs (a : aU) {r : List Int} (h : nO a = some r) : Fn Tryz.prog 109 [.agg (aK a)] (.fn 169 [.cp [.j a.Size, .j a.Seeds, .sl 3 (Z11 a), .sl 1 (Z38 a)], .cp (Z39 r)]) := by
 unfold nO at h;refine iP func109 rfl (rs := [.tmp 2]) results109 ntmps109 (Nat.le_of_ble_eq_true rfl) ?_;refine aC (aA ?_);refine bB rfl (cO (v := .agg (aK a)) (aF rfl) rfl rfl rfl) ?_;rintro _ ⟨b1, rfl⟩;refine ta (.d (.lit .nilFunc)) (aB (aC (aA ?_)));refine bB rfl (cD (zs := Z51) (aF rfl) zeroValue23 rfl rfl) ?_;rintro _ ⟨b2, rfl⟩;refine eT (tG 3 1) ?_;refine aB (aC (aC (aA (tfl 0 rfl rfl eB rfl gJ (to (sle rfl gN.of) (tm (.i 0) (aB (bT ?_))))))));refine cW (S := Int × (List Int) × Value) [1, 3, 7] (fun s3 => [(8, .i s3.1)]) (fun s3 => [.box b1 0 (aK a), .arr s3.2.2 3 1 (s3.2.1.map aG), .box b2 0 [.lit s3.2.2]]) (fun k s3 => qW (a.Persons.length : Int) a k s3.1 s3.2.1) (fun _ => rfl) (0, ([] : List Int), (.slice none 0 0)) h (aT [0, 2, 1] rfl rfl (aM rfl (aR ⟨rfl, rfl, rfl, trivial⟩))) ?_;rintro k5 ⟨b, c, w4⟩ h;simp only [qW] at h;refine aC (aA (to (scm rfl rfl rfl) (aB (aC ?_))));refine tih h (fun c6 h => ?_) (fun c6 h => ?_)
 ·refine aY (aC (bT (aC (aA (tm (.i b) (ta (.i b) (aB (aA (to (sl 2 rfl rfl rfl cS) (tm (.i b) (to (fH (aF rfl) bM rfl rfl (rows := ([b]).map aG) rfl (bR (f := aG) fun _ => rfl) rfl (by decide)) ?_)))))))))));obtain ⟨x7, h8, h⟩ := bns h;refine bB rfl (iG (i := 1) (aF rfl) bM rfl rfl rfl (fun _ => rfl) h8 rfl) ?_;rintro _ ⟨v9, rfl⟩;refine to (sst 2 rfl rfl sizeOf23 [.lit v9]) ?_;refine jD ?_;refine aA (to (sar rfl rfl rfl) (tm (.i (w64 (b + 1))) (aB ?_)));exact ⟨(w64 (b + 1), x7, v9), h, aT [0, 1, 2] rfl rfl (aM rfl (aR ⟨rfl, rfl, rfl, trivial⟩))⟩
 ·refine cK ?_;refine .inl ⟨rfl, ?_⟩;simp only [qV] at h;refine aC (aA (to (sl 2 rfl rfl rfl cS) (to (uW (aF rfl) rfl rfl) ?_)));refine eT (aT [1, 2, 0] rfl rfl (le_refl _)) ?_;apply aMu [.arr w4 3 1 (c.map aG), .box b2 0 [.lit w4]] [.box b1 0 (aK a)] rfl;exact jW (k := 17) (v := .fn 168 [.cp [.j a.Size, .j a.Seeds, .sl 3 (Z11 a), .sl 1 (Z38 a)]]) (aCr (.cons (iE 0 rfl rfl (dvc (.same _) (dvc (.same _) (dvc (.same _) (dvc (.same _) dvn))))) .nil)) (jW (k := 1) (v := .cp [.j a.Size, .j a.Seeds, .sl 3 (Z11 a), .sl 1 (Z38 a)]) (iE 0 rfl rfl (dvc (.same _) (dvc (.same _) (dvc (.same _) (dvc (.same _) dvn))))) (uB _ _));obtain ⟨g, j, h⟩ := bns h;refine bB rfl (iM (passed := [.arr w4 3 1 (c.map aG)]) (aF rfl) rfl (.func _ _ call167) rfl rfl (yZ c (fun l m => mY l m a) 168 [.cp [.j a.Size, .j a.Seeds, .sl 3 (Z11 a), .sl 1 (Z38 a)]] call168 (fun _ _ _ h => aFo _ _ _ h) j)) ?_;rintro _ ⟨_, _, ⟨rfl, rfl⟩, rfl⟩;refine aB (aC (aA ?_));refine bB rfl (aIg (aF rfl) bM rfl rfl (rows := ([(-1)]).map aG) rfl (bR (f := aG) fun _ => rfl) rfl (by decide)) ?_;rintro _ ⟨n, rfl⟩;refine eT (aT [1, 2, 0] rfl rfl (le_refl _)) ?_;refine eT (aNd (ds' := [.sl 1 (g.map aG)]) [.arr n 3 1 (([(-1)]).map aG)] [.arr w4 3 1 (g.map aG)] rfl (dvc (cJ 0 rfl (bR (f := aG) fun _ => rfl)) dvn) (jW (k := 16) (v := .any) (.any _) (uB _ _))) ?_;refine to (sl 0 rfl rfl rfl cS) ?_;obtain ⟨o, p, h⟩ := bns h;refine bB rfl (iG (i := 1) (aF rfl) bM rfl rfl rfl (fun _ => rfl) p rfl) ?_;rintro _ ⟨e, rfl⟩;refine to (sst 0 rfl rfl sizeOf23 [.lit e]) (aB (aC (aA (to (uW (aF rfl) rfl rfl) ?_))));refine ta (.fn 169 [.cp [.j a.Size, .j a.Seeds, .sl 3 (Z11 a), .sl 1 (Z38 a)], .bp b2 0 0]) (aB ?_);obtain rfl := sIn h;exact cA ⟨rfl, _, [.box b2 0 [.lit e], .arr e 3 1 (o.map aG)], .one (.tmp 2 (v := .fn 169 [.cp [.j a.Size, .j a.Seeds, .sl 3 (Z11 a), .sl 1 (Z38 a)], .bp b2 0 0]) rfl), .refl _, (aCr (.cons (.same _) (.cons (iE 0 rfl rfl (dvc (cJ 1 rfl (bR (f := aG) fun _ => rfl)) dvn)) .nil)))⟩

theorem mQ (a : List Int) {r : (List Int)} (h : fA a = some r) : dN Tryz.prog 93 [.d (Z4 a)] [] (fun r' o' => ∃ (w0 : Value), r' = .d (.lit w0) ∧ o' = [.arr w0 3 1 (r.map aG)]) := by
 unfold fA at h;refine jG func93 rfl (rs := [.tmp 2]) results93 ntmps93 (Nat.le_of_ble_eq_true rfl) ?_;refine aC (aA (to (sR 3 1 (.inl rfl) (aF rfl)) ?_));refine aB (aC (aC (aA (tm (Z35 a) ?_))));refine bB rfl (aNv (aF rfl) rfl rfl underlying23) ?_;rintro _ ⟨b2, h3, rfl⟩;refine aB ?_;refine vV rfl (fun c4 => ?_) (fun c4 => ?_)
 ·obtain rfl := aNm (h3 c4)
  simp [app] at h
  subst h;refine aC (aA (to (sR 3 1 (.inl rfl) (aF rfl)) ?_));refine aB ?_;refine bK (aT [1, 0] rfl rfl (le_refl _)) ?_;exact cA ⟨rfl, _, Z52, Z52, _, .one (.tmp 2 (v := .d (.lit (.slice none 0 0))) rfl), .refl _, .same _, (.slice none 0 0), rfl, rfl⟩
 ·refine aY (aC (aA ?_));refine bB rfl (aIg (aF rfl) bM rfl rfl (rows := (([] : List Int)).map aG) rfl (bR (f := aG) fun _ => rfl) rfl (by decide)) ?_;rintro _ ⟨v5, rfl⟩;refine tm (Z35 a) ?_;obtain ⟨x6, h7, h⟩ := bns h;refine bB rfl (iG (i := 1) (aF rfl) bM rfl rfl rfl (fun _ => rfl) h7 rfl) ?_;rintro _ ⟨v8, rfl⟩;refine ta (.d (.lit v8)) (aB ?_);obtain rfl := sIn h;refine bK (aT [1, 0] rfl rfl (le_refl _)) ?_;exact cA ⟨rfl, _, [.arr v8 3 1 (x6.map aG)], Z52, _, .one (.tmp 2 (v := .d (.lit v8)) rfl), .refl _, .same _, v8, rfl, rfl⟩

theorem vA (b : List Int) (c : Int) {r : Int} (h : gU b c = some r) : Fn Tryz.prog 117 [.d (Z4 b), .i c] (.i r) := by
 unfold gU at h;refine oT [.tmp 4] func117 results117 ntmps117 ?_;refine aC (aA (ta (.i 0) (aB (aC (aC (aA (tm (Z35 b) (to (sle rfl bM.of) (tm (.i 0) (aB (bT ?_)))))))))));refine cW (S := Int) [0, 1, 7] (fun s1 => [(8, .i s1)]) (fun s1 => []) (fun k s1 => gH b c (b.length : Int) k s1) (fun _ => rfl) (0) h (aT [] rfl rfl (aM rfl (aR ⟨rfl, rfl, rfl, trivial⟩))) ?_;rintro k2 a h;simp only [gH] at h;refine aC (aA (to (scm rfl rfl rfl) (aB (aC ?_))));refine tih h (fun c3 h => ?_) (fun c3 h => ?_)
 ·refine aY (aC (bT (aC (aA (tm (.i a) (ta (.i a) (aB (aC (aA (tm (.i c) (tm (Z35 b) (tm (.i a) ?_))))))))))));obtain ⟨x4, h5, h⟩ := bns h;refine to (six rfl rfl bM.of (bU aG h5)) (to (slc rfl aS) (to (scm rfl rfl rfl) (aB ?_)));refine tih h (fun c6 h => ?_) (fun c6 h => ?_)
  ·refine aC (aA (tm (.i a) (ta (.i a) (aB ?_))));obtain rfl := sIn h;exact rt
  ·refine dB ?_;refine aA (to (sar rfl rfl rfl) (tm (.i (w64 (a + 1))) (aB ?_)));exact ⟨(w64 (a + 1)), h, aT [] rfl rfl (aM rfl (aR ⟨rfl, rfl, rfl, trivial⟩))⟩
 ·refine cK ?_;refine .inl ⟨rfl, ?_⟩;simp only [pV] at h;refine aC (aA (ta (.i (-1)) (aB ?_)));obtain rfl := sIn h;exact rt

theorem cV (a : List Int) (c : Int) {r : Bool} (h : cR a c = some r) : Fn Tryz.prog 91 [.d (Z4 a), .i c] (.b r) := by
 unfold cR at h;refine oT [.tmp 4] func91 results91 ntmps91 ?_;refine aC (aA (ta Z6 (aB (aC (aA (tm (Z35 a) (tm (.i c) ?_)))))));obtain ⟨r1, h2, h⟩ := bns h;refine to (scr call117 (vA _ _ h2)) (to (scm rfl rfl rfl) (ta (.b (decide (0 ≤ r1))) (aB ?_)));obtain rfl := sIn h;exact rt

theorem oC (a : aU) (c : Int) (e : Int) {r : Bool} (h : zK a c e = some r) : Fn Tryz.prog 171 [.agg (aK a), .i c, .i e] (.b r) := by
 unfold zK at h;refine oT [.tmp 6] func171 results171 ntmps171 ?_;refine aC (aA ?_);refine bB rfl (cO (v := .agg (aK a)) (aF rfl) rfl rfl rfl) ?_;rintro _ ⟨b1, rfl⟩;refine ta Z6 (aB (aC (aA (tfl 0 rfl rfl dE rfl aS (to (nM (aF rfl) rfl rfl (by decide)) ?_)))));refine tfl 0 rfl rfl dE rfl aS (to (sar rfl rfl rfl) (tfl 0 rfl rfl dE rfl aS (to (nM (aF rfl) rfl rfl (by decide)) ?_)));refine to (sar rfl rfl rfl) (to (fH (aF rfl) bM rfl rfl (rows := (Z59 a).map aG) rfl (bR (f := aG) fun _ => rfl) rfl (by decide)) ?_);refine ta (.d (.sl 1 (((Z59 a)).map aG))) (aB (aC (bT (aC (aA (tm (.i c) (to (scm rfl rfl rfl) (tm (.b (decide (c = 0))) ?_))))))));obtain ⟨b2, h3, h⟩ := bns h;refine aW 4 [1, 2, 3, 7] 26 b2 ?_ ?_
 ·refine bch h3 (fun k h3 => ?_) (fun k h3 => ?_)
  ·refine tkl 0 k rfl rfl lL rfl aS (tk k (scm rfl rfl rfl) (to (spt (.b (decide (0 < a.Seeds))) k) ?_));obtain rfl := sIn h3;refine aB (aI rfl ⟨rfl, rfl, rfl, rfl, trivial⟩ rfl)
  ·refine tp k (tp k (tp k (to (spf Z6 k) ?_)));obtain rfl := sIn h3;refine aB (aI rfl ⟨rfl, rfl, rfl, rfl, trivial⟩ rfl)
 ·refine ta (.b b2) (aB ?_);refine tih h (fun c4 h => ?_) (fun c4 h => ?_)
  ·refine aC (aA (tm (.i e) (to (scm rfl rfl rfl) (ta (.b (decide (e = 0))) (aB ?_)))));obtain rfl := sIn h;refine bK (bC (bE (l := [6]) ⟨rfl, trivial⟩)) ?_;exact rt
  ·refine aC (aA (tm (.i c) (tfl 0 rfl rfl dE rfl aS (to (sar rfl rfl rfl) (to (scm rfl rfl rfl) (tm (.b (decide (c = (w64 (a.Size - 1))))) ?_))))));obtain ⟨b5, h6, h⟩ := bns h;refine aW 4 [1, 2, 3, 7] 39 b5 ?_ ?_
   ·refine bch h6 (fun m h6 => ?_) (fun m h6 => ?_)
    ·refine tkl 0 m rfl rfl lL rfl aS (tk m (scm rfl rfl rfl) (to (spt (.b (decide (1 < a.Seeds))) m) ?_));obtain rfl := sIn h6;refine aB (aI rfl ⟨rfl, rfl, rfl, rfl, trivial⟩ rfl)
    ·refine tp m (tp m (tp m (to (spf Z6 m) ?_)));obtain rfl := sIn h6;refine aB (aI rfl ⟨rfl, rfl, rfl, rfl, trivial⟩ rfl)
   ·refine ta (.b b5) (aB ?_);refine tih h (fun c7 h => ?_) (fun c7 h => ?_)
    ·refine aC (aA (tm (.i e) (to (scm rfl rfl rfl) (ta (.b (decide (e = 1))) (aB ?_)))));obtain rfl := sIn h;refine bK (bC (bE (l := [6]) ⟨rfl, trivial⟩)) ?_;exact rt
    ·refine aC (aA (tm (.i e) (to (scm rfl rfl rfl) (tm (Z29 e) ?_))));obtain ⟨b8, h9, h⟩ := bns h;refine aW 5 [1, 2, 7] 50 b8 ?_ ?_
     ·refine bch h9 (fun g h9 => ?_) (fun g h9 => ?_)
      ·refine tp g (tp g (tp g (tp g (to (spt Z17 g) ?_))));obtain rfl := sIn h9;refine aB (aI rfl ⟨rfl, rfl, rfl, trivial⟩ rfl)
      ·refine tk g (sm (.i e)) (tkl 0 g rfl rfl lL rfl aS (tk g (scm rfl rfl rfl) (to (spf (.b (decide (a.Seeds ≤ e))) g) ?_)));obtain rfl := sIn h9;refine aB (aI rfl ⟨rfl, rfl, rfl, trivial⟩ rfl)
     ·refine ta (.b b8) (aB ?_);refine tih h (fun p h => ?_) (fun p h => ?_)
      ·refine aC (aA (ta Z17 (aB ?_)));obtain rfl := sIn h;refine bK (bC (bE (l := [6]) ⟨rfl, trivial⟩)) ?_;exact rt
      ·refine dB ?_;refine aC (aA (tm (.i e) (to (scm rfl rfl rfl) (tm (.b (decide (1 < e))) ?_))));obtain ⟨o, n, h⟩ := bns h;refine aW 4 [] 57 o ?_ ?_
       ·refine bch n (fun j n => ?_) (fun j n => ?_)
        ·refine tk j (sm (.d (.sl 1 (((Z59 a)).map aG)))) (tk j (sm (.i c)) ?_);obtain ⟨q, s, n⟩ := bns n;refine tk j (scr call91 (cV _ _ s)) (to (spt (.b q) j) ?_);obtain rfl := sIn n;refine aB (aI rfl trivial rfl)
        ·refine tp j (tp j (tp j (to (spf Z6 j) ?_)));obtain rfl := sIn n;refine aB (aI rfl trivial rfl)
       ·refine ta (.b o) (aB ?_);obtain rfl := sIn h;refine bK (bC (bE (l := [6]) ⟨rfl, trivial⟩)) ?_;exact rt

theorem aIp (g : aU) (c : Int) (e : Int) {r : Bool} (h : yC g c e = some r) : Fn Tryz.prog 219 [.agg (aK g), .i c, .i e] (.b r) := by
 unfold yC at h;refine oT [.tmp 6] func219 results219 ntmps219 ?_;refine aC (aA ?_);refine bB rfl (cO (v := .agg (aK g)) (aF rfl) rfl rfl rfl) ?_;rintro _ ⟨b1, rfl⟩;refine ta Z6 (aB (aC (aC (aA (tm (.i c) (to (scm rfl rfl rfl) (tm (Z29 c) ?_)))))));obtain ⟨b2, h3, h⟩ := bns h;refine aW 3 [1, 2, 3] 14 b2 ?_ ?_
 ·refine bch h3 (fun j h3 => ?_) (fun j h3 => ?_)
  ·refine tp j (tp j (to (spt Z17 j) ?_));obtain rfl := sIn h3;refine aB (aI rfl ⟨rfl, rfl, rfl, trivial⟩ rfl)
  ·refine tk j (sm (.i e)) (tk j (scm rfl rfl rfl) (to (spf (Z29 e) j) ?_));obtain rfl := sIn h3;refine aB (aI rfl ⟨rfl, rfl, rfl, trivial⟩ rfl)
 ·refine aB ?_;refine tih h (fun c4 h => ?_) (fun c4 h => ?_)
  ·refine aC (aA (tm (.i c) (tm (.i e) (to (scm rfl rfl rfl) (ta (.b (!decide (c = e))) (aB ?_))))));obtain rfl := sIn h;refine bK (bC (bE (l := [6]) ⟨rfl, trivial⟩)) ?_;exact rt
  ·refine aY (aC ?_);obtain ⟨x6, h7, h⟩ := bns h;obtain ⟨x8, h9, h⟩ := bns h;refine fZ mix 13 [] (fun X5 => [(7, .bp (X5 10).b 0 0), (8, .bp (X5 11).b 0 0), (27, .agg (aL x8))]) (fun X5 => [.box b1 0 (aK g), .box (X5 10).b 0 (aL x6), .box (X5 11).b 0 Z24]) ?_ ?_
   ·refine ⟨2, fun X5 => [(18, 0, .bp b1 0 2), (19, 1, .d (.sl 3 (Z11 g))), (20, 2, .i c), (21, 3, .cp [.j x6.Player, .j x6.Nation, .k x6.Qualified]), (22, 4, .agg (aL x6)), (23, 5, .bp b1 0 2), (24, 6, .d (.sl 3 (Z11 g))), (25, 7, .i e), (26, 8, .cp [.j x8.Player, .j x8.Nation, .k x8.Qualified]), (27, 9, .agg (aL x8)), (7, 10, .bp (X5 10).b 0 0), (8, 11, .bp (X5 11).b 0 0)], fun X5 => [([], .box b1 0 (aK g)), ([(12, .box (X5 10).b 0 (aL x6)), (10, .box (X5 10).b 0 Z24)], nob), ([(11, .box (X5 11).b 0 Z24)], nob)], ?_, ?_⟩
    · exact xok [(0, 13), (1, 13), (0, 13), (203, 13), (4, 13), (0, 0), (6, 0), (0, 0), (708, 0), (9, 0), (0, 13), (0, 13), (51112, 0)] ⟨fun _ _ w _ k => xp w (yf k rfl eB),
 fun _ _ w _ k => xp w (yl k 0 rfl (og k rfl rfl) rfl gJ),
 fun _ _ w _ k => xp w (ym k (.i c)),
 fun _ _ w _ k => xp w (yix k rfl rfl gN.of (bU aL h7)),
 fun _ _ w _ k => xp w (aOg k (aL x6) rfl wI),
 fun _ _ w _ k => xp w (yf k rfl eB),
 fun _ _ w _ k => xp w (yl k 0 rfl (og k rfl rfl) rfl gJ),
 fun _ _ w _ k => xp w (ym k (.i e)),
 fun _ _ w _ k => xp w (yix k rfl rfl gN.of (bU aL h9)),
 fun _ _ w _ k => xp w (aOg k (aL x8) rfl wI),
 fun X5 S hw hi hS => oG (X := X5) (p := 1) (v := fun x => .bp x.b 0 0) (mo := fun x => .box x.b 0 Z24) hS hi rfl rfl (fun _ => rfl) hw (fun _ => rfl) (fun _ => rfl) (fun _ => rfl) (fun _ => ⟨rfl, rfl, .inr rfl, ⟨rfl, rfl, .inr rfl, ⟨rfl, rfl, .inr rfl, ⟨rfl, rfl, .inr rfl, ⟨rfl, rfl, .inr rfl, ⟨rfl, rfl, .inr rfl, ⟨rfl, rfl, .inr rfl, ⟨rfl, rfl, .inr rfl, ⟨rfl, rfl, .inr rfl, ⟨rfl, rfl, .inr rfl, ⟨rfl, rfl, .inl rfl, ⟨rfl, rfl, .inr rfl, trivial⟩⟩⟩⟩⟩⟩⟩⟩⟩⟩⟩⟩) (fun _ => ⟨trivial, rfl, ⟨⟨rfl, .inl rfl, ⟨rfl, .inl rfl, trivial⟩⟩, rfl, ⟨⟨rfl, .inr rfl, trivial⟩, rfl, trivial⟩⟩⟩) (gV (cD (zs := [.j 0, .j 0, .k false]) (aF rfl) zeroValue43 rfl rfl) (by rintro _ ⟨w, rfl⟩; exact ⟨⟨w, undef⟩, aT [0, 3, 2] rfl rfl (le_refl _)⟩)),
 fun X5 S hw hi hS => oG (X := X5) (p := 2) (v := fun x => .bp x.b 0 0) (mo := fun x => .box x.b 0 Z24) hS hi rfl rfl (fun _ => rfl) hw (fun _ => rfl) (fun _ => rfl) (fun _ => rfl) (fun _ => ⟨rfl, rfl, .inr rfl, ⟨rfl, rfl, .inr rfl, ⟨rfl, rfl, .inr rfl, ⟨rfl, rfl, .inr rfl, ⟨rfl, rfl, .inr rfl, ⟨rfl, rfl, .inr rfl, ⟨rfl, rfl, .inr rfl, ⟨rfl, rfl, .inr rfl, ⟨rfl, rfl, .inr rfl, ⟨rfl, rfl, .inr rfl, ⟨rfl, rfl, .inr rfl, ⟨rfl, rfl, .inl rfl, trivial⟩⟩⟩⟩⟩⟩⟩⟩⟩⟩⟩⟩) (fun _ => ⟨trivial, rfl, ⟨⟨rfl, .inr rfl, ⟨rfl, .inr rfl, trivial⟩⟩, rfl, ⟨⟨rfl, .inl rfl, trivial⟩, rfl, trivial⟩⟩⟩) (gV (cD (zs := [.j 0, .j 0, .k false]) (aF rfl) zeroValue43 rfl rfl) (by rintro _ ⟨w, rfl⟩; exact ⟨⟨w, undef⟩, aT [0, 1, 3] rfl rfl (le_refl _)⟩)),
 fun _ _ _ _ k => xs 1 k rfl rfl (rA (i := 1) (aV k rfl) (og k rfl rfl) (aV k rfl) rfl rfl sizeOf43 rfl (aF rfl) (Nat.le_of_ble_eq_true rfl) (ds' := (aL x6)) rfl), trivial⟩
    · exact fun X5 => bZ (aM rfl (aM rfl (aM rfl (aR trivial))))
   ·intro X5;refine to (sst 2 rfl rfl sizeOf43 (aL x8)) (aB (aC (aA (tfl 1 rfl rfl qM rfl aS (tfl 2 rfl rfl qM rfl aS (to (scm rfl rfl rfl) (tm (.b (!decide (x6.Nation = x8.Nation))) ?_)))))));obtain ⟨s, o, h⟩ := bns h;refine aW 4 [7, 8] 37 s ?_ ?_
    ·refine bch o (fun f o => ?_) (fun f o => ?_)
     ·refine tp f (tp f (tp f (to (spt Z17 f) ?_)));obtain rfl := sIn o;refine aB (aI rfl ⟨rfl, rfl, trivial⟩ rfl)
     ·refine tkl 1 f rfl rfl qM rfl aS (tk f (scm rfl rfl rfl) (to (spf (.b (decide (x6.Nation = 0))) f) ?_));obtain rfl := sIn o;refine aB (aI rfl ⟨rfl, rfl, trivial⟩ rfl)
    ·refine tm (.b s) ?_;obtain ⟨t, m, h⟩ := bns h;refine aW 8 [] 46 t ?_ ?_
     ·refine bch m (fun a m => ?_) (fun a m => ?_)
      ·refine tkl 1 a rfl rfl uD rfl oZ (tk a (sm (.b x6.Qualified)) ?_);obtain ⟨u, q, m⟩ := bns m;refine aW 3 [38] 44 u ?_ ?_
       ·refine bch q (fun n q => ?_) (fun n q => ?_)
        ·refine tkl 2 n rfl rfl uD rfl oZ (tk a (spt (.b x8.Qualified) n) ?_);obtain rfl := sIn q;refine aB (aI rfl ⟨rfl, trivial⟩ rfl)
        ·refine tp n (tp n (tk a (spf Z6 n) ?_));obtain rfl := sIn q;refine aB (aI rfl ⟨rfl, trivial⟩ rfl)
       ·refine tk a (sn rfl) (to (spt (.b (!u)) a) ?_);obtain rfl := sIn m;refine aB (aI rfl trivial rfl)
      ·refine tp a (tp a (tp a (tq (tq (tp a (tp a (to (spf Z6 a) ?_)))))));obtain rfl := sIn m;refine aB (aI rfl trivial rfl)
     ·refine ta (.b t) (aB ?_);obtain rfl := sIn h;refine bK (bC (bE (l := [6]) ⟨rfl, trivial⟩)) ?_;exact rt

theorem xI (c : Int) (a : Int) (d : aU) (e : Int) {r : Bool} (h : rR c a d e = some r) : Fn Tryz.prog 218 [.i c, .i a, .cp (aK d), .cp [.j e]] (.b r) := by
 unfold rR at h;refine oT [.tmp 6] func218 results218 ntmps218 ?_;refine aC (aA (ta Z6 (aB (aC (aA (tm (.i c) (to (scm rfl rfl rfl) (tm (Z29 c) ?_))))))));obtain ⟨b1, h2, h⟩ := bns h;refine aW 5 [0, 1, 3] 14 b1 ?_ ?_
 ·refine bch h2 (fun c6 h2 => ?_) (fun c6 h2 => ?_)
  ·refine tp c6 (tp c6 (tp c6 (tp c6 (to (spt Z17 c6) ?_))));obtain rfl := sIn h2;refine aB (aI rfl ⟨rfl, rfl, rfl, trivial⟩ rfl)
  ·refine tk c6 (sm (.i c)) (tk c6 (sfc [.j d.Seeds] rfl lL) (tk c6 (slc rfl aS) (tk c6 (scm rfl rfl rfl) (to (spf (.b (decide (d.Seeds ≤ c))) c6) ?_))));obtain rfl := sIn h2;refine aB (aI rfl ⟨rfl, rfl, rfl, trivial⟩ rfl)
 ·refine tm (.b b1) ?_;obtain ⟨b3, h4, h⟩ := bns h;refine aW 7 [] 22 b3 ?_ ?_
  ·refine bch h4 (fun c5 h4 => ?_) (fun c5 h4 => ?_)
   ·refine tp c5 (tp c5 (tp c5 (tp c5 (tp c5 (tp c5 (to (spt Z17 c5) ?_))))));obtain rfl := sIn h4;refine aB (aI rfl trivial rfl)
   ·refine tk c5 (sm (.i a)) (tk c5 (scm rfl rfl rfl) (tk c5 (sm (.i c)) (tk c5 (slc rfl aS) (tk c5 (scm rfl rfl rfl) (tk c5 (aUp (aF rfl) rfl rfl underlying4) ?_)))));refine to (spf (.b (decide ((decide (a = (-1))) = (decide (c < e))))) c5) ?_;obtain rfl := sIn h4;refine aB (aI rfl trivial rfl)
  ·refine ta (.b b3) (aB ?_);obtain rfl := sIn h;exact rt

theorem aAt (d : aU) (k : Int) (m : Int) {r : Bool} (h : yD d k m = some r) : Fn Tryz.prog 172 [.agg (aK d), .i k, .i m] (.b r) := by
 unfold yD at h;refine oT [.tmp 6] func172 results172 ntmps172 ?_;refine aC (aA ?_);refine bB rfl (cO (v := .agg (aK d)) (aF rfl) rfl rfl rfl) ?_;rintro _ ⟨b1, rfl⟩;refine ta Z6 (aB (aC (aA (tfl 0 rfl rfl dE rfl aS (tfl 0 rfl rfl eB rfl gJ (to (sle rfl gN.of) (to (sar rfl rfl rfl) ?_)))))));refine bB rfl (cD (zs := [.j 0]) (aF rfl) zeroValue3 rfl rfl) ?_;rintro _ ⟨b2, rfl⟩;refine to (sst 1 rfl rfl sizeOf3 [.j (Z10 d)]) (aB (aC (aA (to (uW (aF rfl) rfl rfl) ?_))));refine ta (.fn 218 [.bp b1 0 0, .bp b2 0 0]) (aB (aC (aC (aA (to (sl 1 rfl rfl rfl aS) (tfl 0 rfl rfl lL rfl aS (to (scm rfl rfl rfl) (tm (.b (decide ((Z10 d) ≤ d.Seeds))) ?_))))))));obtain ⟨b3, h4, h⟩ := bns h;refine aW 19 [1, 2, 3, 8] 39 b3 ?_ ?_
 ·refine bch h4 (fun a h4 => ?_) (fun a h4 => ?_)
  ·refine tk a (sm (.i k)) (tk a (scm rfl rfl rfl) (tk a (sm (Z29 k)) ?_));obtain ⟨s, p, h4⟩ := bns h4;refine aW 5 [1, 2, 3, 8, 20] 28 s ?_ ?_
   ·refine bch p (fun g p => ?_) (fun g p => ?_)
    ·refine tk g (sm (.i m)) (tkl 0 g rfl rfl lL rfl aS (tk g (scm rfl rfl rfl) (tk a (spt (.b (decide (d.Seeds ≤ m))) g) ?_)));obtain rfl := sIn p;refine aB (aI rfl ⟨rfl, rfl, rfl, rfl, rfl, trivial⟩ rfl)
    ·refine tp g (tp g (tp g (tp g (tk a (spf Z6 g) ?_))));obtain rfl := sIn p;refine aB (aI rfl ⟨rfl, rfl, rfl, rfl, rfl, trivial⟩ rfl)
   ·refine tk a (sm (.b s)) ?_;obtain ⟨t, n, h4⟩ := bns h4;refine aW 9 [1, 2, 3, 8, 20] 38 t ?_ ?_
    ·refine bch n (fun c n => ?_) (fun c n => ?_)
     ·refine tp c (tp c (tp c (tq (tq (tq (tq (tp c (tk a (spt Z17 c) ?_))))))));obtain rfl := sIn n;refine aB (aI rfl ⟨rfl, rfl, rfl, rfl, rfl, trivial⟩ rfl)
     ·refine tk c (sm (.i m)) (tk c (scm rfl rfl rfl) (tk c (sm (Z29 m)) ?_));obtain ⟨u, q, n⟩ := bns n;refine aW 5 [1, 2, 3, 8, 20, 29] 37 u ?_ ?_
      ·refine bch q (fun j q => ?_) (fun j q => ?_)
       ·refine tk j (sm (.i k)) (tkl 0 j rfl rfl lL rfl aS (tk j (scm rfl rfl rfl) (tk c (spt (.b (decide (d.Seeds ≤ k))) j) ?_)));obtain rfl := sIn q;refine aB (aI rfl ⟨rfl, rfl, rfl, rfl, rfl, rfl, trivial⟩ rfl)
       ·refine tp j (tp j (tp j (tp j (tk c (spf Z6 j) ?_))));obtain rfl := sIn q;refine aB (aI rfl ⟨rfl, rfl, rfl, rfl, rfl, rfl, trivial⟩ rfl)
      ·refine tk a (spf (.b u) c) ?_;obtain rfl := sIn n;refine aB (aI rfl ⟨rfl, rfl, rfl, rfl, rfl, trivial⟩ rfl)
    ·refine to (spt (.b t) a) ?_;obtain rfl := sIn h4;refine aB (aI rfl ⟨rfl, rfl, rfl, rfl, trivial⟩ rfl)
  ·refine tp a (tp a (tp a (tq (tq (tq (tq (tp a (tp a (tq (tq (tq (tq (tq ?_)))))))))))));refine tq (tq (tq (tp a (to (spf Z6 a) ?_))));obtain rfl := sIn h4;refine aB (aI rfl ⟨rfl, rfl, rfl, rfl, trivial⟩ rfl)
 ·refine aB ?_;refine tih h (fun c5 h => ?_) (fun c5 h => ?_)
  ·refine aC (aA (ta Z6 (aB ?_)));obtain rfl := sIn h;refine bK (bC (bE (l := [6]) ⟨rfl, trivial⟩)) ?_;exact rt
  ·refine aY (aC (aA (to (sla 0 (aK d) rfl rfl dO) (tm (.i k) (tm (.i m) ?_)))));obtain ⟨r6, h7, h⟩ := bns h;refine to (scr call219 (aIp _ _ _ h7)) (tm (.b r6) ?_);obtain ⟨b8, h9, h⟩ := bns h;refine aW 5 [1, 2, 8] 49 b8 ?_ ?_
   ·refine bch h9 (fun e h9 => ?_) (fun e h9 => ?_)
    ·refine tk e (sm (.fn 218 [.bp b1 0 0, .bp b2 0 0])) (tk e (sm (.i k)) (tk e (sm (.i m)) ?_));obtain ⟨x, y, h9⟩ := bns h9;refine tk e (dC (aF rfl) (.clo _ _ _ _ call218 rfl) (zL rfl) rfl (.cons (.same _) (.cons (.same _) (.cons (iE 0 rfl rfl (dvc (.same _) (dvc (.same _) (dvc (.same _) (dvc (.same _) dvn))))) (.cons (iE 1 rfl rfl (dvc (.same _) dvn)) .nil)))) (xI _ _ _ _ y) rfl) ?_;refine to (spt (.b x) e) ?_;obtain rfl := sIn h9;refine aB (aI rfl ⟨rfl, rfl, rfl, trivial⟩ rfl)
    ·refine tp e (tp e (tp e (tp e (to (spf Z6 e) ?_))));obtain rfl := sIn h9;refine aB (aI rfl ⟨rfl, rfl, rfl, trivial⟩ rfl)
   ·refine tm (.b b8) ?_;obtain ⟨w, o, h⟩ := bns h;refine aW 5 [] 55 w ?_ ?_
    ·refine bch o (fun f o => ?_) (fun f o => ?_)
     ·refine tk f (sm (.fn 218 [.bp b1 0 0, .bp b2 0 0])) (tk f (sm (.i m)) (tk f (sm (.i k)) ?_));obtain ⟨z, A, o⟩ := bns o;refine tk f (dC (aF rfl) (.clo _ _ _ _ call218 rfl) (zL rfl) rfl (.cons (.same _) (.cons (.same _) (.cons (iE 0 rfl rfl (dvc (.same _) (dvc (.same _) (dvc (.same _) (dvc (.same _) dvn))))) (.cons (iE 1 rfl rfl (dvc (.same _) dvn)) .nil)))) (xI _ _ _ _ A) rfl) ?_;refine to (spt (.b z) f) ?_;obtain rfl := sIn o;refine aB (aI rfl trivial rfl)
     ·refine tp f (tp f (tp f (tp f (to (spf Z6 f) ?_))));obtain rfl := sIn o;refine aB (aI rfl trivial rfl)
    ·refine ta (.b w) (aB ?_);obtain rfl := sIn h;refine bK (bC (bE (l := [6]) ⟨rfl, trivial⟩)) ?_;exact rt

theorem aBj {S : Type} (J K : S → MO → Prop) (ly : Nat) (V : S → (List Int) → Option (S × Bool)) (hy : ∀ (s : S) (m : MO) (x0 : List Int) (s' : S × Bool), J s m → V s x0 = some s' → uA Tryz.prog ly [.d (.sl 1 (x0.map aG))] m (fun b m' => b = s'.2 ∧ JK J K s' m')) (kr : Nat) : ∀ (a : List Int) (F : Int) (e : aU) (B : List Int) (sy : S) {r : S × Bool} {o j c : Nat} (m0 : MO) (_hj : J sy m0) (_hcap : a.length ≤ c) (_hsz : (c : Int) = e.Size) (_h : lQ V kr a F e B sy = some r), dN Tryz.prog 170 [.d (.lit (vw j a.length c)), .i F, .cp [.j e.Size, .j e.Seeds, .sl 3 (e.Persons.map aL), .sl 1 (e.Lots.map aG)], .cp (Z23 ly), .cp [.sl 1 (B.map aG)], .bp o 0 0] [m0, mN o 170 [.cp [.j e.Size, .j e.Seeds, .sl 3 (e.Persons.map aL), .sl 1 (e.Lots.map aG)], .cp (Z23 ly), .cp [.sl 1 (B.map aG)], .bp o 0 0], .arr (vw j a.length c) 3 1 (a.map aG)] (fun r' o' => ∃ m', r' = .b r.2 ∧ JK J K r m' ∧ o' = [m', mN o 170 [.cp [.j e.Size, .j e.Seeds, .sl 3 (e.Persons.map aL), .sl 1 (e.Lots.map aG)], .cp (Z23 ly), .cp [.sl 1 (B.map aG)], .bp o 0 0], .arr (vw j a.length c) 3 1 (a.map aG)]) := by
  induction kr with
  | zero => intros; rename_i h; cases h
  | succ kr ih =>
    intro a F e B sy r o j c m0 hj hcap hsz h;simp only [lQ] at h;refine rG func170 rfl (rs := [.tmp 8]) results170 ntmps170 (Nat.le_of_ble_eq_true rfl) ?_;refine aC (aA (ta Z6 (aB (aC (aA (tm (.d (.lit (vw j a.length c))) (to (qZ (m := 2) (aF rfl) rfl rfl bM.of) ?_)))))));refine ta (.i (a.length : Int)) (aB (aC (aC (aA (tm (.i (a.length : Int)) (to (sfc [.j e.Size] rfl dE) (to (slc rfl aS) (to (scm rfl rfl rfl) (aB ?_)))))))));refine tih h (fun c1 h => ?_) (fun c1 h => ?_)
    ·refine aC ?_;obtain ⟨r3, h4, h⟩ := bns h;refine fZ mix 3 [] (fun X2 => [(19, .d (.lit (yv ly))), (21, .d (.lit (X2 2).v))]) (fun X2 => [m0, mN o 170 [.cp [.j e.Size, .j e.Seeds, .sl 3 (e.Persons.map aL), .sl 1 (e.Lots.map aG)], .cp (Z23 ly), .cp [.sl 1 (B.map aG)], .bp o 0 0], .arr (vw j a.length c) 3 1 (a.map aG), .arr (X2 2).v 3 1 (r3.map aG)]) ?_ ?_
     ·refine ⟨1, fun X2 => [(19, 0, .d (.lit (yv ly))), (20, 1, .d (.lit (vw j a.length c))), (21, 2, .d (.lit (X2 2).v))], fun X2 => [([], m0), ([], mN o 170 [.cp [.j e.Size, .j e.Seeds, .sl 3 (e.Persons.map aL), .sl 1 (e.Lots.map aG)], .cp (Z23 ly), .cp [.sl 1 (B.map aG)], .bp o 0 0]), ([], .arr (vw j a.length c) 3 1 (a.map aG)), ([(2, .arr (X2 2).v 3 1 (r3.map aG))], nob)], ?_, ?_⟩
      · exact xok [(0, 0), (0, 3), (2, 0)] ⟨fun _ _ w _ k => xp w (ylc k rfl aSz),
 fun _ _ w _ k => xp w (ym k (.d (.lit (vw j a.length c)))),
 fun X2 S hw hi hS => oG (X := X2) (p := 3) (v := fun x => .d (.lit x.v)) (mo := fun x => .arr x.v 3 1 (r3.map aG)) hS hi rfl rfl (fun _ => rfl) hw (fun _ => rfl) (fun _ => rfl) (fun _ => rfl) (fun _ => ⟨rfl, rfl, .inr rfl, ⟨rfl, rfl, .inr rfl, ⟨rfl, rfl, .inl rfl, trivial⟩⟩⟩) (fun _ => ⟨trivial, rfl, ⟨trivial, rfl, ⟨trivial, rfl, ⟨⟨rfl, .inl rfl, trivial⟩, rfl, trivial⟩⟩⟩⟩) (gV (aMb (aF rfl) (.func _ _ call93) (ev2 (aV hS rfl) evn) rfl (.cons (.d (cJ 2 (og hS rfl rfl) (bR (f := aG) fun _ => rfl))) .nil) (mQ _ h4) (aHx (fun _ => rfl) _)) (by rintro _ ⟨w, rfl⟩; exact ⟨⟨0, w⟩, aT [0, 1, 2, 4] rfl rfl (le_refl _)⟩)), trivial⟩
      · exact fun X2 => bZ (aM rfl (aM rfl (aR trivial)))
     ·intro X2;refine eT (aCs [m0, mN o 170 [.cp [.j e.Size, .j e.Seeds, .sl 3 (e.Persons.map aL), .sl 1 (e.Lots.map aG)], .cp (Z23 ly), .cp [.sl 1 (B.map aG)], .bp o 0 0], .arr (vw j a.length c) 3 1 (a.map aG)] [.arr (X2 2).v 3 1 (r3.map aG)] rfl (jW (k := 21) (v := .d (.sl 1 (r3.map aG))) (.d (cJ 0 rfl (bR (f := aG) fun _ => rfl))) (uB _ _))) ?_;obtain ⟨y5, h6, h⟩ := bns h;refine aLn rfl (aRp (aF rfl) rfl rfl rfl rfl (hy _ _ _ _ hj h6)) ?_;rintro _ ⟨_, m7, ⟨rfl, a4⟩, rfl⟩;refine ta (.b y5.2) (aB ?_);obtain rfl := sIn h;exact cA ⟨rfl, _, [m7, mN o 170 [.cp [.j e.Size, .j e.Seeds, .sl 3 (e.Persons.map aL), .sl 1 (e.Lots.map aG)], .cp (Z23 ly), .cp [.sl 1 (B.map aG)], .bp o 0 0], .arr (vw j a.length c) 3 1 (a.map aG)], [], _, .one (.tmp 8 (v := .b y5.2) rfl), .refl _, .same _, m7, rfl, a4, rfl⟩
    ·refine aY (aC (aC (aA (to (slc rfl cS) (to (sle rfl bM.of) (tm (.i 0) (aB (bT ?_))))))));refine cW (S := Int × ({x : S × MO // J x.1 x.2})) [0, 1, 2, 5, 9, 23, 24] (fun s9 => [(25, .i s9.1)]) (fun s9 => [.arr (vw j a.length c) 3 1 (a.map aG), s9.2.1.2, mN o 170 [.cp [.j e.Size, .j e.Seeds, .sl 3 (e.Persons.map aL), .sl 1 (e.Lots.map aG)], .cp (Z23 ly), .cp [.sl 1 (B.map aG)], .bp o 0 0]]) (fun k s9 => lB V (lQ V kr) F e (a.length : Int) B (B.length : Int) a e B k s9.1 s9.2.1.1) (fun _ => rfl) (0, ⟨(sy, m0), hj⟩) h (aT [2, 0, 1] rfl rfl (aM rfl (aR ⟨rfl, rfl, rfl, rfl, rfl, rfl, rfl, trivial⟩))) ?_;rintro b3 ⟨L, I⟩ h;simp only [lB] at h;refine aC (aA (to (scm rfl rfl rfl) (aB (aC ?_))));refine tih h (fun a5 h => ?_) (fun a5 h => ?_)
     ·refine aY (aC (bT (aC (aA ?_))));obtain ⟨g, a6, h⟩ := bns h;refine to (six rfl rfl bM.of (bU aG a6)) (to (slc rfl aS) (ta (.i g) (aB (aC (aA (tm (.i F) (ta (.i F) (aB (aC (aC (aA (tm (.i g) (to (scm rfl rfl rfl) ?_)))))))))))));refine aB ?_;obtain ⟨q, T, h⟩ := bns h;refine aTn [0, 1, 2, 5, 9, 11, 23, 24, 25] [(12, .i q)] [.arr (vw j a.length c) 3 1 (a.map aG), I.1.2, mN o 170 [.cp [.j e.Size, .j e.Seeds, .sl 3 (e.Persons.map aL), .sl 1 (e.Lots.map aG)], .cp (Z23 ly), .cp [.sl 1 (B.map aG)], .bp o 0 0]] ?_ ?_
      ·refine tih T (fun a7 T => ?_) (fun a7 T => ?_)
       ·refine aA (tm (.i F) (to (sar rfl rfl rfl) (ta (.i (w64 (F - 1))) (aB ?_))));obtain rfl := sIn T;exact aT [0, 1, 2] rfl rfl (aM rfl (aR ⟨rfl, rfl, rfl, rfl, rfl, rfl, rfl, rfl, rfl, trivial⟩))
       ·refine aY ?_;obtain rfl := sIn T;exact aT [0, 1, 2] rfl rfl (aM rfl (aR ⟨rfl, rfl, rfl, rfl, rfl, rfl, rfl, rfl, rfl, trivial⟩))
      ·refine aC (aC ?_);obtain ⟨b4, N, h⟩ := bns h;obtain ⟨b5, G, h⟩ := bns h;obtain ⟨a8, C, h⟩ := bns h;refine dJ mix 34 [0, 1, 2, 5, 9, 11, 12, 23, 24, 25] [(67, .b a8)] ?_ ?_
       ·refine bch N (fun u N => ?_) (fun u N => ?_)
        ·obtain rfl := sIn N;have n : true = true := rfl;have G := pJ n G;obtain rfl := sIn G;have l : true = true := rfl;have C := pJ l C;obtain rfl := sIn C;refine ⟨[(34, 0, .i q), (35, 1, .b (decide (q < 0))), (36, 2, .b (decide (q < 0))), (37, 3, .tup []), (38, 4, .tup []), (39, 5, .tup []), (40, 6, .tup []), (41, 7, .tup []), (42, 8, .tup []), (43, 9, .tup []), (44, 10, .b true), (45, 11, .b (true)), (46, 12, .tup []), (47, 13, .tup []), (48, 14, .tup []), (49, 15, .tup []), (50, 16, .tup []), (51, 17, .b true), (52, 18, .b (true)), (53, 19, .tup []), (54, 20, .tup []), (55, 21, .tup []), (56, 22, .tup []), (57, 23, .tup []), (58, 24, .tup []), (59, 25, .tup []), (60, 26, .tup []), (61, 27, .tup []), (62, 28, .tup []), (63, 29, .tup []), (64, 30, .tup []), (65, 31, .tup []), (66, 32, .tup []), (67, 33, .b true)], ?_, ?_⟩
         · exact dk [0, 1, 2, 3, 304, 305, 6, 6, 60708, 30609, 310, 11, 12, 12, 12, 12131415, 1216, 1217, 18, 19, 1920, 1921, 1922, 23, 23, 23, 2326, 232527, 2328, 23, 23242930, 2331, 192332, 1933] ⟨go (zm (.i q)),
 go (zcm rfl rfl rfl),
 go (zm (.b (decide (q < 0)))),
 gp u,
 gp u,
 gp u,
 gq,
 gq,
 gq,
 gp u,
 go (zpt Z17 u),
 go (zm Z60),
 gp n,
 gp n,
 gp n,
 gp n,
 gp n,
 go (zpt Z17 n),
 go (zm Z60),
 gp l,
 gp l,
 gp l,
 gp l,
 gq,
 gq,
 gq,
 gq,
 gq,
 gq,
 gq,
 gq,
 gq,
 gp l,
 go (zpt Z17 l), trivial⟩
         · exact bZ (aM rfl (aR ⟨rfl, rfl, rfl, rfl, rfl, rfl, rfl, rfl, rfl, rfl, trivial⟩))
        ·obtain ⟨b6, P, N⟩ := bns N;refine bch P (fun z P => ?_) (fun z P => ?_)
         ·obtain ⟨A, W, P⟩ := bns P;obtain rfl := sIn P;obtain rfl := sIn N;refine bch G (fun n G => ?_) (fun n G => ?_)
          ·obtain rfl := sIn G;have l : true = true := rfl;have C := pJ l C;obtain rfl := sIn C;refine ⟨[(34, 0, .i q), (35, 1, .b (decide (q < 0))), (36, 2, .b (decide (q < 0))), (37, 3, .i g), (38, 4, .b (!decide (g = (-1)))), (39, 5, .b (!decide (g = (-1)))), (40, 6, .d (.lit (vw j a.length c))), (41, 7, .i g), (42, 8, .b A), (43, 9, .b A), (44, 10, .b (A)), (45, 11, .b (A)), (46, 12, .tup []), (47, 13, .tup []), (48, 14, .tup []), (49, 15, .tup []), (50, 16, .tup []), (51, 17, .b true), (52, 18, .b (true)), (53, 19, .tup []), (54, 20, .tup []), (55, 21, .tup []), (56, 22, .tup []), (57, 23, .tup []), (58, 24, .tup []), (59, 25, .tup []), (60, 26, .tup []), (61, 27, .tup []), (62, 28, .tup []), (63, 29, .tup []), (64, 30, .tup []), (65, 31, .tup []), (66, 32, .tup []), (67, 33, .b true)], ?_, ?_⟩
           · exact dk [0, 1, 2, 3, 304, 305, 6, 6, 60708, 30609, 310, 11, 12, 12, 12, 12131415, 1216, 1217, 18, 19, 1920, 1921, 1922, 23, 23, 23, 2326, 232527, 2328, 23, 23242930, 2331, 192332, 1933] ⟨go (zm (.i q)),
 go (zcm rfl rfl rfl),
 go (zm (.b (decide (q < 0)))),
 gt u (zm (.i g)),
 gt u (zcm rfl rfl rfl),
 gt u (zm (.b (!decide (g = (-1))))),
 gt z (zm (.d (.lit (vw j a.length c)))),
 gt z (zm (.i g)),
 gt z fun S hS => dC (aF rfl) (.func _ _ call91) (ev2 (aV hS rfl) (ev2 (aV hS rfl) evn)) rfl (.cons (.d (cJ 0 rfl (bR (f := aG) fun _ => rfl))) (.cons (.same _) .nil)) (cV _ _ W) rfl,
 gt u (zpt (.b A) z),
 go (zpf (.b (A)) u),
 go (zm (.b (A))),
 gp n,
 gp n,
 gp n,
 gp n,
 gp n,
 go (zpt Z17 n),
 go (zm Z60),
 gp l,
 gp l,
 gp l,
 gp l,
 gq,
 gq,
 gq,
 gq,
 gq,
 gq,
 gq,
 gq,
 gq,
 gp l,
 go (zpt Z17 l), trivial⟩
           · exact bZ (aM rfl (aR ⟨rfl, rfl, rfl, rfl, rfl, rfl, rfl, rfl, rfl, rfl, trivial⟩))
          ·obtain ⟨y, Q, G⟩ := bns G;obtain rfl := sIn G;refine bch C (fun l C => ?_) (fun l C => ?_)
           ·obtain rfl := sIn C;refine ⟨[(34, 0, .i q), (35, 1, .b (decide (q < 0))), (36, 2, .b (decide (q < 0))), (37, 3, .i g), (38, 4, .b (!decide (g = (-1)))), (39, 5, .b (!decide (g = (-1)))), (40, 6, .d (.lit (vw j a.length c))), (41, 7, .i g), (42, 8, .b A), (43, 9, .b A), (44, 10, .b (A)), (45, 11, .b (A)), (46, 12, .agg (aK e)), (47, 13, .i (a.length : Int)), (48, 14, .i g), (49, 15, .b y), (50, 16, .b (!y)), (51, 17, .b (!y)), (52, 18, .b (!y)), (53, 19, .tup []), (54, 20, .tup []), (55, 21, .tup []), (56, 22, .tup []), (57, 23, .tup []), (58, 24, .tup []), (59, 25, .tup []), (60, 26, .tup []), (61, 27, .tup []), (62, 28, .tup []), (63, 29, .tup []), (64, 30, .tup []), (65, 31, .tup []), (66, 32, .tup []), (67, 33, .b true)], ?_, ?_⟩
            · exact dk [0, 1, 2, 3, 304, 305, 6, 6, 60708, 30609, 310, 11, 12, 12, 12, 12131415, 1216, 1217, 18, 19, 1920, 1921, 1922, 23, 23, 23, 2326, 232527, 2328, 23, 23242930, 2331, 192332, 1933] ⟨go (zm (.i q)),
 go (zcm rfl rfl rfl),
 go (zm (.b (decide (q < 0)))),
 gt u (zm (.i g)),
 gt u (zcm rfl rfl rfl),
 gt u (zm (.b (!decide (g = (-1))))),
 gt z (zm (.d (.lit (vw j a.length c)))),
 gt z (zm (.i g)),
 gt z fun S hS => dC (aF rfl) (.func _ _ call91) (ev2 (aV hS rfl) (ev2 (aV hS rfl) evn)) rfl (.cons (.d (cJ 0 rfl (bR (f := aG) fun _ => rfl))) (.cons (.same _) .nil)) (cV _ _ W) rfl,
 gt u (zpt (.b A) z),
 go (zpf (.b (A)) u),
 go (zm (.b (A))),
 gt n (aCp (aK e) rfl dO),
 gt n (zm (.i (a.length : Int))),
 gt n (zm (.i g)),
 gt n fun S hS => dC (aF rfl) (.func _ _ call171) (ev2 (aV hS rfl) (ev2 (aV hS rfl) (ev2 (aV hS rfl) evn))) rfl (BVs.refl _ _) (oC _ _ _ Q) rfl,
 gt n (zn rfl),
 go (zpf (.b (!y)) n),
 go (zm (.b (!y))),
 gp l,
 gp l,
 gp l,
 gp l,
 gq,
 gq,
 gq,
 gq,
 gq,
 gq,
 gq,
 gq,
 gq,
 gp l,
 go (zpt Z17 l), trivial⟩
            · exact bZ (aM rfl (aR ⟨rfl, rfl, rfl, rfl, rfl, rfl, rfl, rfl, rfl, rfl, trivial⟩))
           ·obtain ⟨a9, E, C⟩ := bns C;refine bch E (fun t E => ?_) (fun t E => ?_)
            ·obtain ⟨Y, U, E⟩ := bns E;obtain ⟨H, Z, E⟩ := bns E;obtain rfl := sIn E;obtain rfl := sIn C;refine ⟨[(34, 0, .i q), (35, 1, .b (decide (q < 0))), (36, 2, .b (decide (q < 0))), (37, 3, .i g), (38, 4, .b (!decide (g = (-1)))), (39, 5, .b (!decide (g = (-1)))), (40, 6, .d (.lit (vw j a.length c))), (41, 7, .i g), (42, 8, .b A), (43, 9, .b A), (44, 10, .b (A)), (45, 11, .b (A)), (46, 12, .agg (aK e)), (47, 13, .i (a.length : Int)), (48, 14, .i g), (49, 15, .b y), (50, 16, .b (!y)), (51, 17, .b (!y)), (52, 18, .b (!y)), (53, 19, .i (a.length : Int)), (54, 20, .i ((a.length : Int).tmod 2)), (55, 21, .b (decide (((a.length : Int).tmod 2) = 1))), (56, 22, .b (decide (((a.length : Int).tmod 2) = 1))), (57, 23, .agg (aK e)), (58, 24, .d (.lit (vw j a.length c))), (59, 25, .i (a.length : Int)), (60, 26, .i (w64 ((a.length : Int) - 1))), (61, 27, .ep (vw j a.length c) 1 (w64 ((a.length : Int) - 1)).toNat 0), (62, 28, .i Y), (63, 29, .i g), (64, 30, .b H), (65, 31, .b (!H)), (66, 32, .b (!H)), (67, 33, .b (!H))], ?_, ?_⟩
             · exact dk [0, 1, 2, 3, 304, 305, 6, 6, 60708, 30609, 310, 11, 12, 12, 12, 12131415, 1216, 1217, 18, 19, 1920, 1921, 1922, 23, 23, 23, 2326, 232527, 2328, 23, 23242930, 2331, 192332, 1933] ⟨go (zm (.i q)),
 go (zcm rfl rfl rfl),
 go (zm (.b (decide (q < 0)))),
 gt u (zm (.i g)),
 gt u (zcm rfl rfl rfl),
 gt u (zm (.b (!decide (g = (-1))))),
 gt z (zm (.d (.lit (vw j a.length c)))),
 gt z (zm (.i g)),
 gt z fun S hS => dC (aF rfl) (.func _ _ call91) (ev2 (aV hS rfl) (ev2 (aV hS rfl) evn)) rfl (.cons (.d (cJ 0 rfl (bR (f := aG) fun _ => rfl))) (.cons (.same _) .nil)) (cV _ _ W) rfl,
 gt u (zpt (.b A) z),
 go (zpf (.b (A)) u),
 go (zm (.b (A))),
 gt n (aCp (aK e) rfl dO),
 gt n (zm (.i (a.length : Int))),
 gt n (zm (.i g)),
 gt n fun S hS => dC (aF rfl) (.func _ _ call171) (ev2 (aV hS rfl) (ev2 (aV hS rfl) (ev2 (aV hS rfl) evn))) rfl (BVs.refl _ _) (oC _ _ _ Q) rfl,
 gt n (zn rfl),
 go (zpf (.b (!y)) n),
 go (zm (.b (!y))),
 gt l (zm (.i (a.length : Int))),
 gt l fun S hS => nU (aF rfl) (aV hS rfl) rfl (by decide),
 gt l (zcm rfl rfl rfl),
 gt l (zm (.b (decide (((a.length : Int).tmod 2) = 1)))),
 gt t (aCp (aK e) rfl dO),
 gt t (zm (.d (.lit (vw j a.length c)))),
 gt t (zm (.i (a.length : Int))),
 gt t (zar rfl rfl rfl),
 gt t (zia 0 rfl rfl rfl bM.of (bU aG U)),
 gt t fun S hS => oI (aF rfl) (aV hS rfl) (m := 0) rfl (qQ aG U) rfl aS,
 gt t (zm (.i g)),
 gt t fun S hS => dC (aF rfl) (.func _ _ call172) (ev2 (aV hS rfl) (ev2 (aV hS rfl) (ev2 (aV hS rfl) evn))) rfl (BVs.refl _ _) (aAt _ _ _ Z) rfl,
 gt t (zn rfl),
 gt l (zpt (.b (!H)) t),
 go (zpf (.b (!H)) l), trivial⟩
             · exact bZ (aM rfl (aR ⟨rfl, rfl, rfl, rfl, rfl, rfl, rfl, rfl, rfl, rfl, trivial⟩))
            ·obtain rfl := sIn E;obtain rfl := sIn C;refine ⟨[(34, 0, .i q), (35, 1, .b (decide (q < 0))), (36, 2, .b (decide (q < 0))), (37, 3, .i g), (38, 4, .b (!decide (g = (-1)))), (39, 5, .b (!decide (g = (-1)))), (40, 6, .d (.lit (vw j a.length c))), (41, 7, .i g), (42, 8, .b A), (43, 9, .b A), (44, 10, .b (A)), (45, 11, .b (A)), (46, 12, .agg (aK e)), (47, 13, .i (a.length : Int)), (48, 14, .i g), (49, 15, .b y), (50, 16, .b (!y)), (51, 17, .b (!y)), (52, 18, .b (!y)), (53, 19, .i (a.length : Int)), (54, 20, .i ((a.length : Int).tmod 2)), (55, 21, .b (decide (((a.length : Int).tmod 2) = 1))), (56, 22, .b (decide (((a.length : Int).tmod 2) = 1))), (57, 23, .tup []), (58, 24, .tup []), (59, 25, .tup []), (60, 26, .tup []), (61, 27, .tup []), (62, 28, .tup []), (63, 29, .tup []), (64, 30, .tup []), (65, 31, .tup []), (66, 32, .b false), (67, 33, .b (false))], ?_, ?_⟩
             · exact dk [0, 1, 2, 3, 304, 305, 6, 6, 60708, 30609, 310, 11, 12, 12, 12, 12131415, 1216, 1217, 18, 19, 1920, 1921, 1922, 23, 23, 23, 2326, 232527, 2328, 23, 23242930, 2331, 192332, 1933] ⟨go (zm (.i q)),
 go (zcm rfl rfl rfl),
 go (zm (.b (decide (q < 0)))),
 gt u (zm (.i g)),
 gt u (zcm rfl rfl rfl),
 gt u (zm (.b (!decide (g = (-1))))),
 gt z (zm (.d (.lit (vw j a.length c)))),
 gt z (zm (.i g)),
 gt z fun S hS => dC (aF rfl) (.func _ _ call91) (ev2 (aV hS rfl) (ev2 (aV hS rfl) evn)) rfl (.cons (.d (cJ 0 rfl (bR (f := aG) fun _ => rfl))) (.cons (.same _) .nil)) (cV _ _ W) rfl,
 gt u (zpt (.b A) z),
 go (zpf (.b (A)) u),
 go (zm (.b (A))),
 gt n (aCp (aK e) rfl dO),
 gt n (zm (.i (a.length : Int))),
 gt n (zm (.i g)),
 gt n fun S hS => dC (aF rfl) (.func _ _ call171) (ev2 (aV hS rfl) (ev2 (aV hS rfl) (ev2 (aV hS rfl) evn))) rfl (BVs.refl _ _) (oC _ _ _ Q) rfl,
 gt n (zn rfl),
 go (zpf (.b (!y)) n),
 go (zm (.b (!y))),
 gt l (zm (.i (a.length : Int))),
 gt l fun S hS => nU (aF rfl) (aV hS rfl) rfl (by decide),
 gt l (zcm rfl rfl rfl),
 gt l (zm (.b (decide (((a.length : Int).tmod 2) = 1)))),
 gp t,
 gp t,
 gp t,
 gp t,
 gp t,
 gp t,
 gp t,
 gp t,
 gp t,
 gt l (zpf Z6 t),
 go (zpf Z54 l), trivial⟩
             · exact bZ (aM rfl (aR ⟨rfl, rfl, rfl, rfl, rfl, rfl, rfl, rfl, rfl, rfl, trivial⟩))
         ·obtain rfl := sIn P;obtain rfl := sIn N;have n : false = false := rfl;have G := vZ n G;obtain ⟨y, Q, G⟩ := bns G;obtain rfl := sIn G;refine bch C (fun l C => ?_) (fun l C => ?_)
          ·obtain rfl := sIn C;refine ⟨[(34, 0, .i q), (35, 1, .b (decide (q < 0))), (36, 2, .b (decide (q < 0))), (37, 3, .i g), (38, 4, .b (!decide (g = (-1)))), (39, 5, .b (!decide (g = (-1)))), (40, 6, .tup []), (41, 7, .tup []), (42, 8, .tup []), (43, 9, .b false), (44, 10, .b (false)), (45, 11, .b (false)), (46, 12, .agg (aK e)), (47, 13, .i (a.length : Int)), (48, 14, .i g), (49, 15, .b y), (50, 16, .b (!y)), (51, 17, .b (!y)), (52, 18, .b (!y)), (53, 19, .tup []), (54, 20, .tup []), (55, 21, .tup []), (56, 22, .tup []), (57, 23, .tup []), (58, 24, .tup []), (59, 25, .tup []), (60, 26, .tup []), (61, 27, .tup []), (62, 28, .tup []), (63, 29, .tup []), (64, 30, .tup []), (65, 31, .tup []), (66, 32, .tup []), (67, 33, .b true)], ?_, ?_⟩
           · exact dk [0, 1, 2, 3, 304, 305, 6, 6, 60708, 30609, 310, 11, 12, 12, 12, 12131415, 1216, 1217, 18, 19, 1920, 1921, 1922, 23, 23, 23, 2326, 232527, 2328, 23, 23242930, 2331, 192332, 1933] ⟨go (zm (.i q)),
 go (zcm rfl rfl rfl),
 go (zm (.b (decide (q < 0)))),
 gt u (zm (.i g)),
 gt u (zcm rfl rfl rfl),
 gt u (zm (.b (!decide (g = (-1))))),
 gp z,
 gp z,
 gp z,
 gt u (zpf Z6 z),
 go (zpf Z54 u),
 go (zm Z54),
 gt n (aCp (aK e) rfl dO),
 gt n (zm (.i (a.length : Int))),
 gt n (zm (.i g)),
 gt n fun S hS => dC (aF rfl) (.func _ _ call171) (ev2 (aV hS rfl) (ev2 (aV hS rfl) (ev2 (aV hS rfl) evn))) rfl (BVs.refl _ _) (oC _ _ _ Q) rfl,
 gt n (zn rfl),
 go (zpf (.b (!y)) n),
 go (zm (.b (!y))),
 gp l,
 gp l,
 gp l,
 gp l,
 gq,
 gq,
 gq,
 gq,
 gq,
 gq,
 gq,
 gq,
 gq,
 gp l,
 go (zpt Z17 l), trivial⟩
           · exact bZ (aM rfl (aR ⟨rfl, rfl, rfl, rfl, rfl, rfl, rfl, rfl, rfl, rfl, trivial⟩))
          ·obtain ⟨a9, E, C⟩ := bns C;refine bch E (fun t E => ?_) (fun t E => ?_)
           ·obtain ⟨Y, U, E⟩ := bns E;obtain ⟨H, Z, E⟩ := bns E;obtain rfl := sIn E;obtain rfl := sIn C;refine ⟨[(34, 0, .i q), (35, 1, .b (decide (q < 0))), (36, 2, .b (decide (q < 0))), (37, 3, .i g), (38, 4, .b (!decide (g = (-1)))), (39, 5, .b (!decide (g = (-1)))), (40, 6, .tup []), (41, 7, .tup []), (42, 8, .tup []), (43, 9, .b false), (44, 10, .b (false)), (45, 11, .b (false)), (46, 12, .agg (aK e)), (47, 13, .i (a.length : Int)), (48, 14, .i g), (49, 15, .b y), (50, 16, .b (!y)), (51, 17, .b (!y)), (52, 18, .b (!y)), (53, 19, .i (a.length : Int)), (54, 20, .i ((a.length : Int).tmod 2)), (55, 21, .b (decide (((a.length : Int).tmod 2) = 1))), (56, 22, .b (decide (((a.length : Int).tmod 2) = 1))), (57, 23, .agg (aK e)), (58, 24, .d (.lit (vw j a.length c))), (59, 25, .i (a.length : Int)), (60, 26, .i (w64 ((a.length : Int) - 1))), (61, 27, .ep (vw j a.length c) 1 (w64 ((a.length : Int) - 1)).toNat 0), (62, 28, .i Y), (63, 29, .i g), (64, 30, .b H), (65, 31, .b (!H)), (66, 32, .b (!H)), (67, 33, .b (!H))], ?_, ?_⟩
            · exact dk [0, 1, 2, 3, 304, 305, 6, 6, 60708, 30609, 310, 11, 12, 12, 12, 12131415, 1216, 1217, 18, 19, 1920, 1921, 1922, 23, 23, 23, 2326, 232527, 2328, 23, 23242930, 2331, 192332, 1933] ⟨go (zm (.i q)),
 go (zcm rfl rfl rfl),
 go (zm (.b (decide (q < 0)))),
 gt u (zm (.i g)),
 gt u (zcm rfl rfl rfl),
 gt u (zm (.b (!decide (g = (-1))))),
 gp z,
 gp z,
 gp z,
 gt u (zpf Z6 z),
 go (zpf Z54 u),
 go (zm Z54),
 gt n (aCp (aK e) rfl dO),
 gt n (zm (.i (a.length : Int))),
 gt n (zm (.i g)),
 gt n fun S hS => dC (aF rfl) (.func _ _ call171) (ev2 (aV hS rfl) (ev2 (aV hS rfl) (ev2 (aV hS rfl) evn))) rfl (BVs.refl _ _) (oC _ _ _ Q) rfl,
 gt n (zn rfl),
 go (zpf (.b (!y)) n),
 go (zm (.b (!y))),
 gt l (zm (.i (a.length : Int))),
 gt l fun S hS => nU (aF rfl) (aV hS rfl) rfl (by decide),
 gt l (zcm rfl rfl rfl),
 gt l (zm (.b (decide (((a.length : Int).tmod 2) = 1)))),
 gt t (aCp (aK e) rfl dO),
 gt t (zm (.d (.lit (vw j a.length c)))),
 gt t (zm (.i (a.length : Int))),
 gt t (zar rfl rfl rfl),
 gt t (zia 0 rfl rfl rfl bM.of (bU aG U)),
 gt t fun S hS => oI (aF rfl) (aV hS rfl) (m := 0) rfl (qQ aG U) rfl aS,
 gt t (zm (.i g)),
 gt t fun S hS => dC (aF rfl) (.func _ _ call172) (ev2 (aV hS rfl) (ev2 (aV hS rfl) (ev2 (aV hS rfl) evn))) rfl (BVs.refl _ _) (aAt _ _ _ Z) rfl,
 gt t (zn rfl),
 gt l (zpt (.b (!H)) t),
 go (zpf (.b (!H)) l), trivial⟩
            · exact bZ (aM rfl (aR ⟨rfl, rfl, rfl, rfl, rfl, rfl, rfl, rfl, rfl, rfl, trivial⟩))
           ·obtain rfl := sIn E;obtain rfl := sIn C;refine ⟨[(34, 0, .i q), (35, 1, .b (decide (q < 0))), (36, 2, .b (decide (q < 0))), (37, 3, .i g), (38, 4, .b (!decide (g = (-1)))), (39, 5, .b (!decide (g = (-1)))), (40, 6, .tup []), (41, 7, .tup []), (42, 8, .tup []), (43, 9, .b false), (44, 10, .b (false)), (45, 11, .b (false)), (46, 12, .agg (aK e)), (47, 13, .i (a.length : Int)), (48, 14, .i g), (49, 15, .b y), (50, 16, .b (!y)), (51, 17, .b (!y)), (52, 18, .b (!y)), (53, 19, .i (a.length : Int)), (54, 20, .i ((a.length : Int).tmod 2)), (55, 21, .b (decide (((a.length : Int).tmod 2) = 1))), (56, 22, .b (decide (((a.length : Int).tmod 2) = 1))), (57, 23, .tup []), (58, 24, .tup []), (59, 25, .tup []), (60, 26, .tup []), (61, 27, .tup []), (62, 28, .tup []), (63, 29, .tup []), (64, 30, .tup []), (65, 31, .tup []), (66, 32, .b false), (67, 33, .b (false))], ?_, ?_⟩
            · exact dk [0, 1, 2, 3, 304, 305, 6, 6, 60708, 30609, 310, 11, 12, 12, 12, 12131415, 1216, 1217, 18, 19, 1920, 1921, 1922, 23, 23, 23, 2326, 232527, 2328, 23, 23242930, 2331, 192332, 1933] ⟨go (zm (.i q)),
 go (zcm rfl rfl rfl),
 go (zm (.b (decide (q < 0)))),
 gt u (zm (.i g)),
 gt u (zcm rfl rfl rfl),
 gt u (zm (.b (!decide (g = (-1))))),
 gp z,
 gp z,
 gp z,
 gt u (zpf Z6 z),
 go (zpf Z54 u),
 go (zm Z54),
 gt n (aCp (aK e) rfl dO),
 gt n (zm (.i (a.length : Int))),
 gt n (zm (.i g)),
 gt n fun S hS => dC (aF rfl) (.func _ _ call171) (ev2 (aV hS rfl) (ev2 (aV hS rfl) (ev2 (aV hS rfl) evn))) rfl (BVs.refl _ _) (oC _ _ _ Q) rfl,
 gt n (zn rfl),
 go (zpf (.b (!y)) n),
 go (zm (.b (!y))),
 gt l (zm (.i (a.length : Int))),
 gt l fun S hS => nU (aF rfl) (aV hS rfl) rfl (by decide),
 gt l (zcm rfl rfl rfl),
 gt l (zm (.b (decide (((a.length : Int).tmod 2) = 1)))),
 gp t,
 gp t,
 gp t,
 gp t,
 gp t,
 gp t,
 gp t,
 gp t,
 gp t,
 gt l (zpf Z6 t),
 go (zpf Z54 l), trivial⟩
            · exact bZ (aM rfl (aR ⟨rfl, rfl, rfl, rfl, rfl, rfl, rfl, rfl, rfl, rfl, trivial⟩))
       ·refine aB ?_;refine tih h (fun b0 h => ?_) (fun b0 h => ?_)
        ·refine cK ?_;refine .inl ⟨rfl, ?_⟩;refine aA (to (sar rfl rfl rfl) (tm (.i (w64 (L + 1))) (aB ?_)));exact ⟨(w64 (L + 1), ⟨(I.1.1, I.1.2), I.2⟩), h, aT [0, 1, 2] rfl rfl (aM rfl (aR ⟨rfl, rfl, rfl, rfl, rfl, rfl, rfl, trivial⟩))⟩
        ·refine aY (aC ?_);obtain ⟨M, a0, h⟩ := bns h;refine fZ mix 6 [0, 1, 2, 5, 9, 23, 24, 25] (fun O => [(68, .fn 170 [.cp [.j e.Size, .j e.Seeds, .sl 3 (e.Persons.map aL), .sl 1 (e.Lots.map aG)], .cp (Z23 ly), .cp [.sl 1 (B.map aG)], .bp o 0 0]), (72, .d (.lit (vw j M.length c))), (73, .i q)]) (fun O => [.arr (vw j M.length c) 3 1 (M.map aG), I.1.2, mN o 170 [.cp [.j e.Size, .j e.Seeds, .sl 3 (e.Persons.map aL), .sl 1 (e.Lots.map aG)], .cp (Z23 ly), .cp [.sl 1 (B.map aG)], .bp o 0 0]]) ?_ ?_
         ·refine ⟨0, fun O => [(68, 0, .fn 170 [.cp [.j e.Size, .j e.Seeds, .sl 3 (e.Persons.map aL), .sl 1 (e.Lots.map aG)], .cp (Z23 ly), .cp [.sl 1 (B.map aG)], .bp o 0 0]), (69, 1, .d (.lit (vw j a.length c))), (70, 2, .i g), (71, 3, .d (.sl 1 (([g]).map aG))), (72, 4, .d (.lit (vw j M.length c))), (73, 5, .i q)], fun O => [([(4, .arr (vw j M.length c) 3 1 (M.map aG))], .arr (vw j a.length c) 3 1 (a.map aG)), ([], I.1.2), ([], mN o 170 [.cp [.j e.Size, .j e.Seeds, .sl 3 (e.Persons.map aL), .sl 1 (e.Lots.map aG)], .cp (Z23 ly), .cp [.sl 1 (B.map aG)], .bp o 0 0])], ?_, ?_⟩
          · exact xok [(0, 0), (0, 5), (0, 5), (3, 5), (204, 0), (0, 0)] ⟨fun _ _ w _ k => xp w (aDo (i := 2) (aF rfl) (aV k rfl) (og k rfl rfl) aMn),
 fun _ _ w _ k => xp w (ym k (.d (.lit (vw j a.length c)))),
 fun _ _ w _ k => xp w (ym k (.i g)),
 fun _ _ w _ k => xp w (fH (aF rfl) bM rfl (pa2 (aV k rfl) pan) (rows := ([g]).map aG) rfl (bR (f := aG) fun _ => rfl) rfl (by decide)),
 fun O S hw hi hS => aQd (X := O) (p := 0) hS rfl rfl rfl (hw O) rfl rfl rfl (gV (aPn (i := 0) (f := aG) (aF rfl) bM (aV hS rfl) (og hS rfl rfl) (aV hS rfl) (fun _ => rfl) hsz a0 (List.cons_ne_nil _ _)) (by rintro _ rfl; exact Ent.refl _)),
 fun _ _ w _ k => xp w (ym k (.i q)), trivial⟩
          · exact fun O => bZ (aM rfl (aM rfl (aM rfl (aR ⟨rfl, rfl, rfl, rfl, rfl, rfl, rfl, rfl, trivial⟩))))
         ·intro O;obtain ⟨b1, b2, h⟩ := bns h;refine eT (aT [1, 2, 0] rfl rfl (le_refl _)) ?_;refine bB rfl (iM (passed := [I.1.2, mN o 170 [.cp [.j e.Size, .j e.Seeds, .sl 3 (e.Persons.map aL), .sl 1 (e.Lots.map aG)], .cp (Z23 ly), .cp [.sl 1 (B.map aG)], .bp o 0 0], .arr (vw j M.length c) 3 1 (M.map aG)]) (aF rfl) rfl (.clo _ _ _ _ call170 rfl) (zL rfl) rfl (ih M q e B I.1.1 _ I.2 (aQb hsz a0) hsz b2)) ?_;rintro _ ⟨_, _, ⟨a1, rfl, a2, rfl⟩, rfl⟩;refine eT (aLs 2 a0 rfl) ?_;refine to (sn rfl) (aB ?_);refine tih h (fun a3 h => ?_) (fun a3 h => ?_)
          ·refine aC (aA (ta Z6 (aB ?_)));obtain rfl := sIn h;exact cA ⟨rfl, _, [a1, mN o 170 [.cp [.j e.Size, .j e.Seeds, .sl 3 (e.Persons.map aL), .sl 1 (e.Lots.map aG)], .cp (Z23 ly), .cp [.sl 1 (B.map aG)], .bp o 0 0], .arr (vw j a.length c) 3 1 (a.map aG)], [], _, .one (.tmp 8 (v := .b false) rfl), .refl _, .same _, a1, rfl, (aUn a2 a3), rfl⟩
          ·refine dB ?_;refine aA (to (sar rfl rfl rfl) (tm (.i (w64 (L + 1))) (aB ?_)));exact ⟨(w64 (L + 1), ⟨(b1.1, a1), (aUv a2 (bnf a3))⟩), h, aT [2, 0, 1] rfl rfl (aM rfl (aR ⟨rfl, rfl, rfl, rfl, rfl, rfl, rfl, trivial⟩))⟩
     ·refine cK ?_;refine .inl ⟨rfl, ?_⟩;simp only [uP] at h;refine aC (aA (ta Z17 (aB ?_)));obtain rfl := sIn h;refine bK (aT [1, 2, 0] rfl rfl (le_refl _)) ?_;exact cA ⟨rfl, _, [I.1.2, mN o 170 [.cp [.j e.Size, .j e.Seeds, .sl 3 (e.Persons.map aL), .sl 1 (e.Lots.map aG)], .cp (Z23 ly), .cp [.sl 1 (B.map aG)], .bp o 0 0], .arr (vw j a.length c) 3 1 (a.map aG)], [], _, .one (.tmp 8 (v := .b true) rfl), .refl _, .same _, I.1.2, rfl, I.2, rfl⟩
theorem aDd {S : Type} (J K : S → MO → Prop) (ly : Nat) (l : S → (List Int) → Option (S × Bool)) (hy : ∀ (s : S) (m : MO) (x0 : List Int) (s' : S × Bool), J s m → l s x0 = some s' → uA Tryz.prog ly [.d (.sl 1 (x0.map aG))] m (fun b m' => b = s'.2 ∧ JK J K s' m')) (f : List Int) (g : Int) (a : aU) (k : List Int) (sy : S) {r : S × Bool} {e j c : Nat} (m0 : MO) (hj : J sy m0) (hcap : f.length ≤ c) (hsz : (c : Int) = a.Size) (h : xG l f g a k sy = some r) : dN Tryz.prog 170 [.d (.lit (vw j f.length c)), .i g, .cp [.j a.Size, .j a.Seeds, .sl 3 (Z11 a), .sl 1 (Z38 a)], .cp (Z23 ly), .cp (Z39 k), .bp e 0 0] [m0, mN e 170 [.cp [.j a.Size, .j a.Seeds, .sl 3 (Z11 a), .sl 1 (Z38 a)], .cp (Z23 ly), .cp (Z39 k), .bp e 0 0], .arr (vw j f.length c) 3 1 (f.map aG)] (fun r' o' => ∃ m', r' = .b r.2 ∧ JK J K r m' ∧ o' = [m', mN e 170 [.cp [.j a.Size, .j a.Seeds, .sl 3 (Z11 a), .sl 1 (Z38 a)], .cp (Z23 ly), .cp (Z39 k), .bp e 0 0], .arr (vw j f.length c) 3 1 (f.map aG)]) := aBj J K ly l hy BIG f g a k sy m0 hj hcap hsz h

theorem xH {S : Type} (J K : S → MO → Prop) (ly : Nat) (e : S → (List Int) → Option (S × Bool)) (hy : ∀ (s : S) (m : MO) (x0 : List Int) (s' : S × Bool), J s m → e s x0 = some s' → uA Tryz.prog ly [.d (.sl 1 (x0.map aG))] m (fun b m' => b = s'.2 ∧ JK J K s' m')) (a : aU) (c : List Int) (sy : S) (m0 : MO) (hj : J sy m0) {r : S × Bool} (h : rQ e a c sy = some r) : dN Tryz.prog 169 [.d (.lit (yv ly)), .cp (aK a), .cp (Z39 c)] [m0] (fun _ o' => ∃ m', JK J K r m' ∧ o' = [m']) := by
 unfold rQ at h;refine rG func169 rfl (rs := []) results169 ntmps169 (Nat.le_of_ble_eq_true rfl) ?_;refine aC (aA ?_);refine bB rfl (cO (v := .d (.lit (yv ly))) (aF rfl) rfl rfl rfl) ?_;rintro _ ⟨b1, rfl⟩;refine aB (aC (aA ?_));refine bB rfl (cD (zs := [.lit .nilFunc]) (aF rfl) zeroValue180 rfl rfl) ?_;rintro _ ⟨b2, rfl⟩;refine aB (aC (aA (to (uW (aF rfl) rfl rfl) ?_)));refine eT (aT [0, 2, 1] rfl rfl (le_refl _)) ?_;apply aMu [m0, .box b2 0 [.lit .nilFunc]] [.box b1 0 (Z23 ly)] rfl;exact jW (k := 5) (v := .fn 170 [.cp [.j a.Size, .j a.Seeds, .sl 3 (Z11 a), .sl 1 (Z38 a)], .cp (Z23 ly), .cp (Z39 c), .bp b2 0 0]) (aCr (.cons (.same _) (.cons (iE 0 rfl rfl (dvc (.same _) dvn)) (.cons (.same _) (.cons (.same _) .nil))))) (jW (k := 3) (v := .cp (Z23 ly)) (iE 0 rfl rfl (dvc (.same _) dvn)) (uB _ _));refine to (aLf (i := 1) rfl rfl rfl rfl sizeOf180) ?_;refine aB ?_;obtain ⟨x4, h5, h⟩ := bns h;refine fZ mix 10 [] (fun X3 => [(6, .fn 170 [.cp [.j a.Size, .j a.Seeds, .sl 3 (Z11 a), .sl 1 (Z38 a)], .cp (Z23 ly), .cp (Z39 c), .bp b2 0 0]), (9, .d (.lit (vw (X3 3).b ([] : List Int).length x4))), (15, .i (Z10 a))]) (fun X3 => [m0, mN b2 170 [.cp [.j a.Size, .j a.Seeds, .sl 3 (Z11 a), .sl 1 (Z38 a)], .cp (Z23 ly), .cp (Z39 c), .bp b2 0 0], .arr (vw (X3 3).b ([] : List Int).length x4) 3 1 Z26]) ?_ ?_
 ·refine ⟨1, fun X3 => [(6, 0, .fn 170 [.cp [.j a.Size, .j a.Seeds, .sl 3 (Z11 a), .sl 1 (Z38 a)], .cp (Z23 ly), .cp (Z39 c), .bp b2 0 0]), (7, 1, .cp [.j a.Size]), (8, 2, .i a.Size), (9, 3, .d (.lit (vw (X3 3).b ([] : List Int).length x4))), (10, 4, .cp [.j a.Size]), (11, 5, .i a.Size), (12, 6, .cp [.sl 3 (Z11 a)]), (13, 7, .d (.sl 3 (Z11 a))), (14, 8, .i (a.Persons.length : Int)), (15, 9, .i (Z10 a))], fun X3 => [([], m0), ([], mN b2 170 [.cp [.j a.Size, .j a.Seeds, .sl 3 (Z11 a), .sl 1 (Z38 a)], .cp (Z23 ly), .cp (Z39 c), .bp b2 0 0]), ([(3, .arr (vw (X3 3).b ([] : List Int).length x4) 3 1 Z26)], nob)], ?_, ?_⟩
  · exact xok [(0, 0), (0, 4), (2, 4), (3, 0), (0, 0), (5, 0), (0, 0), (7, 0), (8, 0), (609, 0)] ⟨fun _ _ w _ k => xp w (aDo (i := 1) (aF rfl) (aV k rfl) (og k rfl rfl) aMn),
 fun _ _ w _ k => xp w (yfc k [.j a.Size] rfl dE),
 fun _ _ w _ k => xp w (ylc k rfl aS),
 fun X3 S hw hi hS => oG (X := X3) (p := 2) (v := fun x => .d (.lit (vw x.b ([] : List Int).length x4))) (mo := fun x => .arr (vw x.b ([] : List Int).length x4) 3 1 Z26) hS hi rfl rfl (fun _ => rfl) hw (fun _ => rfl) (fun _ => rfl) (fun _ => rfl) (fun _ => ⟨rfl, rfl, .inr rfl, ⟨rfl, rfl, .inr rfl, ⟨rfl, rfl, .inr rfl, ⟨rfl, rfl, .inl rfl, ⟨rfl, rfl, .inr rfl, ⟨rfl, rfl, .inr rfl, ⟨rfl, rfl, .inr rfl, ⟨rfl, rfl, .inr rfl, ⟨rfl, rfl, .inr rfl, ⟨rfl, rfl, .inr rfl, trivial⟩⟩⟩⟩⟩⟩⟩⟩⟩⟩) (fun _ => ⟨trivial, rfl, ⟨trivial, rfl, ⟨⟨rfl, .inl rfl, trivial⟩, rfl, trivial⟩⟩⟩) (gV (aTe aG (aF rfl) bM rfl (aV hS rfl) h5 (aF rfl)) (by rintro _ ⟨w, rfl⟩; exact ⟨⟨w, undef⟩, aT [0, 1, 3] rfl rfl (le_refl _)⟩)),
 fun _ _ w _ k => xp w (yfc k [.j a.Size] rfl dE),
 fun _ _ w _ k => xp w (ylc k rfl aS),
 fun _ _ w _ k => xp w (yfc k [.sl 3 (Z11 a)] rfl eB),
 fun _ _ w _ k => xp w (ylc k rfl gJ),
 fun _ _ w _ k => xp w (yle k rfl gN.of),
 fun _ _ w _ k => xp w (yar k rfl rfl rfl), trivial⟩
  · exact fun X3 => bZ (aM rfl (aM rfl (aM rfl (aR trivial))))
 ·intro X3;obtain ⟨y6, h7, h⟩ := bns h;refine bB rfl (iM (passed := [m0, mN b2 170 [.cp [.j a.Size, .j a.Seeds, .sl 3 (Z11 a), .sl 1 (Z38 a)], .cp (Z23 ly), .cp (Z39 c), .bp b2 0 0], .arr (vw (X3 3).b ([] : List Int).length x4) 3 1 Z26]) (aF rfl) rfl (.clo _ _ _ _ call170 rfl) (zL rfl) rfl (aDd J K ly e hy ([] : List Int) (Z10 a) a c sy _ hj (Nat.zero_le _) (aSw h5) h7)) ?_;rintro _ ⟨_, _, ⟨m8, rfl, f, rfl⟩, rfl⟩;refine aB ?_;obtain rfl := sIn h;exact ⟨_, [m8], [mN b2 170 [.cp [.j a.Size, .j a.Seeds, .sl 3 (Z11 a), .sl 1 (Z38 a)], .cp (Z23 ly), .cp (Z39 c), .bp b2 0 0], .arr (vw (X3 3).b ([] : List Int).length x4) 3 1 Z26], _, .none, .refl _, .same _, m8, f, rfl⟩

theorem aIo (a : aU) {r : Int × Int} (h : rK a = some r) : Fn Tryz.prog 51 [.agg (aK a)] (.tup [.i r.1, .i r.2]) := by
 unfold rK at h;refine oT [.tmp 2, .tmp 3] func51 results51 ntmps51 ?_;refine aC (aA ?_);refine bB rfl (cO (v := .agg (aK a)) (aF rfl) rfl rfl rfl) ?_;rintro _ ⟨b1, rfl⟩;refine ta (.i 0) (ta (.i 0) (aB (aC (aC (aA (to (sla 0 (aK a) rfl rfl dO) ?_))))));obtain ⟨r2, h3, h⟩ := bns h;refine to (scr call95 (aAr _ h3)) (ta (.i r2) (aB (aC (aA (tm (.i r2) (to (scm rfl rfl rfl) (aB ?_)))))));refine tih h (fun c4 h => ?_) (fun c4 h => ?_)
 ·refine aC (aA (tm (.i r2) (ta (.i 0) (ta (.i r2) (aB ?_)))));obtain rfl := sIn h;refine bK (bC (bE (l := [2, 3]) ⟨rfl, rfl, trivial⟩)) ?_;exact cA ⟨rfl, _, .two _ _, rfl, rfl⟩
 ·refine aY (aC (aA ?_));refine bB rfl (cD (zs := [.j 0]) (aF rfl) zeroValue3 rfl rfl) ?_;rintro _ ⟨b5, rfl⟩;refine to (sst 1 rfl rfl sizeOf3 [.j 0]) (aB (aC (aC (aA (to (sla 0 (aK a) rfl rfl dO) ?_)))));obtain ⟨x6, h7, h⟩ := bns h;refine to (eM (aF rfl) (.func _ _ call109) rfl rfl (aAs _ h7)) ?_;refine aB (bT ?_);obtain ⟨⟨s8, k⟩, h9, h⟩ := bns h;refine aIk (S := Int) (S0 := Int) (f := 169) (ps := [13]) (fun c => c) (fun c => [.box b1 0 (aK a), .box b5 0 [.j c]]) (aQe (fun j : List Int => .d (.sl 1 (j.map aG))) _) 0 0 (s8, k) (aT [0, 1] rfl rfl (le_refl _)) rfl call169 rfl (by decide) rfl rfl (fun l J K hy m0 h0 => xH (S := Int) J K l _ (fun _ _ _ _ hJ hq => hy _ _ _ _ hJ ⟨_, rfl, hq⟩) a x6 _ m0 h0 h9) ?_ ?_ ?_
  ·rintro b _ _ ⟨j, rfl, h⟩;refine ⟨rfl, ?_⟩;refine aY (bT (aA (to (sl 1 rfl rfl rfl aS) (to (sar rfl rfl rfl) (to (sst 1 rfl rfl sizeOf3 [.j (w64 (b + 1))]) ?_)))));refine jD ?_;obtain rfl := sIn h;exact ⟨rfl, (w64 (b + 1)), rfl, aT [0, 1] rfl rfl aFw⟩
  ·rintro b e g;subst g;have h := pJ e h;refine aRy ?_;refine aC (aA (to (sl 1 rfl rfl rfl aS) (ta (.i b) (ta (.i 0) (aB ?_)))));obtain rfl := sIn h;refine bK (bC (bE (l := [2, 3]) ⟨rfl, rfl, trivial⟩)) ?_;exact cA ⟨rfl, _, .two _ _, rfl, rfl⟩
  ·rintro b e g;subst g;have h := vZ e h;cases h

theorem aIr (b : aU) (c : List Int) {r : (List Int)} (h : yE b c = some r) : Fn Tryz.prog 110 (Z53 b c) (.d (.sl 1 (r.map aG))) := by
 unfold yE at h;refine oT [.tmp 4] func110 results110 ntmps110 ?_;refine aC (aA ?_);refine bB rfl (cO (v := .agg (aK b)) (aF rfl) rfl rfl rfl) ?_;rintro _ ⟨b1, rfl⟩;refine to (lX 1 (aF rfl)) ?_;refine aB (aC (aA (to (sR 3 1 (.inl rfl) (aF rfl)) ?_)));refine aB (aC (aC (aA (tm (Z35 c) (to (sle rfl bM.of) (tm (.i 0) (aB (bT ?_))))))));refine cW (S := Int × (List Int) × Value) [2, 8, 9] (fun s3 => [(5, .d (.lit s3.2.2)), (10, .i s3.1)]) (fun s3 => [.box b1 0 (aK b), .arr s3.2.2 3 1 (s3.2.1.map aG)]) (fun k s3 => oD c (c.length : Int) b k s3.1 s3.2.1) (fun _ => rfl) (0, ([] : List Int), (.slice none 0 0)) h (aT [0, 1] rfl rfl (aM rfl (aM rfl (aR ⟨rfl, rfl, rfl, trivial⟩)))) ?_;rintro k5 ⟨a, e, w4⟩ h;simp only [oD] at h;refine aC (aA (to (scm rfl rfl rfl) (aB (aC ?_))));refine tih h (fun c6 h => ?_) (fun c6 h => ?_)
 ·refine aY (aC (bT (aC (aA ?_))));obtain ⟨x7, h8, h⟩ := bns h;refine to (six rfl rfl bM.of (bU aG h8)) (to (slc rfl aS) (ta (.i x7) (aB (aC (aA (tm (.i x7) (to (scm rfl rfl rfl) (aB ?_))))))));refine tih h (fun c9 h => ?_) (fun c9 h => ?_)
  ·refine aA (tm (.d (.lit w4)) (to (fH (aF rfl) bM rfl rfl (rows := ([(-1)]).map aG) rfl (bR (f := aG) fun _ => rfl) rfl (by decide)) ?_));obtain ⟨m, n, h⟩ := bns h;refine bB rfl (iG (i := 1) (aF rfl) bM rfl rfl rfl (fun _ => rfl) n rfl) ?_;rintro _ ⟨g, rfl⟩;refine ta (.d (.lit g)) ?_;refine jD ?_;refine aA (to (sar rfl rfl rfl) (tm (.i (w64 (a + 1))) (aB ?_)));exact ⟨(w64 (a + 1), m, g), h, aT [0, 1] rfl rfl (aM rfl (aM rfl (aR ⟨rfl, rfl, rfl, trivial⟩)))⟩
  ·refine aA (tm (.d (.lit w4)) (tfl 0 rfl rfl eB rfl gJ (tm (.i x7) ?_)));obtain ⟨j, o, h⟩ := bns h;refine to (six rfl rfl gN.of (bU aL o)) (to (sfc [.j j.Player] rfl kO) (to (slc rfl aS) (to (fH (aF rfl) bM rfl rfl (rows := ([j.Player]).map aG) rfl (bR (f := aG) fun _ => rfl) rfl (by decide)) ?_)));obtain ⟨p, q, h⟩ := bns h;refine bB rfl (iG (i := 1) (aF rfl) bM rfl rfl rfl (fun _ => rfl) q rfl) ?_;rintro _ ⟨l, rfl⟩;refine ta (.d (.lit l)) ?_;refine jD ?_;refine aA (to (sar rfl rfl rfl) (tm (.i (w64 (a + 1))) (aB ?_)));exact ⟨(w64 (a + 1), p, l), h, aT [0, 1] rfl rfl (aM rfl (aM rfl (aR ⟨rfl, rfl, rfl, trivial⟩)))⟩
 ·refine cK ?_;refine .inl ⟨rfl, ?_⟩;simp only [yR] at h;refine aC (aA (tm (.d (.lit w4)) (ta (.d (.lit w4)) (aB ?_))));obtain rfl := sIn h;refine bK (bC (jW (k := 4) (v := .d (.sl 1 (e.map aG))) (.d (cJ 1 rfl (bR (f := aG) fun _ => rfl))) (aGr))) ?_;exact rt

theorem aJt (a : aU) (e : Int) {r : (List Int) × Bool} (h : tF a e = some r) : Fn Tryz.prog 52 [.agg (aK a), .i e] (.tup [.d (.sl 1 (r.1.map aG)), .b r.2]) := by
 unfold tF at h;refine iP func52 rfl (rs := [.cell 4 23, .cell 5 4]) results52 ntmps52 (Nat.le_of_ble_eq_true rfl) ?_;refine aC (aA ?_);refine bB rfl (cO (v := .agg (aK a)) (aF rfl) rfl rfl rfl) ?_;rintro _ ⟨b1, rfl⟩;refine bB rfl (cO (v := .i e) (aF rfl) rfl rfl rfl) ?_;rintro _ ⟨b2, rfl⟩;refine bB rfl (cD (zs := [.sl 1 Z13]) (aF rfl) zeroValue23 rfl rfl) ?_;rintro _ ⟨b3, rfl⟩;refine bB rfl (cD (zs := [.k false]) (aF rfl) zeroValue4 rfl rfl) ?_;rintro _ ⟨b4, rfl⟩;refine aB (aC (aC (aA (to (sla 0 (aK a) rfl rfl dO) ?_))));obtain ⟨x5, h6, h⟩ := bns h;refine to (eM (aF rfl) (.func _ _ call109) rfl rfl (aAs _ h6)) ?_;refine aB (bT ?_);obtain ⟨⟨s7, p⟩, h8, h⟩ := bns h;refine aIk (S := Int × (List Int) × Bool) (S0 := Int × (List Int) × Bool) (f := 169) (ps := [9]) (fun c => (c.1, c.2.1, c.2.2)) (fun c => [.box b1 0 (aK a), .box b2 0 [.j c.1], .box b3 0 [.sl 1 (c.2.1.map aG)], .box b4 0 [.k c.2.2]]) (aQe (fun g : List Int => .d (.sl 1 (g.map aG))) _) (e, ([] : List Int), false) (e, ([] : List Int), false) (s7, p) (aT [0, 1, 2, 3] rfl rfl (le_refl _)) rfl call169 rfl (by decide) rfl rfl (fun l J K hy m0 h0 => xH (S := Int × (List Int) × Bool) J K l _ (fun _ _ _ _ hJ hq => hy _ _ _ _ hJ ⟨_, rfl, hq⟩) a x5 _ m0 h0 h8) ?_ ?_ ?_
 ·rintro ⟨e9, j, k⟩ _ _ ⟨g, rfl, h⟩;refine ⟨rfl, ?_⟩;refine aA (ta (.d (.sl 1 (g.map aG))) (aB (bT (aC (aC (aA (to (sl 1 rfl rfl rfl aS) (to (scm rfl rfl rfl) (aB ?_)))))))));refine tih h (fun q h => ?_) (fun q h => ?_)
  ·refine aC (aA (to (sla 0 (aK a) rfl rfl dO) (tm (.d (.sl 1 (g.map aG))) ?_)));obtain ⟨o, s, h⟩ := bns h;refine to (eM (aF rfl) (.func _ _ call110) rfl rfl (aIr _ _ s)) ?_;refine to (sst 2 rfl rfl sizeOf23 [.sl 1 (o.map aG)]) (to (sst 3 rfl rfl sizeOf4 [.k true]) (aB ?_));obtain rfl := sIn h;exact cA ⟨rfl, rfl, (e9, o, true), rfl, aT [0, 1, 2, 3] rfl rfl aFw⟩
  ·refine aY (aA (to (sl 1 rfl rfl rfl aS) (to (sar rfl rfl rfl) (to (sst 1 rfl rfl sizeOf3 [.j (w64 (e9 - 1))]) ?_))));refine jD ?_;obtain rfl := sIn h;exact ⟨rfl, (w64 (e9 - 1), j, k), rfl, aT [0, 1, 2, 3] rfl rfl aFw⟩
 ·rintro ⟨e9, j, k⟩ m n;subst n;have h := pJ m h;refine aRy ?_;refine aC (aA (to (sst 2 rfl rfl sizeOf23 Z51) (to (sst 3 rfl rfl sizeOf4 [.k false]) (aB ?_))));obtain rfl := sIn h;exact cA ⟨rfl, _, [.box b1 0 (aK a), .box b2 0 [.j e9], .box b3 0 Z51, .box b4 0 [.k false]], .two (.cell1 4 23 rfl (i := 2) rfl cS rfl) (.cell1 5 4 rfl (i := 3) rfl oZ rfl), .refl _, aFj (.cons (.d (.nil 1)) (.cons (.same _) .nil))⟩
 ·rintro ⟨e9, j, k⟩ m n;subst n;have h := vZ m h;obtain rfl := sIn h;exact cA ⟨rfl, _, [.box b1 0 (aK a), .box b2 0 [.j e9], .box b3 0 [.sl 1 (j.map aG)], .box b4 0 [.k k]], .two (.cell1 4 23 rfl (i := 2) rfl cS rfl) (.cell1 5 4 rfl (i := 3) rfl oZ rfl), .refl _, .same _⟩

theorem aJs (e : aU) {r : (List Int) × Int} (h : qU e = some r) : Fn Tryz.prog 12 [.agg (aK e)] (.tup [.d (.sl 1 (r.1.map aG)), .i r.2]) := by
 unfold qU at h;refine oT [.tmp 2, .tmp 3] func12 results12 ntmps12 ?_;refine aC (aA ?_);refine bB rfl (cO (v := .agg (aK e)) (aF rfl) rfl rfl rfl) ?_;rintro _ ⟨b1, rfl⟩;refine to (lX 1 (aF rfl)) ?_;refine ta (.i 0) (aB (aC (aA (to (sla 0 (aK e) rfl rfl dO) ?_))));obtain ⟨r2, h3, h⟩ := bns h;refine to (scr call51 (aIo _ h3)) (tm (.tup [.i r2.1, .i r2.2]) (to (sex rfl rfl) (to (sex rfl rfl) (ta (.i r2.1) (ta (.i r2.2) (aB (aC (aC (aA (tm (.i r2.2) (to (scm rfl rfl rfl) (aB ?_))))))))))));refine tih h (fun c4 h => ?_) (fun c4 h => ?_)
 ·refine aC (aA (tm (.i r2.2) (to (lX 1 (aF rfl)) ?_)));refine ta (.i r2.2) (aB ?_);obtain rfl := sIn h;refine bK (bC (bE (l := [2, 3]) ⟨rfl, rfl, trivial⟩)) ?_;exact cA ⟨rfl, _, .two _ _, rfl, rfl⟩
 ·refine aY (aC (aC (aA (tm (.i r2.1) (to (scm rfl rfl rfl) (aB ?_))))));refine tih h (fun c5 h => ?_) (fun c5 h => ?_)
  ·refine aC (aA (to (lX 1 (aF rfl)) ?_));refine ta (.i 3) (aB ?_);obtain rfl := sIn h;refine bK (bC (bE (l := [2, 3]) ⟨rfl, rfl, trivial⟩)) ?_;exact cA ⟨rfl, _, .two _ _, rfl, rfl⟩
  ·refine aY (aC (aA (ta (.i 0) (aB (aC (aC (aA (tfl 0 rfl rfl sA rfl cS (to (sle rfl bM.of) (tm (.i 0) (aB (bT ?_))))))))))));refine cW (S := Int × Int) [1, 4, 22, 23] (fun s6 => [(6, .i s6.1), (24, .i s6.2)]) (fun s6 => [.box b1 0 (aK e)]) (fun k s6 => mX r2.1 e.Lots (e.Lots.length : Int) e k s6.1 s6.2) (fun _ => rfl) (0, 0) h (aT [0] rfl rfl (aM rfl (aM rfl (aR ⟨rfl, rfl, rfl, rfl, trivial⟩)))) ?_;rintro k7 ⟨a, f⟩ h;simp only [mX] at h;refine aC (aA (to (scm rfl rfl rfl) (aB (aC ?_))));refine tih h (fun c8 h => ?_) (fun c8 h => ?_)
   ·refine aY (aC (bT (aC (aA ?_))));obtain ⟨x9, g, h⟩ := bns h;refine to (six rfl rfl bM.of (bU aG g)) (to (slc rfl aS) (ta (.i x9) (aB (aA (tm (.i a) (tm (.i x9) (to (sar rfl rfl rfl) (ta (.i (w64 (a + x9))) ?_))))))));refine jD ?_;refine aA (to (sar rfl rfl rfl) (tm (.i (w64 (f + 1))) (aB ?_)));exact ⟨(w64 (a + x9), w64 (f + 1)), h, aT [0] rfl rfl (aM rfl (aM rfl (aR ⟨rfl, rfl, rfl, rfl, trivial⟩)))⟩
   ·refine cK ?_;refine .inl ⟨rfl, ?_⟩;simp only [rP] at h;refine aC ?_;obtain ⟨n, j, h⟩ := bns h;obtain ⟨c, m, h⟩ := bns h;refine dJ mix 9 [] [(9, .d (.sl 1 (c.1.map aG))), (39, .b c.2)] ?_ ?_
    ·refine ⟨[(33, 0, .agg (aK e)), (34, 1, .i a), (35, 2, .i r2.1), (36, 3, .i (a.tmod r2.1)), (37, 4, .tup [.d (.sl 1 (c.1.map aG)), .b c.2]), (32, 5, .tup [.d (.sl 1 (c.1.map aG)), .b c.2]), (38, 6, .d (.sl 1 (c.1.map aG))), (39, 7, .b c.2), (9, 8, .d (.sl 1 (c.1.map aG)))], ?_, ?_⟩
     · exact dk [0, 0, 0, 203, 104, 5, 6, 6, 7] ⟨go (zla 0 (aK e) rfl rfl dO),
 go (zm (.i a)),
 go (zm (.i r2.1)),
 go fun S hS => nU (aF rfl) (aV hS rfl) (aV hS rfl) (aSb j),
 go fun S hS => eM (aF rfl) (.func _ _ call52) (ev2 (aV hS rfl) (ev2 (aV hS rfl) evn)) rfl (aJt _ _ m),
 go (zm (.tup [.d (.sl 1 (c.1.map aG)), .b c.2])),
 go (zex rfl rfl),
 go (zex rfl rfl),
 go (za (.d (.sl 1 (c.1.map aG)))), trivial⟩
     · exact bZ (aM rfl (aM rfl (aR trivial)))
    ·refine ta (.b c.2) (aB (aC (aA (tm (.d (.sl 1 (c.1.map aG))) (ta (.d (.sl 1 (c.1.map aG))) (ta (.i 0) (aB ?_)))))));obtain rfl := sIn h;refine bK (bC (bE (l := [2, 3]) ⟨rfl, rfl, trivial⟩)) ?_;exact cA ⟨rfl, _, .two _ _, rfl, rfl⟩

theorem zH {r : aJ × (List aE)} (h : qE = some r) : Fn Tryz.prog 48 [] (.tup [.agg (bF r.1), .d (.sl 5 (r.2.map aO))]) := by
 unfold qE at h;refine iP func48 rfl (rs := [.cell 0 38, .tmp 1]) results48 ntmps48 (Nat.le_of_ble_eq_true rfl) ?_;refine aC (aA ?_);refine bB rfl (cD (zs := [.j 0, .sl 1 Z13]) (aF rfl) zeroValue38 rfl rfl) ?_;rintro _ ⟨b1, rfl⟩;refine to (lX 5 (aF rfl)) ?_;refine aB (aC (aA (to (fH (aF rfl) bM rfl rfl (rows := ([1, (-1), 2, 3, 4, 5, 6, 7]).map aG) rfl (bR (f := aG) fun _ => rfl) rfl (by decide)) ?_)));refine to (dG (aF rfl) aPx (zs := [.j 0, .sl 1 Z13]) rfl rfl rfl rfl (es := [.j 3, .sl 1 ((([1, (-1), 2, 3, 4, 5, 6, 7])).map aG)]) rfl) ?_;refine bB rfl (cD (zs := [.j 0, .sl 1 Z13]) (aF rfl) zeroValue38 rfl rfl) ?_;rintro _ ⟨b2, rfl⟩;refine to (sst 1 rfl rfl sizeOf38 Z18) (aB (aC (aA (to (sla 1 Z18 rfl rfl nX) (to (dG (aF rfl) aCn (zs := [.j 0, .j 0, .j 0, .j 0, .j 0]) rfl rfl rfl rfl (es := [.j 1, .j 1, .j 0, .j 2, .j 0]) rfl) ?_)))));refine to (dG (aF rfl) aCn (zs := [.j 0, .j 0, .j 0, .j 0, .j 0]) rfl rfl rfl rfl (es := [.j 3, .j 0, .j 3, .j 7, .j 0]) rfl) ?_;refine to (dG (aF rfl) aCn (zs := [.j 0, .j 0, .j 0, .j 0, .j 0]) rfl rfl rfl rfl (es := [.j 5, .j 0, .j 4, .j 8, .j 4]) rfl) ?_;refine to (fH (aF rfl) xV rfl rfl (rows := Z32.map aO) rfl (bR (f := aO) fun _ => rfl) rfl (by decide)) ?_;refine to (sst 0 rfl rfl sizeOf38 Z18) (ta (.d (.sl 5 ((Z32).map aO))) (aB ?_));obtain rfl := sIn h;exact cA ⟨rfl, _, [.box b1 0 Z18, .box b2 0 Z18], .two (.cell 0 38 rfl (i := 0) rfl nX (es := Z18) rfl rfl) (.tmp 1 (v := .d (.sl 5 ((Z32).map aO))) rfl), .refl _, .same _⟩

theorem eY (d : Int) (c : Int) (a : Int) {r : Bool} (h : eR d c a = some r) : Fn Tryz.prog 116 [.i d, .i c, .i a] (.b r) := by
 unfold eR at h;refine oT [.tmp 6] func116 results116 ntmps116 ?_;refine aC (aA (ta Z6 (aB (aC (aA (tm (.i c) (tm (.i d) (to (scm rfl rfl rfl) (tm (Z56 c d) ?_)))))))));obtain ⟨b1, h2, h⟩ := bns h;refine aW 4 [] 14 b1 ?_ ?_
 ·refine bch h2 (fun c3 h2 => ?_) (fun c3 h2 => ?_)
  ·refine tk c3 (sm (.i d)) (tk c3 (sm (.i a)) (tk c3 (scm rfl rfl rfl) (to (spt (Z56 d a) c3) ?_)));obtain rfl := sIn h2;refine aB (aI rfl trivial rfl)
  ·refine tp c3 (tp c3 (tp c3 (to (spf Z6 c3) ?_)));obtain rfl := sIn h2;refine aB (aI rfl trivial rfl)
 ·refine ta (.b b1) (aB ?_);obtain rfl := sIn h;exact rt

theorem aDx (g : aJ) {r : Bool} (h : mD g = some r) : Fn Tryz.prog 111 [.agg (bF g)] (.b r) := by
 unfold mD at h;refine oT [.tmp 2] func111 results111 ntmps111 ?_;refine aC (aA ?_);refine bB rfl (cO (v := .agg (bF g)) (aF rfl) rfl rfl rfl) ?_;rintro _ ⟨b1, rfl⟩;refine ta Z6 (aB (aC (aC ?_)));obtain ⟨r2, h3, h⟩ := bns h;obtain ⟨b4, h5, h⟩ := bns h;refine dJ mix 13 [1] [(18, .b b4)] ?_ ?_
 ·refine bch h5 (fun c6 h5 => ?_) (fun c6 h5 => ?_)
  ·obtain rfl := sIn h5;refine ⟨[(6, 0, .bp b1 0 0), (7, 1, .i g.Rounds), (8, 2, .b r2), (9, 3, .b (!r2)), (10, 4, .b (!r2)), (11, 5, .tup []), (12, 6, .tup []), (13, 7, .tup []), (14, 8, .tup []), (15, 9, .tup []), (16, 10, .tup []), (17, 11, .tup []), (18, 12, .b true)], ?_, ?_⟩
   · exact dk [0, 1, 2, 3, 4, 5, 506, 507, 5, 509, 510, 50811, 512] ⟨go (zf rfl qL),
 go (zl 0 rfl rfl rfl aS),
 go fun S hS => dC (aF rfl) (.func _ _ call116) (ev2 (aV hS rfl) (ev2 rfl (ev2 rfl evn))) rfl (BVs.refl _ _) (eY _ _ _ h3) rfl,
 go (zn rfl),
 go (zm (.b (!r2))),
 gp c6,
 gp c6,
 gp c6,
 gp c6,
 gp c6,
 gp c6,
 gp c6,
 go (zpt Z17 c6), trivial⟩
   · exact bZ (aM rfl (aR ⟨rfl, trivial⟩))
  ·obtain ⟨u7, h8, h5⟩ := bns h5;obtain rfl := sIn h5;refine ⟨[(6, 0, .bp b1 0 0), (7, 1, .i g.Rounds), (8, 2, .b r2), (9, 3, .b (!r2)), (10, 4, .b (!r2)), (11, 5, .bp b1 0 1), (12, 6, .d (.sl 1 (Z14 g))), (13, 7, .i (g.Slots.length : Int)), (14, 8, .bp b1 0 0), (15, 9, .i g.Rounds), (16, 10, .i (Z41 g)), (17, 11, .b (!decide ((g.Slots.length : Int) = (Z41 g)))), (18, 12, .b (!decide ((g.Slots.length : Int) = (Z41 g))))], ?_, ?_⟩
   · exact dk [0, 1, 2, 3, 4, 5, 506, 507, 5, 509, 510, 50811, 512] ⟨go (zf rfl qL),
 go (zl 0 rfl rfl rfl aS),
 go fun S hS => dC (aF rfl) (.func _ _ call116) (ev2 (aV hS rfl) (ev2 rfl (ev2 rfl evn))) rfl (BVs.refl _ _) (eY _ _ _ h3) rfl,
 go (zn rfl),
 go (zm (.b (!r2))),
 gt c6 (zf rfl oW),
 gt c6 (zl 0 rfl rfl rfl cS),
 gt c6 (zle rfl bM.of),
 gt c6 (zf rfl qL),
 gt c6 (zl 0 rfl rfl rfl aS),
 gt c6 fun S hS => aUs (aF rfl) rfl (aV hS rfl) (aIz h8),
 gt c6 (zcm rfl rfl rfl),
 go (zpf (.b (!decide ((g.Slots.length : Int) = (Z41 g)))) c6), trivial⟩
   · exact bZ (aM rfl (aR ⟨rfl, trivial⟩))
 ·refine aB ?_;refine tih h (fun c9 h => ?_) (fun c9 h => ?_)
  ·refine aC (aA (ta Z6 (aB ?_)));obtain rfl := sIn h;refine bK (bC (bE (l := [2]) ⟨rfl, trivial⟩)) ?_;exact rt
  ·refine aY (aC (aA ?_));refine bB rfl (xT (aF rfl)) ?_;rintro _ ⟨t, rfl⟩;refine ta (.d (.lit (.map (some t)))) (aB (aC (aC (aA (tfl 0 rfl rfl oW rfl cS (to (sle rfl bM.of) (tm (.i 0) (aB (bT ?_)))))))));refine cW (S := Int × (List (Int × Int)) × (List Nat) × Nat) [1, 3, 21, 22] (fun o => [(23, .i o.1)]) (fun o => [.box b1 0 (bF g), .map t (o.2.1.map fun p : Int × Int => (VI p.1, (fun v : Int => AV.i v) p.2)) o.2.2.1 o.2.2.2]) (fun k o => fW g.Slots (g.Slots.length : Int) g k o.1 o.2.1) (fun _ => rfl) (0, ([] : List (Int × Int)), [], 0) h (aT [0, 1] rfl rfl (aM rfl (aR ⟨rfl, rfl, rfl, rfl, trivial⟩))) ?_;rintro H ⟨f, c, u, s⟩ h;simp only [fW] at h;refine aC (aA (to (scm rfl rfl rfl) (aB (aC ?_))));refine tih h (fun w h => ?_) (fun w h => ?_)
   ·refine aY (aC (bT (aC (aA (tm (.i f) ?_)))));obtain ⟨e, x, h⟩ := bns h;refine to (six rfl rfl bM.of (bU aG x)) (to (slc rfl aS) (ta (.i f) (ta (.i e) (aB (aC (aC (aA (tm (.i e) (to (scm rfl rfl rfl) (aB ?_))))))))));refine tih h (fun y h => ?_) (fun y h => ?_)
    ·refine aC (aC (aA (tfl 0 rfl rfl oW rfl cS (tm (.i f) (to (aLa (aF rfl) rfl rfl (.inr (.inr ⟨rfl, rfl⟩))) ?_)))));obtain ⟨I, A, h⟩ := bns h;refine to (six rfl rfl bM.of (bU aG A)) (to (slc rfl aS) (to (scm rfl rfl rfl) (aB ?_)));refine tih h (fun B h => ?_) (fun B h => ?_)
     ·refine aC (aA (ta Z6 (aB ?_)));obtain rfl := sIn h;refine bK (bC (bE (l := [2]) ⟨rfl, trivial⟩)) ?_;exact rt
     ·refine aY ?_;refine cK ?_;refine .inl ⟨rfl, ?_⟩;refine aA (to (sar rfl rfl rfl) (tm (.i (w64 (f + 1))) (aB ?_)));exact ⟨(w64 (f + 1), c, u, s), h, aT [0, 1] rfl rfl (aM rfl (aR ⟨rfl, rfl, rfl, rfl, trivial⟩))⟩
    ·refine aY (aC (aA (tm (.d (.lit (.map (some t)))) (tm (.i e) (to (aAk (av := (fun v : Int => AV.i v)) (l := c) (z := 0) (a := e) (m := 1) (aF rfl) aNi underlying258 zeroValue3 (fun _ _ => .d (.lit _ rfl)) rfl rfl rfl rfl (aBn (kv := VI) e)) ?_)))));refine to (sar rfl rfl rfl) (to (yI (av := (fun v : Int => AV.i v)) (l := c) (v := w64 ((cG e 0 c) + 1)) (a := e) (m := 1) aNi underlying258 rfl rfl rfl rfl (aBn (kv := VI) e) rfl rfl) ?_);refine aB (aC (aA (tm (.d (.lit (.map (some t)))) (tm (.i e) (to (aAk (av := (fun v : Int => AV.i v)) (l := (eP e (w64 ((cG e 0 c) + 1)) c)) (z := 0) (a := e) (m := 1) (aF rfl) aNi underlying258 zeroValue3 (fun _ _ => .d (.lit _ rfl)) rfl rfl rfl rfl (aBn (kv := VI) e)) ?_)))));refine to (scm rfl rfl rfl) (tm (.b (decide (1 < (cG e 0 (eP e (w64 ((cG e 0 c) + 1)) c))))) ?_);obtain ⟨C, q, h⟩ := bns h;refine aW 4 [1, 3, 21, 22, 23] 49 C ?_ ?_
     ·refine bch q (fun j q => ?_) (fun j q => ?_)
      ·refine tp j (tp j (tp j (to (spt Z17 j) ?_)));obtain rfl := sIn q;refine aB (aI rfl ⟨rfl, rfl, rfl, rfl, rfl, trivial⟩ rfl)
      ·refine tk j (sm (.i e)) ?_;obtain ⟨E, F, q⟩ := bns q;refine tk j (scr call116 (eY _ _ _ F)) (tk j (sn rfl) (to (spf (.b (!E)) j) ?_));obtain rfl := sIn q;refine aB (aI rfl ⟨rfl, rfl, rfl, rfl, rfl, trivial⟩ rfl)
     ·refine aB ?_;refine tih h (fun G h => ?_) (fun G h => ?_)
      ·refine aC (aA (ta Z6 (aB ?_)));obtain rfl := sIn h;refine bK (bC (bE (l := [2]) ⟨rfl, trivial⟩)) ?_;exact rt
      ·refine dB ?_;refine aA (to (sar rfl rfl rfl) (tm (.i (w64 (f + 1))) (aB ?_)));exact ⟨(w64 (f + 1), (eP e (w64 ((cG e 0 c) + 1)) c), (mbs e c u s), (mck e c s)), h, aT [0, 1] rfl rfl (aM rfl (aR ⟨rfl, rfl, rfl, rfl, trivial⟩))⟩
   ·refine cK ?_;refine .inl ⟨rfl, ?_⟩;simp only [rB] at h;refine aC (aA (ta Z17 (aB ?_)));obtain rfl := sIn h;refine bK (bC (bE (l := [2]) ⟨rfl, trivial⟩)) ?_;exact rt

theorem uZ (e : List aE) (g : aE → Option Bool) {r : Int} (c : Nat) (f : List AV) (j : ∀ args w, (callFunc c args).run Tryz.prog w = .ok (.enter c args) w) (l : ∀ (x0 : aE) r, g x0 = some r → Fn Tryz.prog c ([.agg (aO x0)] ++ f) (.b r)) (h : gK e g = some r) : Fn Tryz.prog 173 [.d (Z20 e), .fn c f] (.i r) := by
 unfold gK at h;refine oT [.tmp 4] func173 results173 ntmps173 ?_;refine aC (aA (ta (.i 0) (aB (aC (aC (aA (tm (.d (Z20 e)) (to (sle rfl xV.of) (tm (.i 0) (aB (bT ?_)))))))))));refine cW (S := Int) [0, 1, 7] (fun s1 => [(8, .i s1)]) (fun s1 => []) (fun k s1 => dQ e g (e.length : Int) k s1) (fun _ => rfl) (0) h (aT [] rfl rfl (aM rfl (aR ⟨rfl, rfl, rfl, trivial⟩))) ?_;rintro k2 a h;simp only [dQ] at h;refine aC (aA (to (scm rfl rfl rfl) (aB (aC ?_))));refine tih h (fun c3 h => ?_) (fun c3 h => ?_)
 ·refine aY (aC (bT (aC (aA (tm (.i a) (ta (.i a) (aB (aC (aA (tm (.fn c f) (tm (.d (Z20 e)) (tm (.i a) ?_))))))))))));obtain ⟨x4, h5, h⟩ := bns h;refine to (six rfl rfl xV.of (bU aO h5)) (to (yM (aO x4) rfl pB) ?_);obtain ⟨r6, h7, h⟩ := bns h;refine to (dC (aF rfl) (.clo _ _ _ _ j rfl) (zL rfl) rfl (BVs.refl _ _) (l _ _  h7) rfl) ?_;refine aB ?_;refine tih h (fun c8 h => ?_) (fun c8 h => ?_)
  ·refine aC (aA (tm (.i a) (ta (.i a) (aB ?_))));obtain rfl := sIn h;exact rt
  ·refine dB ?_;refine aA (to (sar rfl rfl rfl) (tm (.i (w64 (a + 1))) (aB ?_)));exact ⟨(w64 (a + 1)), h, aT [] rfl rfl (aM rfl (aR ⟨rfl, rfl, rfl, trivial⟩))⟩
 ·refine cK ?_;refine .inl ⟨rfl, ?_⟩;simp only [kT] at h;refine aC (aA (ta (.i (-1)) (aB ?_)));obtain rfl := sIn h;exact rt

theorem tR (e : List aE) (i : aE → Option Bool) {r : Bool} (a : Nat) (c : List AV) (f : ∀ args w, (callFunc a args).run Tryz.prog w = .ok (.enter a args) w) (g : ∀ (x0 : aE) r, i x0 = some r → Fn Tryz.prog a ([.agg (aO x0)] ++ c) (.b r)) (h : fI e i = some r) : Fn Tryz.prog 112 [.d (Z20 e), .fn a c] (.b r) := by
 unfold fI at h;refine oT [.tmp 4] func112 results112 ntmps112 ?_;refine aC (aA (ta Z6 (aB (aC (aA (tm (.d (Z20 e)) (tm (.fn a c) ?_)))))));obtain ⟨r1, h2, h⟩ := bns h;refine to (scr call173 (uZ _ _ a c f g h2)) (to (scm rfl rfl rfl) (ta (.b (decide (0 ≤ r1))) (aB ?_)));obtain rfl := sIn h;exact rt

theorem uL (c : aD) (a : aJ) {r : Bool} (h : kK c a = some r) : Fn Tryz.prog 146 [.agg (aH c), .agg (bF a)] (.b r) := by
 unfold kK at h;refine oT [.tmp 4] func146 results146 ntmps146 ?_;refine aC (aA ?_);refine bB rfl (cO (v := .agg (aH c)) (aF rfl) rfl rfl rfl) ?_;rintro _ ⟨b1, rfl⟩;refine bB rfl (cO (v := .agg (bF a)) (aF rfl) rfl rfl rfl) ?_;rintro _ ⟨b2, rfl⟩;refine ta Z6 (aB (aC ?_));obtain ⟨r3, h4, h⟩ := bns h;obtain ⟨b5, h6, h⟩ := bns h;refine dJ mix 19 [] [(23, .b b5)] ?_ ?_
 ·refine bch h6 (fun c7 h6 => ?_) (fun c7 h6 => ?_)
  ·obtain ⟨u8, h9, h6⟩ := bns h6;obtain ⟨e, f, h6⟩ := bns h6;obtain rfl := sIn h6;refine ⟨[(5, 0, .bp b1 0 0), (6, 1, .i c.round), (7, 2, .bp b2 0 0), (8, 3, .i a.Rounds), (9, 4, .i (w64 (a.Rounds - 1))), (10, 5, .b r3), (11, 6, .b r3), (12, 7, .bp b1 0 1), (13, 8, .i c.place), (14, 9, .bp b2 0 1), (15, 10, .d (.sl 1 (Z14 a))), (16, 11, .i (a.Slots.length : Int)), (17, 12, .bp b1 0 0), (18, 13, .i c.round), (19, 14, .i (w64 (c.round + 1))), (20, 15, .i ((a.Slots.length : Int).fdiv (2 ^ (min (w64 (c.round + 1)).toNat 64)))), (21, 16, .i (w64 (((a.Slots.length : Int).fdiv (2 ^ (min (w64 (c.round + 1)).toNat 64))) - 1))), (22, 17, .b e), (23, 18, .b e)], ?_, ?_⟩
   · exact dk [0, 1, 0, 3, 4, 205, 6, 7, 708, 7, 710, 711, 7, 713, 714, 71215, 716, 70917, 718] ⟨go (zf rfl nH),
 go (zl 0 rfl rfl rfl aS),
 go (zf rfl qL),
 go (zl 1 rfl rfl rfl aS),
 go (zar rfl rfl rfl),
 go fun S hS => dC (aF rfl) (.func _ _ call116) (ev2 (aV hS rfl) (ev2 rfl (ev2 (aV hS rfl) evn))) rfl (BVs.refl _ _) (eY _ _ _ h4) rfl,
 go (zm (.b r3)),
 gt c7 (zf rfl aHs),
 gt c7 (zl 0 rfl rfl rfl aS),
 gt c7 (zf rfl oW),
 gt c7 (zl 1 rfl rfl rfl cS),
 gt c7 (zle rfl bM.of),
 gt c7 (zf rfl nH),
 gt c7 (zl 0 rfl rfl rfl aS),
 gt c7 (zar rfl rfl rfl),
 gt c7 fun S hS => aNz (aF rfl) (aV hS rfl) (aV hS rfl) (aIz h9),
 gt c7 (zar rfl rfl rfl),
 gt c7 fun S hS => dC (aF rfl) (.func _ _ call116) (ev2 (aV hS rfl) (ev2 rfl (ev2 (aV hS rfl) evn))) rfl (BVs.refl _ _) (eY _ _ _ f) rfl,
 go (zpt (.b e) c7), trivial⟩
   · exact bZ (aM rfl (aR trivial))
  ·obtain rfl := sIn h6;refine ⟨[(5, 0, .bp b1 0 0), (6, 1, .i c.round), (7, 2, .bp b2 0 0), (8, 3, .i a.Rounds), (9, 4, .i (w64 (a.Rounds - 1))), (10, 5, .b r3), (11, 6, .b r3), (12, 7, .tup []), (13, 8, .tup []), (14, 9, .tup []), (15, 10, .tup []), (16, 11, .tup []), (17, 12, .tup []), (18, 13, .tup []), (19, 14, .tup []), (20, 15, .tup []), (21, 16, .tup []), (22, 17, .tup []), (23, 18, .b false)], ?_, ?_⟩
   · exact dk [0, 1, 0, 3, 4, 205, 6, 7, 708, 7, 710, 711, 7, 713, 714, 71215, 716, 70917, 718] ⟨go (zf rfl nH),
 go (zl 0 rfl rfl rfl aS),
 go (zf rfl qL),
 go (zl 1 rfl rfl rfl aS),
 go (zar rfl rfl rfl),
 go fun S hS => dC (aF rfl) (.func _ _ call116) (ev2 (aV hS rfl) (ev2 rfl (ev2 (aV hS rfl) evn))) rfl (BVs.refl _ _) (eY _ _ _ h4) rfl,
 go (zm (.b r3)),
 gp c7,
 gp c7,
 gp c7,
 gp c7,
 gp c7,
 gp c7,
 gp c7,
 gp c7,
 gp c7,
 gp c7,
 gp c7,
 go (zpf Z6 c7), trivial⟩
   · exact bZ (aM rfl (aR trivial))
 ·refine ta (.b b5) (aB ?_);obtain rfl := sIn h;refine bK (bC (bE (l := [4]) ⟨rfl, trivial⟩)) ?_;exact rt

theorem aDw (n : aJ) (d : aE) {r : Bool} (h : nY n d = some r) : Fn Tryz.prog 114 [.agg (bF n), .agg (aO d)] (.b r) := by
 unfold nY at h;refine oT [.tmp 4] func114 results114 ntmps114 ?_;refine aC (aA ?_);refine bB rfl (cO (v := .agg (bF n)) (aF rfl) rfl rfl rfl) ?_;rintro _ ⟨b1, rfl⟩;refine bB rfl (cO (v := .agg (aO d)) (aF rfl) rfl rfl rfl) ?_;rintro _ ⟨b2, rfl⟩;refine ta Z6 (aB (aC (aC (aA (tfl 1 rfl rfl wO rfl aS ?_)))));obtain ⟨r3, h4, h⟩ := bns h;refine to (scr call116 (eY _ _ _ h4)) (to (sn rfl) (aB ?_));refine tih h (fun c5 h => ?_) (fun c5 h => ?_)
 ·refine aC (aA (ta Z6 (aB ?_)));obtain rfl := sIn h;refine bK (bC (bE (l := [4]) ⟨rfl, trivial⟩)) ?_;exact rt
 ·refine aY (aC (aC (aA (tfl 1 rfl rfl aEk rfl aS (to (scm rfl rfl rfl) (aB ?_))))));refine tih h (fun c6 h => ?_) (fun c6 h => ?_)
  ·refine aC (aA (tfl 1 rfl rfl zQ rfl aS (to (scm rfl rfl rfl) (tm (.b (decide (d.Round = 0))) ?_))));obtain ⟨b7, h8, h⟩ := bns h;refine aW 8 [3] 24 b7 ?_ ?_
   ·refine bch h8 (fun c h8 => ?_) (fun c h8 => ?_)
    ·refine tkl 1 c rfl rfl sC rfl aS (tkl 0 c rfl rfl oW rfl cS (tk c (sle rfl bM.of) (tk c (sar rfl rfl rfl) ?_)));obtain ⟨q, s, h8⟩ := bns h8;refine tk c (scr call116 (eY _ _ _ s)) (to (spt (.b q) c) ?_);obtain rfl := sIn h8;refine aB (aI rfl ⟨rfl, trivial⟩ rfl)
    ·refine tp c (tp c (tp c (tp c (tp c (tp c (tp c (to (spf Z6 c) ?_)))))));obtain rfl := sIn h8;refine aB (aI rfl ⟨rfl, trivial⟩ rfl)
   ·refine tm (.b b7) ?_;obtain ⟨b9, j, h⟩ := bns h;refine aW 4 [] 29 b9 ?_ ?_
    ·refine bch j (fun g j => ?_) (fun g j => ?_)
     ·refine tkl 1 g rfl rfl aEl rfl aS ?_;obtain ⟨t, u, j⟩ := bns j;refine tk g (scr call116 (eY _ _ _ u)) (to (spt (.b t) g) ?_);obtain rfl := sIn j;refine aB (aI rfl trivial rfl)
     ·refine tp g (tp g (tp g (to (spf Z6 g) ?_)));obtain rfl := sIn j;refine aB (aI rfl trivial rfl)
    ·refine ta (.b b9) (aB ?_);obtain rfl := sIn h;refine bK (bC (bE (l := [4]) ⟨rfl, trivial⟩)) ?_;exact rt
  ·refine aY (aC (aA (tfl 1 rfl rfl zQ rfl aS (tfl 1 rfl rfl sC rfl aS (to (dG (aF rfl) wF (zs := [.j 0, .j 0]) rfl rfl rfl rfl (es := [.j d.Round, .j d.Place]) rfl) ?_)))));refine bB rfl (cD (zs := [.j 0, .j 0]) (aF rfl) zeroValue143 rfl rfl) ?_;rintro _ ⟨G, rfl⟩;refine to (sst 2 rfl rfl sizeOf143 (aH (aD.mk d.Round d.Place))) (aB (aC (aC (aA (tfl 1 rfl rfl aEk rfl aS ?_)))));obtain ⟨w, x, h⟩ := bns h;refine to (scr call116 (eY _ _ _ x)) (to (sn rfl) (tm (.b (!w)) ?_));obtain ⟨o, m, h⟩ := bns h;refine aW 4 [2, 3, 5] 43 o ?_ ?_
   ·refine bch m (fun i m => ?_) (fun i m => ?_)
    ·refine tp i (tp i (tp i (to (spt Z17 i) ?_)));obtain rfl := sIn m;refine aB (aI rfl ⟨rfl, rfl, rfl, trivial⟩ rfl)
    ·refine tkl 1 i rfl rfl aEl rfl aS (tk i (scm rfl rfl rfl) (to (spf (.b (!decide (d.Old = 0))) i) ?_));obtain rfl := sIn m;refine aB (aI rfl ⟨rfl, rfl, rfl, trivial⟩ rfl)
   ·refine tm (.b o) ?_;obtain ⟨y, k, h⟩ := bns h;refine aW 5 [2, 3] 49 y ?_ ?_
    ·refine bch k (fun e k => ?_) (fun e k => ?_)
     ·refine tp e (tp e (tp e (tp e (to (spt Z17 e) ?_))));obtain rfl := sIn k;refine aB (aI rfl ⟨rfl, rfl, trivial⟩ rfl)
     ·refine tk e (sla 2 (aH (aD.mk d.Round d.Place)) rfl rfl iI) (tk e (sla 0 (bF n) rfl rfl nX) ?_);obtain ⟨z, A, k⟩ := bns k;refine tk e (scr call146 (uL _ _ A)) (tk e (sn rfl) (to (spf (.b (!z)) e) ?_));obtain rfl := sIn k;refine aB (aI rfl ⟨rfl, rfl, trivial⟩ rfl)
    ·refine aB ?_;refine tih h (fun B h => ?_) (fun B h => ?_)
     ·refine aC (aA (ta Z6 (aB ?_)));obtain rfl := sIn h;refine bK (bC (bE (l := [4]) ⟨rfl, trivial⟩)) ?_;exact rt
     ·refine aY (aC (aA (tfl 1 rfl rfl zQ rfl aS (to (scm rfl rfl rfl) (tm (.b (decide (0 < d.Round))) ?_)))));obtain ⟨p, f, h⟩ := bns h;refine aW 13 [] 66 p ?_ ?_
      ·refine bch f (fun a f => ?_) (fun a f => ?_)
       ·refine tp a (tp a (tp a (tp a (tp a (tp a (tp a (tp a (tp a (tp a (tp a (tp a (to (spt Z17 a) ?_))))))))))));obtain rfl := sIn f;refine aB (aI rfl trivial rfl)
       ·refine tkl 0 a rfl rfl oW rfl cS (tkl 1 a rfl rfl sC rfl aS (tk a (sar rfl rfl rfl) (tkl 1 a rfl rfl sC rfl aS (tk a (sar rfl rfl rfl) (tk a (sar rfl rfl rfl) ?_)))));obtain ⟨H, C, f⟩ := bns f;refine tk a (tQ (aF rfl) bM.of rfl rfl rfl (zA aG C)) ?_;obtain ⟨E, F, f⟩ := bns f;refine tk a (scr call91 (cV _ _ F)) (tk a (sn rfl) (to (spf (.b (!E)) a) ?_));obtain rfl := sIn f;refine aB (aI rfl trivial rfl)
      ·refine ta (.b p) (aB ?_);obtain rfl := sIn h;refine bK (bC (bE (l := [4]) ⟨rfl, trivial⟩)) ?_;exact rt

theorem aDy (a : aE) (c : aJ) {r : Bool} (h : mE a c = some r) : Fn Tryz.prog 113 [.agg (aO a), .cp (bF c)] (.b r) := by
 unfold mE at h;refine oT [.tmp 3] func113 results113 ntmps113 ?_;refine aC (aA ?_);refine bB rfl (cO (v := .agg (aO a)) (aF rfl) rfl rfl rfl) ?_;rintro _ ⟨b1, rfl⟩;refine ta Z6 (aB (aC (aA (to (yM (bF c) rfl nX) (to (sla 0 (aO a) rfl rfl pB) ?_)))));obtain ⟨r2, h3, h⟩ := bns h;refine to (scr call114 (aDw _ _ h3)) (to (sn rfl) (ta (.b (!r2)) (aB ?_)));obtain rfl := sIn h;refine bK (bC (bE (l := [3]) ⟨rfl, trivial⟩)) ?_;exact rt

theorem tT (f : aJ) (n : List Int) (o : List (aE × Int)) (g : Int) {Q : (aE × Bool) → Prop} {t u : Nat} {c : Value} {w : Nat} {j : Nat} {s : List Nat} {e : Nat} (h : fV f n o g Q) : dN Tryz.prog 220 [.bp t u 0, .d (Z31 j), .i g] (Z8 t u f c w n j o s e) (fun r' o' => ∃ (r : aE × Bool), Q r ∧ r' = .tup [.agg (aO r.1), .b r.2] ∧ o' = (Z8 t u f c w n j o s e)) := by
 unfold fV at h;refine jG func220 rfl (rs := [.cell 6 95, .tmp 7]) results220 ntmps220 (Nat.le_of_ble_eq_true rfl) ?_;refine aC (aA ?_);refine bB rfl (cD (zs := [.j 0, .j 0, .j 0, .j 0, .j 0]) (aF rfl) zeroValue95 rfl rfl) ?_;rintro _ ⟨b1, rfl⟩;refine ta Z6 (aB (aC (aC (aA (tm (.d (Z31 j)) ?_)))));refine bB rfl (aMp (m := 2) (aF rfl) underlying260 rfl rfl) ?_;rintro _ ⟨q2, h4, rfl⟩;have h := aBv h h4;refine aB (bT ?_);refine sI [0, 2, 6, 10] (fun (s5 : aE × (List Nat)) => []) (fun (s5 : aE × (List Nat)) => [.arr c 3 1 (n.map aG), .box t u [.j f.Rounds, .sl 1 (Z14 f), .lit c, .lit (.map (some w))], .map j (o.map fun p : aE × Int => ((fun a : aE => Value.agg ((aO a).map bN).toArray) p.1, (fun v : Int => AV.i v) p.2)) s e, .box b1 0 (aO s5.1), .iter q2 j e s5.2 e]) (fun (k : Nat) (s5 : aE × (List Nat)) => fM Q g n f o k s5.1 (lJ o s s5.2)) (fun _ h => h) (Z57, []) h (aT [1, 0, 2, 3, 4] rfl rfl (aR ⟨rfl, rfl, rfl, rfl, trivial⟩)) ?_;rintro k7 ⟨B, y⟩ h;simp only [fM] at h;refine aC (aA ?_);refine bB rfl (aPq (kv := (fun a : aE => Value.agg ((aO a).map bN).toArray)) (av := (fun v : Int => AV.i v)) (l := o) (mi := 4) (mm := 2) (aF rfl) rfl rfl rfl) ?_;rintro _ (⟨I, rfl⟩ | ⟨j9, C, p8, E, rfl⟩)
 ·have h := h.1 I;refine to (sex rfl rfl) (aB (aC ?_));refine vV rfl (fun F => ?_) (fun F => ?_)
  ·exact absurd F (by decide)
  ·refine cK ?_;refine .inl ⟨rfl, ?_⟩;simp only [lT] at h;refine aC (aA (to (dG (aF rfl) aCn (zs := [.j 0, .j 0, .j 0, .j 0, .j 0]) rfl rfl rfl rfl (es := [.j 0, .j 0, .j 0, .j 0, .j 0]) rfl) ?_));refine to (sst 3 rfl rfl sizeOf95 (aO Z57)) (ta Z6 (aB ?_));refine bK (aT [1, 0, 2, 3, 4] rfl rfl (le_refl _)) ?_;exact cA ⟨rfl, _, (Z8 t u f c w n j o s e), [.box b1 0 (aO Z57), .iter q2 j e y e], _, .two (.cell 6 95 rfl (i := 3) rfl pB (es := (aO Z57)) rfl rfl) (.tmp 7 (v := .b false) rfl), .refl _, .same _, (Z57, false), h, rfl, rfl⟩
 ·have h := aDj h E;refine to (sex rfl rfl) (aB (aC ?_));refine vV rfl (fun G => ?_) (fun G => ?_)
  ·refine aY (bT (aC (aA (to (aMo (kv := (fun a : aE => Value.agg ((aO a).map bN).toArray)) (av := (fun v : Int => AV.i v)) (l := o) (mi := 4) (mm := 2) (ka := .agg (aO p8.1)) (aF rfl) rfl rfl rfl E (fun _ _ => .agg (aBq rfl))) ?_))));refine to (sex rfl rfl) ?_;refine bB rfl (cD (zs := [.j 0, .j 0, .j 0, .j 0, .j 0]) (aF rfl) zeroValue95 rfl rfl) ?_;rintro _ ⟨z, rfl⟩;refine to (sst 5 rfl rfl sizeOf95 (aO p8.1)) (aB (aC ?_));obtain ⟨J, x, h⟩ := eS h;refine dJ mix 16 [0, 2, 6, 8, 10] [(30, .b J)] ?_ ?_
   ·refine bch x (fun q x => ?_) (fun q x => ?_)
    ·obtain ⟨A, H, x⟩ := bns x;obtain rfl := sIn x;refine ⟨[(15, 0, .bp z 0 2), (16, 1, .i p8.1.Place), (17, 2, .i g), (18, 3, .b (decide (p8.1.Place = g))), (19, 4, .b (decide (p8.1.Place = g))), (20, 5, .bp z 0 4), (21, 6, .i p8.1.Old), (22, 7, .bp t u 0), (23, 8, .bp t u 0), (24, 9, .bp t u 2), (25, 10, .d (.lit c)), (26, 11, .i g), (27, 12, .ep c 1 g.toNat 0), (28, 13, .i A), (29, 14, .b (decide (p8.1.Old = A))), (30, 15, .b (decide (p8.1.Old = A)))], ?_, ?_⟩
     · exact dk [0, 1, 0, 203, 4, 5, 506, 5, 508, 509, 510, 5, 51112, 513, 50714, 515] ⟨go (zf rfl sC),
 go (zl 5 rfl rfl rfl aS),
 go (zm (.i g)),
 go (zcm rfl rfl rfl),
 go (zm (.b (decide (p8.1.Place = g)))),
 gt q (zf rfl aEl),
 gt q (zl 5 rfl rfl rfl aS),
 gt q (zm (Z61 t u)),
 gt q fun S hS => bJ (aF rfl) (aV hS rfl),
 gt q (zf rfl mB),
 gt q (zl 1 rfl rfl rfl cS),
 gt q (zm (.i g)),
 gt q (zia 0 rfl rfl rfl bM.of (bU aG H)),
 gt q fun S hS => oI (aF rfl) (aV hS rfl) (m := 0) rfl (qQ aG H) rfl aS,
 gt q (zcm rfl rfl rfl),
 go (zpt (.b (decide (p8.1.Old = A))) q), trivial⟩
     · exact bZ (aM rfl (aR ⟨rfl, rfl, rfl, rfl, rfl, trivial⟩))
    ·obtain rfl := sIn x;refine ⟨[(15, 0, .bp z 0 2), (16, 1, .i p8.1.Place), (17, 2, .i g), (18, 3, .b (decide (p8.1.Place = g))), (19, 4, .b (decide (p8.1.Place = g))), (20, 5, .tup []), (21, 6, .tup []), (22, 7, .tup []), (23, 8, .tup []), (24, 9, .tup []), (25, 10, .tup []), (26, 11, .tup []), (27, 12, .tup []), (28, 13, .tup []), (29, 14, .tup []), (30, 15, .b false)], ?_, ?_⟩
     · exact dk [0, 1, 0, 203, 4, 5, 506, 5, 508, 509, 510, 5, 51112, 513, 50714, 515] ⟨go (zf rfl sC),
 go (zl 5 rfl rfl rfl aS),
 go (zm (.i g)),
 go (zcm rfl rfl rfl),
 go (zm (.b (decide (p8.1.Place = g)))),
 gp q,
 gp q,
 gp q,
 gp q,
 gp q,
 gp q,
 gp q,
 gp q,
 gp q,
 gp q,
 go (zpf Z6 q), trivial⟩
     · exact bZ (aM rfl (aR ⟨rfl, rfl, rfl, rfl, rfl, trivial⟩))
   ·refine aB ?_;refine tip h (fun K h => ?_) (fun K h => ?_)
    ·refine aC (aA (to (sla 5 (aO p8.1) rfl rfl pB) (to (sst 3 rfl rfl sizeOf95 (aO p8.1)) (ta Z17 (aB ?_)))));refine bK (aT [1, 0, 2, 3, 4, 5] rfl rfl (le_refl _)) ?_;exact cA ⟨rfl, _, (Z8 t u f c w n j o s e), [.box b1 0 (aO p8.1), .iter q2 j e (y ++ [C]) e, .box z 0 (aO p8.1)], _, .two (.cell 6 95 rfl (i := 3) rfl pB (es := (aO p8.1)) rfl rfl) (.tmp 7 (v := .b true) rfl), .refl _, .same _, (p8.1, true), h, rfl, rfl⟩
    ·refine dB ?_;exact ⟨(B, (y ++ [C])), h, aT [0, 1, 2, 3, 4] rfl rfl (aR ⟨rfl, rfl, rfl, rfl, trivial⟩)⟩
  ·exact absurd G (by decide)

theorem xZ (e : aJ) (w : List Int) (C : List (aE × Int)) {Q : (Bool × (List Int) × (List (aE × Int))) → Prop} {q s : Nat} {c : Value} {t : Nat} {g : Nat} {z : List Nat} {A : Nat} (h : jJ e w C Q) : dN Tryz.prog 174 [.bp q s 0, .d (Z31 g)] [.box q s [.j e.Rounds, .sl 1 (Z14 e), .lit c, .lit (.map (some t))], .arr c 3 1 (w.map aG), .map g (C.map fun p : aE × Int => ((fun a : aE => Value.agg ((aO a).map bN).toArray) p.1, (fun v : Int => AV.i v) p.2)) z A] (fun r' o' => ∃ (r : Bool × (List Int) × (List (aE × Int))) (U : List Nat) (V : Nat), Q r ∧ r' = .b r.1 ∧ o' = [.box q s [.j e.Rounds, .sl 1 (Z14 e), .lit c, .lit (.map (some t))], .arr c 3 1 (r.2.1.map aG), .map g (r.2.2.map fun p : aE × Int => ((fun a : aE => Value.agg ((aO a).map bN).toArray) p.1, (fun v : Int => AV.i v) p.2)) U V]) := by
 unfold jJ at h;refine jG func174 rfl (rs := [.tmp 4]) results174 ntmps174 (Nat.le_of_ble_eq_true rfl) ?_;refine aC (aA (ta Z6 (aB (aC (aA (tm (Z61 q s) (to (bJ (aF rfl) rfl) ?_)))))));refine to (sf rfl uQ) (tfl 0 rfl rfl oW rfl cS ?_);obtain ⟨r1, h2, h⟩ := eS h;refine bB rfl (aAf (aF rfl) (.func _ _ call93) rfl rfl (mQ _ h2)) ?_;rintro _ ⟨v3, rfl⟩;refine ta (.d (.lit v3)) (aB (aC (aC (aA (tm (Z61 q s) (to (bJ (aF rfl) rfl) ?_))))));refine tfl 0 rfl rfl mB rfl cS (to (qZ (m := 1) (aF rfl) rfl rfl bM.of) ?_);refine tm (.i 0) (aB (bT ?_));refine sI [0, 1, 19] (fun (s4 : Int × (List Int) × (List (aE × Int)) × (List Int) × (List Nat) × Nat × Value) => [(5, .d (.lit s4.2.2.2.2.2.2)), (20, .i s4.1)]) (fun (s4 : Int × (List Int) × (List (aE × Int)) × (List Int) × (List Nat) × Nat × Value) => [.arr c 3 1 (s4.2.1.map aG), .box q s [.j e.Rounds, .sl 1 (Z14 e), .lit c, .lit (.map (some t))], .map g (s4.2.2.1.map fun p : aE × Int => ((fun a : aE => Value.agg ((aO a).map bN).toArray) p.1, (fun v : Int => AV.i v) p.2)) s4.2.2.2.2.1 s4.2.2.2.2.2.1, .arr s4.2.2.2.2.2.2 3 1 (s4.2.2.2.1.map aG)]) (fun (k : Nat) (s4 : Int × (List Int) × (List (aE × Int)) × (List Int) × (List Nat) × Nat × Value) => cI Q (w.length : Int) e k s4.1 s4.2.1 s4.2.2.1 s4.2.2.2.1) (fun _ h => h) (0, w, C, r1, z, A, v3) h (aT [1, 0, 2, 3] rfl rfl (aM rfl (aM rfl (aR ⟨rfl, rfl, rfl, trivial⟩)))) ?_;rintro k8 ⟨j, B, u, H, L, M, w7⟩ h;simp only [cI] at h;refine aC (aA (to (scm rfl rfl rfl) (aB (aC ?_))));refine tip h (fun c9 h => ?_) (fun c9 h => ?_)
 ·refine aY (aC (bT (aC (aA (tm (.i j) (ta (.i j) (aB (aC (aA (tm (Z61 q s) (tm (.d (Z31 g)) (tm (.i j) ?_))))))))))));refine eT (aT [1, 0, 2, 3] rfl rfl (le_refl _)) ?_;refine bB rfl (iM (passed := [.box q s [.j e.Rounds, .sl 1 (Z14 e), .lit c, .lit (.map (some t))], .arr c 3 1 (B.map aG), .map g (u.map fun p : aE × Int => ((fun a : aE => Value.agg ((aO a).map bN).toArray) p.1, (fun v : Int => AV.i v) p.2)) L M]) (aF rfl) rfl (.func _ _ call220) rfl rfl (tT e B u j h)) ?_;rintro _ ⟨_, _, ⟨I, h, rfl, rfl⟩, rfl⟩;refine tm (.tup [.agg (aO I.1), .b I.2]) (to (sex rfl rfl) (to (sex rfl rfl) ?_));refine bB rfl (cD (zs := [.j 0, .j 0, .j 0, .j 0, .j 0]) (aF rfl) zeroValue95 rfl rfl) ?_;rintro _ ⟨W, rfl⟩;refine to (sst 4 rfl rfl sizeOf95 (aO I.1)) (ta (.b I.2) (aB ?_));refine aHf ?_;refine sI [0, 1, 6, 19, 20] (fun (x : Bool × (List Int) × (List (aE × Int)) × aE × (List Int) × (List Nat) × Nat × Nat × Value) => [(5, .d (.lit x.2.2.2.2.2.2.2.2)), (7, .bp x.2.2.2.2.2.2.2.1 0 0), (8, .b x.1)]) (fun (x : Bool × (List Int) × (List (aE × Int)) × aE × (List Int) × (List Nat) × Nat × Nat × Value) => [.arr c 3 1 (x.2.1.map aG), .box q s [.j e.Rounds, .sl 1 (Z14 e), .lit c, .lit (.map (some t))], .map g (x.2.2.1.map fun p : aE × Int => ((fun a : aE => Value.agg ((aO a).map bN).toArray) p.1, (fun v : Int => AV.i v) p.2)) x.2.2.2.2.2.1 x.2.2.2.2.2.2.1, .box x.2.2.2.2.2.2.2.1 0 (aO x.2.2.2.1), .arr x.2.2.2.2.2.2.2.2 3 1 (x.2.2.2.2.1.map aG)]) (fun (k : Nat) (x : Bool × (List Int) × (List (aE × Int)) × aE × (List Int) × (List Nat) × Nat × Nat × Value) => cZ Q (cI Q (w.length : Int) e k8) j (w.length : Int) j e k x.1 x.2.1 x.2.2.1 x.2.2.2.1 x.2.2.2.2.1) (fun _ h => h) (I.2, B, u, I.1, H, L, M, W, w7) h (aT [1, 0, 2, 4, 3] rfl rfl (aM rfl (aM rfl (aM rfl (aR ⟨rfl, rfl, rfl, rfl, rfl, trivial⟩))))) ?_;rintro a3 ⟨K, y, o, n, E, F, G, O, N⟩ h;simp only [cZ] at h;refine aC (aC (aA (tm (.b K) (aB ?_))));refine tip h (fun X h => ?_) (fun X h => ?_)
  ·refine aY (aC (bT (aC (aC (aA (tm (.d (.lit N)) (tfl 3 rfl rfl wO rfl aS ?_)))))));obtain ⟨a4, Y, h⟩ := eS h;refine to (sc call91 (cV _ _ Y) (.cons (.d (cJ 4 rfl (bR (f := aG) fun _ => rfl))) (.cons (.same _) .nil))) (aB ?_);refine tip h (fun Z h => ?_) (fun Z h => ?_)
   ·refine aC (aA (ta Z6 (aB ?_)));refine bK (aT [1, 0, 2, 3, 4] rfl rfl (le_refl _)) ?_;exact cA ⟨rfl, _, [.box q s [.j e.Rounds, .sl 1 (Z14 e), .lit c, .lit (.map (some t))], .arr c 3 1 (y.map aG), .map g (o.map fun p : aE × Int => ((fun a : aE => Value.agg ((aO a).map bN).toArray) p.1, (fun v : Int => AV.i v) p.2)) F G], [.box O 0 (aO n), .arr N 3 1 (E.map aG)], _, .one (.tmp 4 (v := .b false) rfl), .refl _, .same _, (false, y, o), F, G, h, rfl, rfl⟩
   ·refine aY (aC ?_);refine dJ mix 7 [0, 1, 5, 6, 7, 19, 20] [(45, .d (.lit c)), (46, .i j), (48, .i n.Player)] ?_ ?_
    ·refine ⟨[(42, 0, .bp q s 0), (43, 1, .bp q s 0), (44, 2, .bp q s 2), (45, 3, .d (.lit c)), (46, 4, .i j), (47, 5, .bp O 0 3), (48, 6, .i n.Player)], ?_, ?_⟩
     · exact dk [0, 1, 2, 3, 0, 0, 6] ⟨go (zm (Z61 q s)),
 go fun S hS => bJ (aF rfl) (aV hS rfl),
 go (zf rfl mB),
 go (zl 1 rfl rfl rfl cS),
 go (zm (.i j)),
 go (zf rfl wO),
 go (zl 3 rfl rfl rfl aS), trivial⟩
     · exact bZ (aM rfl (aM rfl (aM rfl (aR ⟨rfl, rfl, rfl, rfl, rfl, rfl, rfl, trivial⟩))))
    ·obtain ⟨a5, P, h⟩ := eS h;refine to (mC (m := 0) (aF rfl) rfl rfl rfl bM.of (bU aG P)) ?_;refine to (aAl (l := 0) rfl rfl (qQ aG P) rfl rfl rfl sizeOf3 rfl (aF rfl) (Nat.le_of_ble_eq_true rfl) (rows' := ((y.set j.toNat n.Player)).map aG) (aHd _ _ _ _ rfl)) ?_;refine aB (aC (aA (tm (.d (.lit N)) (tfl 3 rfl rfl wO rfl aS (to (fH (aF rfl) bM rfl rfl (rows := ([n.Player]).map aG) rfl (bR (f := aG) fun _ => rfl) rfl (by decide)) ?_)))));obtain ⟨a0, a1, h⟩ := eS h;refine bB rfl (iG (i := 4) (aF rfl) bM rfl rfl rfl (fun _ => rfl) a1 rfl) ?_;rintro _ ⟨T, rfl⟩;refine ta (.d (.lit T)) (aB (aA (tm (.d (Z31 g)) (to (sla 3 (aO n) rfl rfl pB) (to (aRm (av := (fun v : Int => AV.i v)) (l := o) (a := n) (m := 2) aKg underlying260 rfl rfl rfl rfl (nJ (enc := aO) n rfl)) ?_)))));refine jD ?_;refine aC (aC (aA (to (sla 3 (aO n) rfl rfl pB) (aB (aA ?_)))));refine bB rfl (cD (zs := [.j 0, .j 0, .j 0, .j 0, .j 0]) (aF rfl) zeroValue95 rfl rfl) ?_;rintro _ ⟨a2, rfl⟩;refine to (sst 5 rfl rfl sizeOf95 (aO n)) (aB (aA (tm (Z61 q s) (tm (.d (Z31 g)) (tm (.i j) ?_)))));refine eT (aT [1, 0, 2, 3, 4, 5] rfl rfl (le_refl _)) ?_;refine bB rfl (iM (passed := [.box q s [.j e.Rounds, .sl 1 (Z14 e), .lit c, .lit (.map (some t))], .arr c 3 1 ((y.set j.toNat n.Player).map aG), .map g ((nP n o).map fun p : aE × Int => ((fun a : aE => Value.agg ((aO a).map bN).toArray) p.1, (fun v : Int => AV.i v) p.2)) (yF n o F) G]) (aF rfl) rfl (.func _ _ call220) rfl rfl (tT e (y.set j.toNat n.Player) (nP n o) j h)) ?_;rintro _ ⟨_, _, ⟨J, h, rfl, rfl⟩, rfl⟩;refine tm (.tup [.agg (aO J.1), .b J.2]) (to (sex rfl rfl) (to (sex rfl rfl) (to (sst 5 rfl rfl sizeOf95 (aO J.1)) (ta (.b J.2) (aB ?_)))));exact ⟨(J.2, (y.set j.toNat n.Player), (nP n o), J.1, a0, (yF n o F), G, a2, T), h, aT [1, 0, 2, 5, 4] rfl rfl (aM rfl (aM rfl (aM rfl (aR ⟨rfl, rfl, rfl, rfl, rfl, trivial⟩))))⟩
  ·refine cK ?_;refine .inl ⟨rfl, ?_⟩;simp only [kD] at h;simp only [kC] at h;refine aA (to (sar rfl rfl rfl) (tm (.i (w64 (j + 1))) (aB ?_)));exact ⟨(w64 (j + 1), y, o, E, F, G, N), h, aT [0, 1, 2, 4] rfl rfl (aM rfl (aM rfl (aR ⟨rfl, rfl, rfl, trivial⟩)))⟩
 ·refine cK ?_;refine .inl ⟨rfl, ?_⟩;simp only [kB] at h;refine aC (aA (tm (.d (Z31 g)) (to (aRo (m := 2) (aF rfl) underlying260 rfl rfl) ?_)));refine to (scm rfl rfl rfl) (ta (.b (decide ((u.length : Int) = 0))) (aB ?_));refine bK (aT [1, 0, 2, 3] rfl rfl (le_refl _)) ?_;exact cA ⟨rfl, _, [.box q s [.j e.Rounds, .sl 1 (Z14 e), .lit c, .lit (.map (some t))], .arr c 3 1 (B.map aG), .map g (u.map fun p : aE × Int => ((fun a : aE => Value.agg ((aO a).map bN).toArray) p.1, (fun v : Int => AV.i v) p.2)) L M], [.arr w7 3 1 (H.map aG)], _, .one (.tmp 4 (v := .b (decide ((u.length : Int) = 0))) rfl), .refl _, .same _, (decide ((u.length : Int) = 0), B, u), L, M, h, rfl, rfl⟩

theorem nZ (a : Int) (b : Int) {r : aD} (h : lU a b = some r) : Fn Tryz.prog 56 [.i a, .i b] (.agg (aH r)) := by
 unfold lU at h;refine iP func56 rfl (rs := [.cell 4 143]) results56 ntmps56 (Nat.le_of_ble_eq_true rfl) ?_;refine aC (aA ?_);refine bB rfl (cD (zs := [.j 0, .j 0]) (aF rfl) zeroValue143 rfl rfl) ?_;rintro _ ⟨b1, rfl⟩;refine aB (aC (aA (tm (.i a) (tm (.i b) (tm (.i a) (to (sar rfl rfl rfl) ?_))))));obtain ⟨u2, h3, h⟩ := bns h;refine to (aNz (aF rfl) rfl rfl (aIz h3)) ?_;refine to (dG (aF rfl) wF (zs := [.j 0, .j 0]) rfl rfl rfl rfl (es := [.j a, .j (Z43 b a)]) rfl) ?_;refine to (sst 0 rfl rfl sizeOf143 (aH (aD.mk a (Z43 b a)))) (aB ?_);obtain rfl := sIn h;exact cA ⟨rfl, _, [.box b1 0 (aH (aD.mk a (Z43 b a)))], .one (.cell 4 143 rfl (i := 0) rfl iI (es := (aH (aD.mk a (Z43 b a)))) rfl rfl), .refl _, .same _⟩

theorem tV (g : aJ) (o : List Int) (y : List (aD × Int)) (s : Int) (u : Int) {r : Bool × (List (aD × Int))} {j n : Nat} {e : Value} {f : Nat} {w : List Nat} {x : Nat} (h : jY g o y s u = some r) : dN Tryz.prog 175 [.bp j n 0, .i s, .i u] [.box j n [.j g.Rounds, .sl 1 (Z14 g), .lit e, .lit (.map (some f))], .arr e 3 1 (o.map aG), .map f (y.map fun p : aD × Int => ((fun a : aD => Value.agg ((aH a).map bN).toArray) p.1, (fun v : Int => AV.i v) p.2)) w x] (fun r' o' => ∃ (A : List Nat) (H : Nat), r' = .b r.1 ∧ o' = [.box j n [.j g.Rounds, .sl 1 (Z14 g), .lit e, .lit (.map (some f))], .arr e 3 1 (o.map aG), .map f (r.2.map fun p : aD × Int => ((fun a : aD => Value.agg ((aH a).map bN).toArray) p.1, (fun v : Int => AV.i v) p.2)) A H]) := by
 unfold jY at h;refine jG func175 rfl (rs := [.tmp 6]) results175 ntmps175 (Nat.le_of_ble_eq_true rfl) ?_;refine aC (aA (ta Z6 (aB (aC (aC (aA (tm (.i u) (to (sar rfl rfl rfl) (tm (.i 0) (aB (bT ?_)))))))))));refine cW (S := Int × (List (aD × Int)) × (List Nat) × Nat) [0, 1, 12] (fun s1 => [(13, .i s1.1)]) (fun s1 => [.arr e 3 1 (o.map aG), .map f (s1.2.1.map fun p : aD × Int => ((fun a : aD => Value.agg ((aH a).map bN).toArray) p.1, (fun v : Int => AV.i v) p.2)) s1.2.2.1 s1.2.2.2, .box j n [.j g.Rounds, .sl 1 (Z14 g), .lit e, .lit (.map (some f))]]) (fun k s1 => fN s (w64 (u + 1)) o g k s1.1 s1.2.1) (fun _ => rfl) (0, y, w, x) h (aT [1, 2, 0] rfl rfl (aM rfl (aR ⟨rfl, rfl, rfl, trivial⟩))) ?_;rintro k4 ⟨t, c, A, C⟩ h;simp only [fN] at h;refine aC (aA (to (scm rfl rfl rfl) (aB (aC ?_))));refine tih h (fun c5 h => ?_) (fun c5 h => ?_)
 ·refine aY (aC (bT (aC (aA (tm (.i t) (ta (.i t) (aB (aC (aA (tm (.i t) (tm (.i s) ?_)))))))))));obtain ⟨r6, h7, h⟩ := bns h;refine to (eM (aF rfl) (.func _ _ call56) rfl rfl (nZ _ _ h7)) ?_;refine bB rfl (cD (zs := [.j 0, .j 0]) (aF rfl) zeroValue143 rfl rfl) ?_;rintro _ ⟨b8, rfl⟩;refine to (sst 3 rfl rfl sizeOf143 (aH r6)) (aB (aC (aC ?_)));refine dJ mix 10 [0, 1, 8, 12, 13] [(9, .i (cG r6 0 c)), (27, .b (cX r6 c))] ?_ ?_
  ·refine ⟨[(20, 0, .bp j n 0), (21, 1, .bp j n 0), (22, 2, .bp j n 3), (23, 3, .d (Z31 f)), (24, 4, .agg (aH r6)), (25, 5, .tup [.i (cG r6 0 c), .b (cX r6 c)]), (19, 6, .tup [.i (cG r6 0 c), .b (cX r6 c)]), (26, 7, .i (cG r6 0 c)), (27, 8, .b (cX r6 c)), (9, 9, .i (cG r6 0 c))], ?_, ?_⟩
   · exact dk [0, 1, 2, 3, 0, 405, 6, 7, 7, 8] ⟨go (zm (Z61 j n)),
 go fun S hS => bJ (aF rfl) (aV hS rfl),
 go (zf rfl xL),
 go (zl 2 rfl rfl rfl aCv),
 go (zla 3 (aH r6) rfl rfl iI),
 go fun S hS => aGm (av := (fun v : Int => AV.i v)) (l := c) (z := 0) (a := r6) (m := 1) (aF rfl) wA underlying139 zeroValue3 (fun _ _ => .d (.lit _ rfl)) (aV hS rfl) rfl rfl (aV hS rfl) (nJ (enc := aH) r6 rfl),
 go (zm (.tup [.i (cG r6 0 c), .b (cX r6 c)])),
 go (zex rfl rfl),
 go (zex rfl rfl),
 go (za (.i (cG r6 0 c))), trivial⟩
   · exact bZ (aM rfl (aM rfl (aR ⟨rfl, rfl, rfl, rfl, rfl, trivial⟩)))
  ·refine ta (.b (cX r6 c)) (aB (aC (aA (tm (.b (cX r6 c)) (tm (.b (cX r6 c)) ?_)))));obtain ⟨b9, B, h⟩ := bns h;refine aW 10 [0, 1, 8, 12, 13] 39 b9 ?_ ?_
   ·refine bch B (fun q B => ?_) (fun q B => ?_)
    ·refine tk q (sm (.i (cG r6 0 c))) (tk q (sm (Z61 j n)) (tk q (bJ (aF rfl) rfl) ?_));refine tkl 2 q rfl rfl mB rfl cS (tk q (sm (.i s)) ?_);obtain ⟨I, F, B⟩ := bns B;refine tk q (mC (m := 0) (aF rfl) rfl rfl rfl bM.of (bU aG F)) ?_;refine tk q (oI (aF rfl) rfl (m := 0) rfl (qQ aG F) rfl aS) ?_;refine tk q (scm rfl rfl rfl) (to (spt (.b (!decide ((cG r6 0 c) = I))) q) ?_);obtain rfl := sIn B;refine aB (aI rfl ⟨rfl, rfl, rfl, rfl, rfl, trivial⟩ rfl)
    ·refine tp q (tp q (tp q (tp q (tp q (tp q (tp q (tp q (tp q (to (spf Z6 q) ?_)))))))));obtain rfl := sIn B;refine aB (aI rfl ⟨rfl, rfl, rfl, rfl, rfl, trivial⟩ rfl)
   ·refine aB ?_;refine tih h (fun J h => ?_) (fun J h => ?_)
    ·refine aC (aA (ta Z6 (aB ?_)));obtain rfl := sIn h;refine bK (aT [2, 0, 1, 3] rfl rfl (le_refl _)) ?_;exact cA ⟨rfl, _, [.box j n [.j g.Rounds, .sl 1 (Z14 g), .lit e, .lit (.map (some f))], .arr e 3 1 (o.map aG), .map f (c.map fun p : aD × Int => ((fun a : aD => Value.agg ((aH a).map bN).toArray) p.1, (fun v : Int => AV.i v) p.2)) A C], [.box b8 0 (aH r6)], _, .one (.tmp 6 (v := .b false) rfl), .refl _, .same _, A, C, rfl, rfl⟩
    ·refine aY ?_;obtain ⟨E, G, h⟩ := bns h;refine dJ mix 12 [0, 1, 12, 13] [(43, .d (Z31 f)), (44, .agg (aH r6)), (51, .i E)] ?_ ?_
     ·refine ⟨[(40, 0, .bp j n 0), (41, 1, .bp j n 0), (42, 2, .bp j n 3), (43, 3, .d (Z31 f)), (44, 4, .agg (aH r6)), (45, 5, .bp j n 0), (46, 6, .bp j n 0), (47, 7, .bp j n 2), (48, 8, .d (.lit e)), (49, 9, .i s), (50, 10, .ep e 1 s.toNat 0), (51, 11, .i E)], ?_, ?_⟩
      · exact dk [0, 1, 2, 3, 0, 0, 6, 7, 8, 0, 910, 11] ⟨go (zm (Z61 j n)),
 go fun S hS => bJ (aF rfl) (aV hS rfl),
 go (zf rfl xL),
 go (zl 2 rfl rfl rfl aCv),
 go (zla 3 (aH r6) rfl rfl iI),
 go (zm (Z61 j n)),
 go fun S hS => bJ (aF rfl) (aV hS rfl),
 go (zf rfl mB),
 go (zl 2 rfl rfl rfl cS),
 go (zm (.i s)),
 go (zia 0 rfl rfl rfl bM.of (bU aG G)),
 go fun S hS => oI (aF rfl) (aV hS rfl) (m := 0) rfl (qQ aG G) rfl aS, trivial⟩
      · exact bZ (aM rfl (aM rfl (aM rfl (aR ⟨rfl, rfl, rfl, rfl, trivial⟩))))
     ·refine to (yI (av := (fun v : Int => AV.i v)) (l := c) (v := E) (a := r6) (m := 1) wA underlying139 rfl rfl rfl rfl (nJ (enc := aH) r6 rfl) rfl rfl) ?_;refine jD ?_;refine aA (to (sar rfl rfl rfl) (tm (.i (w64 (t + 1))) (aB ?_)));exact ⟨(w64 (t + 1), (eP r6 E c), (mbs r6 c A C), (mck r6 c C)), h, aT [0, 1, 2] rfl rfl (aM rfl (aR ⟨rfl, rfl, rfl, trivial⟩))⟩
 ·refine cK ?_;refine .inl ⟨rfl, ?_⟩;simp only [oO] at h;refine aC (aA (ta Z17 (aB ?_)));obtain rfl := sIn h;refine bK (aT [2, 0, 1] rfl rfl (le_refl _)) ?_;exact cA ⟨rfl, _, [.box j n [.j g.Rounds, .sl 1 (Z14 g), .lit e, .lit (.map (some f))], .arr e 3 1 (o.map aG), .map f (c.map fun p : aD × Int => ((fun a : aD => Value.agg ((aH a).map bN).toArray) p.1, (fun v : Int => AV.i v) p.2)) A C], [], _, .one (.tmp 6 (v := .b true) rfl), .refl _, .same _, A, C, rfl, rfl⟩

theorem aFi (j : aJ) (P : List aE) {Q : ((Option aX) × Bool) → Prop} (h : pD j P Q) : dN Tryz.prog 115 [.agg (bF j), .d (Z20 P)] [] (fun r' o' => ∃ (r : (Option aX) × Bool), Q r ∧ r' = .tup [cN bA r.1, .b r.2] ∧ o' = []) := by
 unfold pD at h;refine jG func115 rfl (rs := [.tmp 4, .tmp 5]) results115 ntmps115 (Nat.le_of_ble_eq_true rfl) ?_;refine aC (aA ?_);refine bB rfl (cO (v := .agg (bF j)) (aF rfl) rfl rfl rfl) ?_;rintro _ ⟨b1, rfl⟩;refine ta (cN bA (none : Option aX)) (ta Z6 (aB (aC ?_)));obtain ⟨r3, h4, h⟩ := eS h;refine fZ mix 5 [1] (fun X2 => [(19, .agg (bF j)), (22, .d (.lit (X2 3).v)), (23, .d (.lit (.map (some (X2 4).b))))]) (fun X2 => [.box b1 0 (bF j), .arr (X2 3).v 3 1 (r3.map aG), .map (X2 4).b (([] : List (aD × Int)).map fun p : aD × Int => ((fun a : aD => Value.agg ((aH a).map bN).toArray) p.1, (fun v : Int => AV.i v) p.2)) ([]) 0]) ?_ ?_
 ·refine ⟨2, fun X2 => [(19, 0, .agg (bF j)), (20, 1, .bp b1 0 1), (21, 2, .d (.sl 1 (Z14 j))), (22, 3, .d (.lit (X2 3).v)), (23, 4, .d (.lit (.map (some (X2 4).b))))], fun X2 => [([], .box b1 0 (bF j)), ([(3, .arr (X2 3).v 3 1 (r3.map aG))], nob), ([(4, .map (X2 4).b (([] : List (aD × Int)).map fun p : aD × Int => ((fun a : aD => Value.agg ((aH a).map bN).toArray) p.1, (fun v : Int => AV.i v) p.2)) ([]) 0)], nob)], ?_, ?_⟩
  · exact xok [(0, 0), (0, 4), (2, 4), (3, 0), (0, 0)] ⟨fun _ _ w _ k => xp w (yla k 0 (bF j) rfl (og k rfl rfl) nX),
 fun _ _ w _ k => xp w (yf k rfl oW),
 fun _ _ w _ k => xp w (yl k 0 rfl (og k rfl rfl) rfl cS),
 fun X2 S hw hi hS => oG (X := X2) (p := 1) (v := fun x => .d (.lit x.v)) (mo := fun x => .arr x.v 3 1 (r3.map aG)) hS hi rfl rfl (fun _ => rfl) hw (fun _ => rfl) (fun _ => rfl) (fun _ => rfl) (fun _ => ⟨rfl, rfl, .inr rfl, ⟨rfl, rfl, .inr rfl, ⟨rfl, rfl, .inr rfl, ⟨rfl, rfl, .inl rfl, ⟨rfl, rfl, .inr rfl, trivial⟩⟩⟩⟩⟩) (fun _ => ⟨trivial, rfl, ⟨⟨rfl, .inl rfl, trivial⟩, rfl, ⟨⟨rfl, .inr rfl, trivial⟩, rfl, trivial⟩⟩⟩) (gV (aAf (aF rfl) (.func _ _ call93) (ev2 (aV hS rfl) evn) rfl (mQ _ h4)) (by rintro _ ⟨w, rfl⟩; exact ⟨⟨0, w⟩, aT [0, 3, 2] rfl rfl (le_refl _)⟩)),
 fun X2 S hw hi hS => oG (X := X2) (p := 2) (v := fun x => .d (.lit (.map (some x.b)))) (mo := fun x => .map x.b (([] : List (aD × Int)).map fun p : aD × Int => ((fun a : aD => Value.agg ((aH a).map bN).toArray) p.1, (fun v : Int => AV.i v) p.2)) ([]) 0) hS hi rfl rfl (fun _ => rfl) hw (fun _ => rfl) (fun _ => rfl) (fun _ => rfl) (fun _ => ⟨rfl, rfl, .inr rfl, ⟨rfl, rfl, .inr rfl, ⟨rfl, rfl, .inr rfl, ⟨rfl, rfl, .inr rfl, ⟨rfl, rfl, .inl rfl, trivial⟩⟩⟩⟩⟩) (fun _ => ⟨trivial, rfl, ⟨⟨rfl, .inr rfl, trivial⟩, rfl, ⟨⟨rfl, .inl rfl, trivial⟩, rfl, trivial⟩⟩⟩) (gV (xT (aF rfl)) (by rintro _ ⟨w, rfl⟩; exact ⟨⟨w, undef⟩, aT [0, 1, 3] rfl rfl (le_refl _)⟩)), trivial⟩
  · exact fun X2 => bZ (aM rfl (aM rfl (aM rfl (aR ⟨rfl, trivial⟩))))
 ·intro X2;refine to (dG (aF rfl) aTh (zs := [.j 0, .sl 1 ((([] : List Int)).map aG), .sl 1 ((([] : List Int)).map aG), .lit (.map none)]) rfl rfl rfl rfl (es := [.j j.Rounds, .sl 1 (Z14 j), .lit (X2 3).v, .lit (.map (some (X2 4).b))]) rfl) ?_;refine bB rfl (cO (v := .agg [.j j.Rounds, .sl 1 (Z14 j), .lit (X2 3).v, .lit (.map (some (X2 4).b))]) (aF rfl) rfl rfl rfl) ?_;rintro _ ⟨b5, rfl⟩;refine ta (.bp b5 0 0) (aB (aC (aA ?_)));refine bB rfl (xT (aF rfl)) ?_;rintro _ ⟨r6, rfl⟩;refine bB rfl (xT (aF rfl)) ?_;rintro _ ⟨r7, rfl⟩;refine ta (.d (.lit (.map (some r6)))) (ta (.d (.lit (.map (some r7)))) (aB (aC (aC (aA (tm (.d (Z20 P)) (to (sle rfl xV.of) (tm (.i 0) (aB (bT ?_))))))))));refine sI [6, 7, 8, 28, 29] (fun (s8 : Int × (List (aE × Int)) × (List (aD × aE)) × (List Nat) × Nat × (List Nat) × Nat) => [(30, .i s8.1)]) (fun (s8 : Int × (List (aE × Int)) × (List (aD × aE)) × (List Nat) × Nat × (List Nat) × Nat) => [.arr (X2 3).v 3 1 (r3.map aG), .map (X2 4).b (([] : List (aD × Int)).map fun p : aD × Int => ((fun a : aD => Value.agg ((aH a).map bN).toArray) p.1, (fun v : Int => AV.i v) p.2)) ([]) 0, .box b5 0 [.j j.Rounds, .sl 1 (Z14 j), .lit (X2 3).v, .lit (.map (some (X2 4).b))], .map r6 (s8.2.1.map fun p : aE × Int => ((fun a : aE => Value.agg ((aO a).map bN).toArray) p.1, (fun v : Int => AV.i v) p.2)) s8.2.2.2.1 s8.2.2.2.2.1, .map r7 (s8.2.2.1.map fun p : aD × aE => ((fun a : aD => Value.agg ((aH a).map bN).toArray) p.1, (fun v : aE => AV.agg (aO v)) p.2)) s8.2.2.2.2.2.1 s8.2.2.2.2.2.2]) (fun (k : Nat) (s8 : Int × (List (aE × Int)) × (List (aD × aE)) × (List Nat) × Nat × (List Nat) × Nat) => fK Q P (P.length : Int) r3 ([] : List (aD × Int)) j k s8.1 s8.2.1 s8.2.2.1) (fun _ h => h) (0, ([] : List (aE × Int)), ([] : List (aD × aE)), [], 0, [], 0) h (aT [1, 2, 3, 4, 5] rfl rfl (aM rfl (aR ⟨rfl, rfl, rfl, rfl, rfl, trivial⟩))) ?_;rintro d7 ⟨H, g, e, I, y, B, s⟩ h;simp only [fK] at h;refine aC (aA (to (scm rfl rfl rfl) (aB (aC ?_))));refine tip h (fun c0 h => ?_) (fun c0 h => ?_)
  ·refine aY (aC (bT (aC (aA ?_))));obtain ⟨c, c1, h⟩ := eS h;refine to (six rfl rfl xV.of (bU aO c1)) (to (yM (aO c) rfl pB) ?_);refine bB rfl (cD (zs := [.j 0, .j 0, .j 0, .j 0, .j 0]) (aF rfl) zeroValue95 rfl rfl) ?_;rintro _ ⟨a0, rfl⟩;refine to (sst 5 rfl rfl sizeOf95 (aO c)) (aB (aC (aC (aA (tfl 5 rfl rfl aEk rfl aS (to (scm rfl rfl rfl) (aB ?_)))))));refine tip h (fun c2 h => ?_) (fun c2 h => ?_)
   ·refine aC ?_;refine fZ mix 6 [6, 7, 8, 28, 29, 30] (fun L => [(37, .d (.lit (.map (some r6)))), (40, .i (w64 ((cG c 0 g) + 1))), (42, .i (pG c g I y))]) (fun L => [.arr (X2 3).v 3 1 (r3.map aG), .map (X2 4).b (([] : List (aD × Int)).map fun p : aD × Int => ((fun a : aD => Value.agg ((aH a).map bN).toArray) p.1, (fun v : Int => AV.i v) p.2)) ([]) 0, .box b5 0 [.j j.Rounds, .sl 1 (Z14 j), .lit (X2 3).v, .lit (.map (some (X2 4).b))], .map r6 ((nQ c 0 g).map fun p : aE × Int => ((fun a : aE => Value.agg ((aO a).map bN).toArray) p.1, (fun v : Int => AV.i v) p.2)) (mbs c g I y) (mck c g y), .map r7 (e.map fun p : aD × aE => ((fun a : aD => Value.agg ((aH a).map bN).toArray) p.1, (fun v : aE => AV.agg (aO v)) p.2)) B s, .box a0 0 (aO c)]) ?_ ?_
    ·refine ⟨0, fun L => [(37, 0, .d (.lit (.map (some r6)))), (38, 1, .agg (aO c)), (39, 2, .i (cG c 0 g)), (40, 3, .i (w64 ((cG c 0 g) + 1))), (41, 4, .tup [.i (cG c 0 g), .i (pG c g I y)]), (42, 5, .i (pG c g I y))], fun L => [([], .arr (X2 3).v 3 1 (r3.map aG)), ([], .map (X2 4).b (([] : List (aD × Int)).map fun p : aD × Int => ((fun a : aD => Value.agg ((aH a).map bN).toArray) p.1, (fun v : Int => AV.i v) p.2)) ([]) 0), ([], .box b5 0 [.j j.Rounds, .sl 1 (Z14 j), .lit (X2 3).v, .lit (.map (some (X2 4).b))]), ([(4, .map r6 ((nQ c 0 g).map fun p : aE × Int => ((fun a : aE => Value.agg ((aO a).map bN).toArray) p.1, (fun v : Int => AV.i v) p.2)) (mbs c g I y) (mck c g y))], .map r6 (g.map fun p : aE × Int => ((fun a : aE => Value.agg ((aO a).map bN).toArray) p.1, (fun v : Int => AV.i v) p.2)) I y), ([], .map r7 (e.map fun p : aD × aE => ((fun a : aD => Value.agg ((aH a).map bN).toArray) p.1, (fun v : aE => AV.agg (aO v)) p.2)) B s), ([], .box a0 0 (aO c))], ?_, ?_⟩
     · exact xok [(0, 5), (0, 5), (102, 0), (3, 0), (102, 0), (5, 0)] ⟨fun _ _ w _ k => xp w (ym k (.d (.lit (.map (some r6))))),
 fun _ _ w _ k => xp w (yla k 5 (aO c) rfl (og k rfl rfl) pB),
 fun _ _ w _ k => xp w (aPp (av := (fun v : Int => AV.i v)) (l := g) (z := 0) (a := c) (m := 3) (aF rfl) aKg underlying260 zeroValue3 (fun _ _ => .d (.lit _ rfl)) (aV k rfl) (og2 rfl) rfl (aV k rfl) (nJ (enc := aO) c rfl)),
 fun _ _ w _ k => xp w (yar k rfl rfl rfl),
 fun L S hw hi hS => aQd (X := L) (p := 3) hS rfl rfl rfl (hw L) rfl rfl rfl (gV (aNw (av := (fun v : Int => AV.i v)) (l := g) (z := 0) (a := c) (m := 3) (aF rfl) aKg underlying260 zeroValue3 (fun _ _ => .d (.lit _ rfl)) (aV hS rfl) (og hS rfl rfl) rfl (aV hS rfl) (nJ (enc := aO) c rfl)) (by rintro _ rfl; exact Ent.refl _)),
 fun _ _ w _ k => xp w (yex k rfl rfl), trivial⟩
     · exact fun L => bZ (aM rfl (aM rfl (aM rfl (aR ⟨rfl, rfl, rfl, rfl, rfl, rfl, trivial⟩))))
    ·intro L;refine to (aIu (kv := (fun a : aE => Value.agg ((aO a).map bN).toArray)) (av := (fun v : Int => AV.i v)) (l := g) (z := 0) (v := w64 ((cG c 0 g) + 1)) (a := c) (m := 3) rfl rfl rfl rfl rfl) ?_;refine aB ?_;refine cK ?_;refine .inl ⟨rfl, ?_⟩;refine aA (to (sar rfl rfl rfl) (tm (.i (w64 (H + 1))) (aB ?_)));exact ⟨(w64 (H + 1), (eP c (w64 ((cG c 0 g) + 1)) g), e, (mbs c g I y), (mck c g y), B, s), h, aT [0, 1, 2, 3, 4] rfl rfl (aM rfl (aR ⟨rfl, rfl, rfl, rfl, rfl, trivial⟩))⟩
   ·refine aY (aC (aA (tfl 5 rfl rfl zQ rfl aS (tfl 5 rfl rfl sC rfl aS (to (dG (aF rfl) wF (zs := [.j 0, .j 0]) rfl rfl rfl rfl (es := [.j c.Round, .j c.Place]) rfl) ?_)))));refine bB rfl (cD (zs := [.j 0, .j 0]) (aF rfl) zeroValue143 rfl rfl) ?_;rintro _ ⟨c3, rfl⟩;refine to (sst 6 rfl rfl sizeOf143 (aH (aD.mk c.Round c.Place))) (aB (aC (aC (aA (tm (.d (.lit (.map (some r7)))) (to (sla 6 (aH (aD.mk c.Round c.Place)) rfl rfl iI) (to (aGm (av := (fun v : aE => AV.agg (aO v))) (l := e) (z := (aE.mk 0 0 0 0 0)) (a := (aD.mk c.Round c.Place)) (m := 4) (aF rfl) wA underlying261 zeroValue95 (fun _ _ => .agg (aBq rfl)) rfl rfl rfl rfl (nJ (enc := aH) (aD.mk c.Round c.Place) rfl)) ?_)))))));refine tm (.tup [.agg (aO (cG (aD.mk c.Round c.Place) (aE.mk 0 0 0 0 0) e)), .b (cX (aD.mk c.Round c.Place) e)]) (to (sex rfl rfl) (to (sex rfl rfl) ?_));refine bB rfl (cD (zs := [.j 0, .j 0, .j 0, .j 0, .j 0]) (aF rfl) zeroValue95 rfl rfl) ?_;rintro _ ⟨c4, rfl⟩;refine to (sst 7 rfl rfl sizeOf95 (aO (cG (aD.mk c.Round c.Place) (aE.mk 0 0 0 0 0) e))) (ta (.b (cX (aD.mk c.Round c.Place) e)) (aB (aC (aA (tm (.b (cX (aD.mk c.Round c.Place) e)) (tm (.b (cX (aD.mk c.Round c.Place) e)) ?_))))));obtain ⟨c5, T, h⟩ := eS h;refine aW 4 [6, 7, 8, 10, 11, 28, 29, 30] 59 c5 ?_ ?_
    ·refine bch T (fun J T => ?_) (fun J T => ?_)
     ·refine tk J (sla 7 (aO (cG (aD.mk c.Round c.Place) (aE.mk 0 0 0 0 0) e)) rfl rfl pB) (tk J (sla 5 (aO c) rfl rfl pB) (tk J (aNx (a := (cG (aD.mk c.Round c.Place) (aE.mk 0 0 0 0 0) e)) (b := c) (aF rfl) rfl rfl rfl rfl Tryz.eqGuardType95 aOt) ?_));refine to (spt (.b (!decide ((cG (aD.mk c.Round c.Place) (aE.mk 0 0 0 0 0) e) = c))) J) ?_;obtain rfl := sIn T;refine aB (aI rfl ⟨rfl, rfl, rfl, rfl, rfl, rfl, rfl, rfl, trivial⟩ rfl)
     ·refine tp J (tp J (tp J (to (spf Z6 J) ?_)));obtain rfl := sIn T;refine aB (aI rfl ⟨rfl, rfl, rfl, rfl, rfl, rfl, rfl, rfl, trivial⟩ rfl)
    ·refine aB ?_;refine tip h (fun c6 h => ?_) (fun c6 h => ?_)
     ·refine aC (aA (ta (cN bA (none : Option aX)) (ta Z6 (aB ?_))));exact cA ⟨rfl, _, [], [.arr (X2 3).v 3 1 (r3.map aG), .map (X2 4).b (([] : List (aD × Int)).map fun p : aD × Int => ((fun a : aD => Value.agg ((aH a).map bN).toArray) p.1, (fun v : Int => AV.i v) p.2)) ([]) 0, .box b5 0 [.j j.Rounds, .sl 1 (Z14 j), .lit (X2 3).v, .lit (.map (some (X2 4).b))], .map r6 (g.map fun p : aE × Int => ((fun a : aE => Value.agg ((aO a).map bN).toArray) p.1, (fun v : Int => AV.i v) p.2)) I y, .map r7 (e.map fun p : aD × aE => ((fun a : aD => Value.agg ((aH a).map bN).toArray) p.1, (fun v : aE => AV.agg (aO v)) p.2)) B s, .box a0 0 (aO c), .box c3 0 (aH (aD.mk c.Round c.Place)), .box c4 0 (aO (cG (aD.mk c.Round c.Place) (aE.mk 0 0 0 0 0) e))], _, .two (.tmp 4 (v := cN bA (none : Option aX)) rfl) (.tmp 5 (v := .b false) rfl), .refl _, .same _, ((none : Option aX), false), h, rfl, rfl⟩
     ·refine aY (aA (tm (.d (.lit (.map (some r7)))) (to (sla 6 (aH (aD.mk c.Round c.Place)) rfl rfl iI) (to (sla 5 (aO c) rfl rfl pB) (to (yI (av := (fun v : aE => AV.agg (aO v))) (l := e) (v := c) (a := (aD.mk c.Round c.Place)) (m := 4) wA underlying261 rfl rfl rfl rfl (nJ (enc := aH) (aD.mk c.Round c.Place) rfl) rfl rfl) ?_)))));refine jD ?_;refine aA (to (sar rfl rfl rfl) (tm (.i (w64 (H + 1))) (aB ?_)));exact ⟨(w64 (H + 1), g, (eP (aD.mk c.Round c.Place) c e), I, y, (mbs (aD.mk c.Round c.Place) e B s), (mck (aD.mk c.Round c.Place) e s)), h, aT [0, 1, 2, 3, 4] rfl rfl (aM rfl (aR ⟨rfl, rfl, rfl, rfl, rfl, trivial⟩))⟩
  ·refine cK ?_;refine .inl ⟨rfl, ?_⟩;simp only [oL] at h;refine aC (aC (aA (tm (.bp b5 0 0) (tm (.d (.lit (.map (some r6)))) ?_))));refine eT (aT [2, 0, 3, 1, 4] rfl rfl (le_refl _)) ?_;refine bB rfl (iM (passed := [.box b5 0 [.j j.Rounds, .sl 1 (Z14 j), .lit (X2 3).v, .lit (.map (some (X2 4).b))], .arr (X2 3).v 3 1 (r3.map aG), .map r6 (g.map fun p : aE × Int => ((fun a : aE => Value.agg ((aO a).map bN).toArray) p.1, (fun v : Int => AV.i v) p.2)) I y]) (aF rfl) rfl (.func _ _ call174) rfl rfl (xZ j r3 g h)) ?_;rintro _ ⟨_, _, ⟨C, b6, b7, h, rfl, rfl⟩, rfl⟩;refine to (sn rfl) (aB ?_);refine tip h (fun c7 h => ?_) (fun c7 h => ?_)
   ·refine aC (aA (ta (cN bA (none : Option aX)) (ta Z6 (aB ?_))));exact cA ⟨rfl, _, [], [.box b5 0 [.j j.Rounds, .sl 1 (Z14 j), .lit (X2 3).v, .lit (.map (some (X2 4).b))], .arr (X2 3).v 3 1 (C.2.1.map aG), .map r6 (C.2.2.map fun p : aE × Int => ((fun a : aE => Value.agg ((aO a).map bN).toArray) p.1, (fun v : Int => AV.i v) p.2)) b6 b7, .map (X2 4).b (([] : List (aD × Int)).map fun p : aD × Int => ((fun a : aD => Value.agg ((aH a).map bN).toArray) p.1, (fun v : Int => AV.i v) p.2)) ([]) 0, .map r7 (e.map fun p : aD × aE => ((fun a : aD => Value.agg ((aH a).map bN).toArray) p.1, (fun v : aE => AV.agg (aO v)) p.2)) B s], _, .two (.tmp 4 (v := cN bA (none : Option aX)) rfl) (.tmp 5 (v := .b false) rfl), .refl _, .same _, ((none : Option aX), false), h, rfl, rfl⟩
   ·refine aY (aC (aC (aA (tm (.bp b5 0 0) (to (bJ (aF rfl) rfl) ?_)))));refine tfl 0 rfl rfl mB rfl cS (to (qZ (m := 1) (aF rfl) rfl rfl bM.of) ?_);refine tm (.i 0) (aB (bT ?_));refine sI [6, 8, 71, 72] (fun (M : Int × (List (aD × Int)) × (List Nat) × Nat) => [(73, .i M.1)]) (fun (M : Int × (List (aD × Int)) × (List Nat) × Nat) => [.arr (X2 3).v 3 1 (C.2.1.map aG), .map (X2 4).b (M.2.1.map fun p : aD × Int => ((fun a : aD => Value.agg ((aH a).map bN).toArray) p.1, (fun v : Int => AV.i v) p.2)) M.2.2.1 M.2.2.2, .box b5 0 [.j j.Rounds, .sl 1 (Z14 j), .lit (X2 3).v, .lit (.map (some (X2 4).b))], .map r7 (e.map fun p : aD × aE => ((fun a : aD => Value.agg ((aH a).map bN).toArray) p.1, (fun v : aE => AV.agg (aO v)) p.2)) B s]) (fun (k : Nat) (M : Int × (List (aD × Int)) × (List Nat) × Nat) => fL Q (C.2.1.length : Int) C.2.1 j e k M.1 M.2.1) (fun _ h => h) (0, ([] : List (aD × Int)), [], 0) h (aT [1, 3, 0, 4] rfl rfl (aM rfl (aR ⟨rfl, rfl, rfl, rfl, trivial⟩))) ?_;rintro d8 ⟨u, G, U, V⟩ h;simp only [fL] at h;refine aC (aA (to (scm rfl rfl rfl) (aB (aC ?_))));refine tip h (fun c8 h => ?_) (fun c8 h => ?_)
    ·refine aY (aC (bT (aC (aA (tm (.i u) ?_)))));obtain ⟨a8, a9, h⟩ := eS h;refine to (mC (m := 0) (aF rfl) rfl rfl rfl bM.of (bU aG a9)) ?_;refine to (oI (aF rfl) rfl (m := 0) rfl (qQ aG a9) rfl aS) ?_;refine ta (.i u) (ta (.i a8) (aB (aC (aA (tm (.i a8) (to (scm rfl rfl rfl) (aB ?_)))))));refine tip h (fun c9 h => ?_) (fun c9 h => ?_)
     ·refine aA (tm (.bp b5 0 0) (tm (.i u) (to (aLa (aF rfl) rfl rfl (.inr (.inr ⟨rfl, rfl⟩))) ?_)));obtain ⟨d0, d1, h⟩ := eS h;refine eT (aT [2, 0, 1, 3] rfl rfl (le_refl _)) ?_;refine bB rfl (iM (passed := [.box b5 0 [.j j.Rounds, .sl 1 (Z14 j), .lit (X2 3).v, .lit (.map (some (X2 4).b))], .arr (X2 3).v 3 1 (C.2.1.map aG), .map (X2 4).b (G.map fun p : aD × Int => ((fun a : aD => Value.agg ((aH a).map bN).toArray) p.1, (fun v : Int => AV.i v) p.2)) U V]) (aF rfl) rfl (.func _ _ call175) rfl rfl (tV j C.2.1 G (aDv u 1) 0 d1)) ?_;rintro _ ⟨_, _, ⟨b8, b9, rfl, rfl⟩, rfl⟩;refine jD ?_;refine aA (to (sar rfl rfl rfl) (tm (.i (w64 (u + 1))) (aB ?_)));exact ⟨(w64 (u + 1), d0.2, b8, b9), h, aT [1, 2, 0, 3] rfl rfl (aM rfl (aR ⟨rfl, rfl, rfl, rfl, trivial⟩))⟩
     ·refine dB ?_;refine aA (to (sar rfl rfl rfl) (tm (.i (w64 (u + 1))) (aB ?_)));exact ⟨(w64 (u + 1), G, U, V), h, aT [0, 1, 2, 3] rfl rfl (aM rfl (aR ⟨rfl, rfl, rfl, rfl, trivial⟩))⟩
    ·refine cK ?_;refine .inl ⟨rfl, ?_⟩;simp only [oM] at h;refine aC (aC (aA (tm (.d (.lit (.map (some r7)))) ?_)));refine bB rfl (aMp (m := 3) (aF rfl) underlying261 rfl rfl) ?_;rintro _ ⟨Z, d2, rfl⟩;have h := aBv h d2;refine aB (bT ?_);refine sI [6, 86] (fun (N : (List (aD × Int)) × (List Nat) × Nat × (List Nat)) => []) (fun (N : (List (aD × Int)) × (List Nat) × Nat × (List Nat)) => [.arr (X2 3).v 3 1 (C.2.1.map aG), .map (X2 4).b (N.1.map fun p : aD × Int => ((fun a : aD => Value.agg ((aH a).map bN).toArray) p.1, (fun v : Int => AV.i v) p.2)) N.2.1 N.2.2.1, .box b5 0 [.j j.Rounds, .sl 1 (Z14 j), .lit (X2 3).v, .lit (.map (some (X2 4).b))], .map r7 (e.map fun p : aD × aE => ((fun a : aD => Value.agg ((aH a).map bN).toArray) p.1, (fun v : aE => AV.agg (aO v)) p.2)) B s, .iter Z r7 s N.2.2.2 s]) (fun (k : Nat) (N : (List (aD × Int)) × (List Nat) × Nat × (List Nat)) => iS Q C.2.1 j e k N.1 (lJ e B N.2.2.2)) (fun _ h => h) (G, U, V, []) h (aT [0, 1, 2, 3, 4] rfl rfl (aR ⟨rfl, rfl, trivial⟩)) ?_;rintro d9 ⟨A, W, Y, K⟩ h;simp only [iS] at h;refine aC (aA ?_);refine bB rfl (aPq (kv := (fun a : aD => Value.agg ((aH a).map bN).toArray)) (av := (fun v : aE => AV.agg (aO v))) (l := e) (mi := 4) (mm := 3) (aF rfl) rfl rfl rfl) ?_;rintro _ (⟨d3, rfl⟩ | ⟨e0, a1, n, b0, rfl⟩)
     ·have h := h.1 d3;refine to (sex rfl rfl) (aB (aC ?_));refine vV rfl (fun b2 => ?_) (fun b2 => ?_)
      ·exact absurd b2 (by decide)
      ·refine cK ?_;refine .inl ⟨rfl, ?_⟩;simp only [rV] at h;refine aC (aA (tm (.bp b5 0 0) (ta (.bp b5 0 0) (ta Z17 (aB ?_)))));exact cA ⟨rfl, _, [], [.arr (X2 3).v 3 1 (C.2.1.map aG), .map (X2 4).b (A.map fun p : aD × Int => ((fun a : aD => Value.agg ((aH a).map bN).toArray) p.1, (fun v : Int => AV.i v) p.2)) W Y, .box b5 0 [.j j.Rounds, .sl 1 (Z14 j), .lit (X2 3).v, .lit (.map (some (X2 4).b))], .map r7 (e.map fun p : aD × aE => ((fun a : aD => Value.agg ((aH a).map bN).toArray) p.1, (fun v : aE => AV.agg (aO v)) p.2)) B s, .iter Z r7 s K s], _, .two (.tmp 4 (v := .bp b5 0 0) rfl) (.tmp 5 (v := .b true) rfl), .refl _, aFj (.cons (iE 2 rfl rfl (dvc (.same _) (dvc (.same _) (dvc (cJ 0 rfl (bR (f := aG) fun _ => rfl)) (dvc (aUl (kv := (fun a : aD => Value.agg ((aH a).map bN).toArray)) (av := (fun v : Int => AV.i v)) (l := A) (enc := aG) (agg := false) 1 rfl (fun _ _ => rfl) (fun _ => rfl)) dvn))))) (.cons (.same _) .nil)), ((some (aX.mk j C.2.1 A)), true), h, rfl, rfl⟩
     ·have h := aDj h b0;refine to (sex rfl rfl) (aB (aC ?_));refine vV rfl (fun b3 => ?_) (fun b3 => ?_)
      ·refine aY (bT (aC (aA (to (aMo (kv := (fun a : aD => Value.agg ((aH a).map bN).toArray)) (av := (fun v : aE => AV.agg (aO v))) (l := e) (mi := 4) (mm := 3) (ka := .agg (aH n.1)) (aF rfl) rfl rfl rfl b0 (fun _ _ => .agg (aBq rfl))) ?_))));refine to (sex rfl rfl) (to (sex rfl rfl) ?_);refine bB rfl (cD (zs := [.j 0, .j 0]) (aF rfl) zeroValue143 rfl rfl) ?_;rintro _ ⟨O, rfl⟩;refine bB rfl (cD (zs := [.j 0, .j 0, .j 0, .j 0, .j 0]) (aF rfl) zeroValue95 rfl rfl) ?_;rintro _ ⟨a2, rfl⟩;refine to (sst 5 rfl rfl sizeOf143 (aH n.1)) (to (sst 6 rfl rfl sizeOf95 (aO n.2)) (aB (aC ?_)));refine dJ mix 6 [6, 16, 86] [(95, .d (.lit (X2 3).v)), (97, .i n.2.Player)] ?_ ?_
       ·refine ⟨[(92, 0, .bp b5 0 0), (93, 1, .bp b5 0 0), (94, 2, .bp b5 0 2), (95, 3, .d (.lit (X2 3).v)), (96, 4, .bp a2 0 3), (97, 5, .i n.2.Player)], ?_, ?_⟩
        · exact dk [0, 1, 2, 3, 0, 5] ⟨go (zm (.bp b5 0 0)),
 go fun S hS => bJ (aF rfl) (aV hS rfl),
 go (zf rfl mB),
 go (zl 2 rfl rfl rfl cS),
 go (zf rfl wO),
 go (zl 6 rfl rfl rfl aS), trivial⟩
        · exact bZ (aM rfl (aM rfl (aR ⟨rfl, rfl, rfl, trivial⟩)))
       ·obtain ⟨o, d4, h⟩ := eS h;refine to (sc call117 (vA _ _ d4) (.cons (.d (cJ 0 rfl (bR (f := aG) fun _ => rfl))) (.cons (.same _) .nil))) (ta (.i o) (aB (aC ?_)));obtain ⟨a3, F, h⟩ := eS h;refine aFe (a3) (fun t => ?_) (fun t => ?_)
        ·have h := aMg t h;refine dJ mix 15 [6, 86] [(109, .b a3)] ?_ ?_
         ·refine bch F (fun q F => ?_) (fun q F => ?_)
          ·obtain rfl := sIn F;refine ⟨[(99, 0, .i o), (100, 1, .b (decide (o < 0))), (101, 2, .b (decide (o < 0))), (102, 3, .tup []), (103, 4, .tup []), (104, 5, .tup []), (105, 6, .tup []), (106, 7, .tup []), (107, 8, .tup []), (108, 9, .b true), (109, 10, .b (true)), (110, 11, .tup []), (111, 12, .tup []), (112, 13, .tup []), (113, 14, .tup [])], ?_, ?_⟩
           · exact dk [0, 1, 2, 3, 304, 3, 30506, 3, 30708, 309, 10, 11, 11, 11, 1114] ⟨go (zm (.i o)),
 go (zcm rfl rfl rfl),
 go (zm (.b (decide (o < 0)))),
 gp q,
 gp q,
 gp q,
 gp q,
 gp q,
 gp q,
 go (zpt Z17 q),
 go (zm Z60),
 gp t,
 gp t,
 gp t,
 gp t, trivial⟩
           · exact bZ (aM rfl (aR ⟨rfl, rfl, trivial⟩))
          ·obtain ⟨E, a4, F⟩ := bns F;obtain rfl := sIn F;refine ⟨[(99, 0, .i o), (100, 1, .b (decide (o < 0))), (101, 2, .b (decide (o < 0))), (102, 3, .bp O 0 0), (103, 4, .i n.1.round), (104, 5, .i o), (105, 6, .agg (aH E)), (106, 7, .agg (aH n.1)), (107, 8, .b (!decide (E = n.1))), (108, 9, .b (!decide (E = n.1))), (109, 10, .b (!decide (E = n.1))), (110, 11, .tup []), (111, 12, .tup []), (112, 13, .tup []), (113, 14, .tup [])], ?_, ?_⟩
           · exact dk [0, 1, 2, 3, 304, 3, 30506, 3, 30708, 309, 10, 11, 11, 11, 1114] ⟨go (zm (.i o)),
 go (zcm rfl rfl rfl),
 go (zm (.b (decide (o < 0)))),
 gt q (zf rfl nH),
 gt q (zl 5 rfl rfl rfl aS),
 gt q (zm (.i o)),
 gt q fun S hS => eM (aF rfl) (.func _ _ call56) (ev2 (aV hS rfl) (ev2 (aV hS rfl) evn)) rfl (nZ _ _ a4),
 gt q (zla 5 (aH n.1) rfl rfl iI),
 gt q fun S hS => aNx (a := E) (b := n.1) (aF rfl) (aV hS rfl) (aV hS rfl) rfl rfl Tryz.eqGuardType143 yS,
 go (zpf (.b (!decide (E = n.1))) q),
 go (zm (.b (!decide (E = n.1)))),
 gp t,
 gp t,
 gp t,
 gp t, trivial⟩
           · exact bZ (aM rfl (aR ⟨rfl, rfl, trivial⟩))
         ·refine tp t (tp t (to (spt Z17 t) (aB ?_)));refine vV rfl (fun b4 => ?_) (fun b4 => ?_)
          ·refine aC (aA (ta (cN bA (none : Option aX)) (ta Z6 (aB ?_))));exact cA ⟨rfl, _, [], [.arr (X2 3).v 3 1 (C.2.1.map aG), .map (X2 4).b (A.map fun p : aD × Int => ((fun a : aD => Value.agg ((aH a).map bN).toArray) p.1, (fun v : Int => AV.i v) p.2)) W Y, .box b5 0 [.j j.Rounds, .sl 1 (Z14 j), .lit (X2 3).v, .lit (.map (some (X2 4).b))], .map r7 (e.map fun p : aD × aE => ((fun a : aD => Value.agg ((aH a).map bN).toArray) p.1, (fun v : aE => AV.agg (aO v)) p.2)) B s, .iter Z r7 s (K ++ [a1]) s, .box O 0 (aH n.1), .box a2 0 (aO n.2)], _, .two (.tmp 4 (v := cN bA (none : Option aX)) rfl) (.tmp 5 (v := .b false) rfl), .refl _, .same _, ((none : Option aX), false), h, rfl, rfl⟩
          ·exact absurd b4 (by decide)
        ·have h := aMf t h;refine dJ mix 15 [6, 86] [(109, .b a3), (110, .bp b5 0 0), (111, .i o), (112, .bp O 0 0), (113, .i n.1.round)] ?_ ?_
         ·refine bch F (fun q F => ?_) (fun q F => ?_)
          ·obtain rfl := sIn F;refine ⟨[(99, 0, .i o), (100, 1, .b (decide (o < 0))), (101, 2, .b (decide (o < 0))), (102, 3, .tup []), (103, 4, .tup []), (104, 5, .tup []), (105, 6, .tup []), (106, 7, .tup []), (107, 8, .tup []), (108, 9, .b true), (109, 10, .b (true)), (110, 11, .bp b5 0 0), (111, 12, .i o), (112, 13, .bp O 0 0), (113, 14, .i n.1.round)], ?_, ?_⟩
           · exact dk [0, 1, 2, 3, 304, 3, 30506, 3, 30708, 309, 10, 11, 11, 11, 1114] ⟨go (zm (.i o)),
 go (zcm rfl rfl rfl),
 go (zm (.b (decide (o < 0)))),
 gp q,
 gp q,
 gp q,
 gp q,
 gp q,
 gp q,
 go (zpt Z17 q),
 go (zm Z60),
 gt t (zm (.bp b5 0 0)),
 gt t (zm (.i o)),
 gt t (zf rfl nH),
 gt t (zl 5 rfl rfl rfl aS), trivial⟩
           · exact bZ (aM rfl (aM rfl (aM rfl (aM rfl (aM rfl (aR ⟨rfl, rfl, trivial⟩))))))
          ·obtain ⟨E, a4, F⟩ := bns F;obtain rfl := sIn F;refine ⟨[(99, 0, .i o), (100, 1, .b (decide (o < 0))), (101, 2, .b (decide (o < 0))), (102, 3, .bp O 0 0), (103, 4, .i n.1.round), (104, 5, .i o), (105, 6, .agg (aH E)), (106, 7, .agg (aH n.1)), (107, 8, .b (!decide (E = n.1))), (108, 9, .b (!decide (E = n.1))), (109, 10, .b (!decide (E = n.1))), (110, 11, .bp b5 0 0), (111, 12, .i o), (112, 13, .bp O 0 0), (113, 14, .i n.1.round)], ?_, ?_⟩
           · exact dk [0, 1, 2, 3, 304, 3, 30506, 3, 30708, 309, 10, 11, 11, 11, 1114] ⟨go (zm (.i o)),
 go (zcm rfl rfl rfl),
 go (zm (.b (decide (o < 0)))),
 gt q (zf rfl nH),
 gt q (zl 5 rfl rfl rfl aS),
 gt q (zm (.i o)),
 gt q fun S hS => eM (aF rfl) (.func _ _ call56) (ev2 (aV hS rfl) (ev2 (aV hS rfl) evn)) rfl (nZ _ _ a4),
 gt q (zla 5 (aH n.1) rfl rfl iI),
 gt q fun S hS => aNx (a := E) (b := n.1) (aF rfl) (aV hS rfl) (aV hS rfl) rfl rfl Tryz.eqGuardType143 yS,
 go (zpf (.b (!decide (E = n.1))) q),
 go (zm (.b (!decide (E = n.1)))),
 gt t (zm (.bp b5 0 0)),
 gt t (zm (.i o)),
 gt t (zf rfl nH),
 gt t (zl 5 rfl rfl rfl aS), trivial⟩
           · exact bZ (aM rfl (aM rfl (aM rfl (aM rfl (aM rfl (aR ⟨rfl, rfl, trivial⟩))))))
         ·obtain ⟨a5, d5, h⟩ := eS h;refine eT (aT [2, 0, 1, 3, 4, 5, 6] rfl rfl (le_refl _)) ?_;refine aMt rfl rfl (aF rfl) rfl t (iM (passed := [.box b5 0 [.j j.Rounds, .sl 1 (Z14 j), .lit (X2 3).v, .lit (.map (some (X2 4).b))], .arr (X2 3).v 3 1 (C.2.1.map aG), .map (X2 4).b (A.map fun p : aD × Int => ((fun a : aD => Value.agg ((aH a).map bN).toArray) p.1, (fun v : Int => AV.i v) p.2)) W Y]) (aF rfl) rfl (.func _ _ call175) rfl rfl (tV j C.2.1 A o n.1.round d5)) ?_;rintro _ ⟨_, _, ⟨a6, a7, rfl, rfl⟩, rfl⟩;refine tk t (sn rfl) (to (spf (.b (!a5.1)) t) (aB ?_));refine tip h (fun d6 h => ?_) (fun d6 h => ?_)
          ·refine aC (aA (ta (cN bA (none : Option aX)) (ta Z6 (aB ?_))));exact cA ⟨rfl, _, [], [.box b5 0 [.j j.Rounds, .sl 1 (Z14 j), .lit (X2 3).v, .lit (.map (some (X2 4).b))], .arr (X2 3).v 3 1 (C.2.1.map aG), .map (X2 4).b (a5.2.map fun p : aD × Int => ((fun a : aD => Value.agg ((aH a).map bN).toArray) p.1, (fun v : Int => AV.i v) p.2)) a6 a7, .map r7 (e.map fun p : aD × aE => ((fun a : aD => Value.agg ((aH a).map bN).toArray) p.1, (fun v : aE => AV.agg (aO v)) p.2)) B s, .iter Z r7 s (K ++ [a1]) s, .box O 0 (aH n.1), .box a2 0 (aO n.2)], _, .two (.tmp 4 (v := cN bA (none : Option aX)) rfl) (.tmp 5 (v := .b false) rfl), .refl _, .same _, ((none : Option aX), false), h, rfl, rfl⟩
          ·refine dB ?_;exact ⟨(a5.2, a6, a7, (K ++ [a1])), h, aT [1, 2, 0, 3, 4] rfl rfl (aR ⟨rfl, rfl, trivial⟩)⟩
      ·exact absurd b3 (by decide)

theorem yP (a : aJ) (e : List aE) {Q : ((Option aX) × Int) → Prop} (h : kV a e Q) : dN Tryz.prog 53 [.agg (bF a), .d (Z20 e)] [] (fun r' o' => ∃ (r : (Option aX) × Int), Q r ∧ r' = .tup [cN bA r.1, .i r.2] ∧ o' = []) := by
 unfold kV at h;refine jG func53 rfl (rs := [.tmp 4, .tmp 5]) results53 ntmps53 (Nat.le_of_ble_eq_true rfl) ?_;refine aC (aA ?_);refine bB rfl (cO (v := .agg (bF a)) (aF rfl) rfl rfl rfl) ?_;rintro _ ⟨b1, rfl⟩;refine ta (cN bA (none : Option aX)) (ta (.i 0) (aB (aC (aC (aA (to (sla 0 (bF a) rfl rfl nX) ?_))))));obtain ⟨r2, h3, h⟩ := eS h;refine to (scr call111 (aDx _ h3)) (to (sn rfl) (aB ?_));refine tip h (fun c4 h => ?_) (fun c4 h => ?_)
 ·refine aC (aA (ta (cN bA (none : Option aX)) (ta (.i 70) (aB ?_))));exact cA ⟨rfl, _, [], [.box b1 0 (bF a)], _, .two (.tmp 4 (v := cN bA (none : Option aX)) rfl) (.tmp 5 (v := .i 70) rfl), .refl _, .same _, ((none : Option aX), 70), h, rfl, rfl⟩
 ·refine aY (aC (aC (aA (tm (.d (Z20 e)) (to (sle rfl xV.of) (to (scm rfl rfl rfl) (tm (.b (decide (60 < (e.length : Int)))) ?_)))))));obtain ⟨b5, h6, h⟩ := eS h;refine aW 4 [1, 2] 18 b5 ?_ ?_
  ·refine bch h6 (fun c h6 => ?_) (fun c h6 => ?_)
   ·refine tp c (tp c (tp c (to (spt Z17 c) ?_)));obtain rfl := sIn h6;refine aB (aI rfl ⟨rfl, rfl, trivial⟩ rfl)
   ·refine tk c (sm (.d (Z20 e))) (tk c (uW (aF rfl) rfl rfl) ?_);obtain ⟨f, g, h6⟩ := bns h6;refine tk c (sc call112 (tR _ _ 113 [.cp [.j a.Rounds, .sl 1 (Z14 a)]] call113 (fun _ _ h6 => aDy _ _ h6) g) (.cons (.same _) (.cons (aCr (.cons (iE 0 rfl rfl (dvc (.same _) (dvc (.same _) dvn))) .nil)) .nil))) (to (spf (.b f) c) ?_);obtain rfl := sIn h6;refine aB (aI rfl ⟨rfl, rfl, trivial⟩ rfl)
  ·refine aB ?_;refine tip h (fun c7 h => ?_) (fun c7 h => ?_)
   ·refine aC (aA (ta (cN bA (none : Option aX)) (ta (.i 71) (aB ?_))));exact cA ⟨rfl, _, [], [.box b1 0 (bF a)], _, .two (.tmp 4 (v := cN bA (none : Option aX)) rfl) (.tmp 5 (v := .i 71) rfl), .refl _, .same _, ((none : Option aX), 71), h, rfl, rfl⟩
   ·refine aY (aC (aA (to (sla 0 (bF a) rfl rfl nX) (tm (.d (Z20 e)) ?_))));refine bB rfl (wE (aF rfl) (.func _ _ call115) rfl rfl (aFi _ _ h)) ?_;rintro _ ⟨_, _, ⟨r8, h, rfl, rfl⟩, rfl⟩;refine tm (.tup [cN bA r8.1, .b r8.2]) (to (sex rfl rfl) (to (sex rfl rfl) (ta (cN bA r8.1) (ta (.b r8.2) (aB (aC (aC (aA (tm (.b r8.2) (to (sn rfl) (aB ?_)))))))))));refine tip h (fun c9 h => ?_) (fun c9 h => ?_)
    ·refine aC (aA (ta (cN bA (none : Option aX)) (ta (.i 72) (aB ?_))));exact cA ⟨rfl, _, [], [.box b1 0 (bF a)], _, .two (.tmp 4 (v := cN bA (none : Option aX)) rfl) (.tmp 5 (v := .i 72) rfl), .refl _, .same _, ((none : Option aX), 72), h, rfl, rfl⟩
    ·refine aY (aC (aA (tm (cN bA r8.1) (ta (cN bA r8.1) (ta (.i 0) (aB ?_))))));exact cA ⟨rfl, _, [], [.box b1 0 (bF a)], _, .two (.tmp 4 (v := cN bA r8.1) rfl) (.tmp 5 (v := .i 0) rfl), .refl _, .same _, (r8.1, 0), h, rfl, rfl⟩

theorem aBe (c : aX) (f : Int) {r : Int} (h : mH c f = some r) : Fn Tryz.prog 57 [.cp (bA c), .i f] (.i r) := by
 unfold mH at h;refine oT [.tmp 4] func57 results57 ntmps57 ?_;refine aC (aA (ta (.i 0) (aB (aC (aC (aA (tm (Z1 c) (to (eC (aF rfl) rfl) ?_))))))));refine to (sfc [.j c.Tree.Rounds, .sl 1 (Z28 c)] rfl uQ) (to (sfc [.j c.Tree.Rounds] rfl qL) (to (slc rfl aS) (tm (.i 0) (aB (bT ?_)))));refine cW (S := Int) [0, 1, 12] (fun s1 => [(13, .i s1)]) (fun s1 => []) (fun k s1 => gB c f c.Tree.Rounds k s1) (fun _ => rfl) (0) h (aT [] rfl rfl (aM rfl (aR ⟨rfl, rfl, rfl, trivial⟩))) ?_;rintro k2 e h;simp only [gB] at h;refine aC (aA (to (scm rfl rfl rfl) (aB (aC ?_))));refine tih h (fun c3 h => ?_) (fun c3 h => ?_)
 ·refine aY (aC (bT (aC (aA (tm (.i e) (ta (.i e) (aB (aC ?_))))))));obtain ⟨r4, h5, h⟩ := bns h;refine dJ mix 12 [0, 1, 5, 12, 13] [(6, .i (cG r4 0 c.won)), (26, .b (cX r4 c.won))] ?_ ?_
  ·refine ⟨[(17, 0, .cp [.j c.Tree.Rounds, .sl 1 (Z28 c), .sl 1 (Z49 c), .mp false (c.won.map fun p : aD × Int => ((fun a : aD => Value.agg ((aH a).map bN).toArray) p.1, aG p.2))]), (18, 1, .cp [.j c.Tree.Rounds, .sl 1 (Z28 c), .sl 1 (Z49 c), .mp false (c.won.map fun p : aD × Int => ((fun a : aD => Value.agg ((aH a).map bN).toArray) p.1, aG p.2))]), (19, 2, .cp [.mp false (c.won.map fun p : aD × Int => ((fun a : aD => Value.agg ((aH a).map bN).toArray) p.1, aG p.2))]), (20, 3, .d (.mp false (c.won.map fun p : aD × Int => ((fun a : aD => Value.agg ((aH a).map bN).toArray) p.1, aG p.2)))), (21, 4, .i e), (22, 5, .i f), (23, 6, .agg (aH r4)), (24, 7, .tup [.i (cG r4 0 c.won), .b (cX r4 c.won)]), (16, 8, .tup [.i (cG r4 0 c.won), .b (cX r4 c.won)]), (25, 9, .i (cG r4 0 c.won)), (26, 10, .b (cX r4 c.won)), (6, 11, .i (cG r4 0 c.won))], ?_, ?_⟩
   · exact dk [0, 1, 2, 3, 0, 0, 506, 407, 8, 9, 9, 10] ⟨go (zm (Z1 c)),
 go fun S hS => eC (aF rfl) (aV hS rfl),
 go (zfc [.mp false (c.won.map fun p : aD × Int => ((fun a : aD => Value.agg ((aH a).map bN).toArray) p.1, aG p.2))] rfl xL),
 go (zlc rfl aCv),
 go (zm (.i e)),
 go (zm (.i f)),
 go fun S hS => eM (aF rfl) (.func _ _ call56) (ev2 (aV hS rfl) (ev2 (aV hS rfl) evn)) rfl (nZ _ _ h5),
 go fun S hS => aAv (enc := aG) (agg := false) (l := c.won) (z := 0) (a := r4) (aF rfl) wA underlying139 zeroValue3 (fun _ _ => .d (.lit _ rfl)) (aV hS rfl) rfl rfl (aV hS rfl) (nJ (enc := aH) r4 rfl),
 go (zm (.tup [.i (cG r4 0 c.won), .b (cX r4 c.won)])),
 go (zex rfl rfl),
 go (zex rfl rfl),
 go (za (.i (cG r4 0 c.won))), trivial⟩
   · exact bZ (aM rfl (aM rfl (aR ⟨rfl, rfl, rfl, rfl, rfl, trivial⟩)))
  ·refine ta (.b (cX r4 c.won)) (aB (aC (aA (tm (.b (cX r4 c.won)) (tm (.b (cX r4 c.won)) ?_)))));obtain ⟨b6, h7, h⟩ := bns h;refine aW 10 [0, 1, 5, 12, 13] 38 b6 ?_ ?_
   ·refine bch h7 (fun c9 h7 => ?_) (fun c9 h7 => ?_)
    ·refine tk c9 (sm (.i (cG r4 0 c.won))) (tk c9 (sm (Z1 c)) (tk c9 (eC (aF rfl) rfl) ?_));refine tk c9 (sfc [.sl 1 (Z49 c)] rfl mB) (tk c9 (slc rfl cS) (tk c9 (sm (.i f)) ?_));obtain ⟨g, j, h7⟩ := bns h7;refine tk c9 (six rfl rfl bM.of (bU aG j)) (tk c9 (slc rfl aS) (tk c9 (scm rfl rfl rfl) (to (spt (.b (!decide ((cG r4 0 c.won) = g))) c9) ?_)));obtain rfl := sIn h7;refine aB (aI rfl ⟨rfl, rfl, rfl, rfl, rfl, trivial⟩ rfl)
    ·refine tp c9 (tp c9 (tp c9 (tp c9 (tp c9 (tp c9 (tp c9 (tp c9 (tp c9 (to (spf Z6 c9) ?_)))))))));obtain rfl := sIn h7;refine aB (aI rfl ⟨rfl, rfl, rfl, rfl, rfl, trivial⟩ rfl)
   ·refine aB ?_;refine tih h (fun c8 h => ?_) (fun c8 h => ?_)
    ·refine aC (aA (tm (.i e) (ta (.i e) (aB ?_))));obtain rfl := sIn h;exact rt
    ·refine dB ?_;refine aA (to (sar rfl rfl rfl) (tm (.i (w64 (e + 1))) (aB ?_)));exact ⟨(w64 (e + 1)), h, aT [] rfl rfl (aM rfl (aR ⟨rfl, rfl, rfl, trivial⟩))⟩
 ·refine cK ?_;refine .inl ⟨rfl, ?_⟩;simp only [pO] at h;refine aC (aA (tm (Z1 c) (to (eC (aF rfl) rfl) ?_)));refine to (sfc [.j c.Tree.Rounds, .sl 1 (Z28 c)] rfl uQ) (to (sfc [.j c.Tree.Rounds] rfl qL) (to (slc rfl aS) (ta (.i c.Tree.Rounds) (aB ?_))));obtain rfl := sIn h;exact rt

theorem tU (f : aX) (e : aD) (c : Int) {r : Int} (h : jX f e c = some r) : Fn Tryz.prog 142 [.cp (bA f), .agg (aH e), .i c] (.i r) := by
 unfold jX at h;refine oT [.tmp 6] func142 results142 ntmps142 ?_;refine aC (aA ?_);refine bB rfl (cO (v := .agg (aH e)) (aF rfl) rfl rfl rfl) ?_;rintro _ ⟨b1, rfl⟩;refine ta (.i 0) (aB (aC (aA (tfl 0 rfl rfl aHs rfl aS (to (sar rfl rfl rfl) (tm (.i c) (to (sar rfl rfl rfl) (ta (.i (Z50 e c)) (aB (aC (aC (aA ?_))))))))))));refine tfl 0 rfl rfl nH rfl aS (to (scm rfl rfl rfl) (aB ?_));refine tih h (fun c2 h => ?_) (fun c2 h => ?_)
 ·refine aC (aA (tm (Z1 f) (to (eC (aF rfl) rfl) ?_)));refine to (sfc [.sl 1 (Z49 f)] rfl mB) (to (slc rfl cS) (tm (.i (Z50 e c)) ?_));obtain ⟨x3, h4, h⟩ := bns h;refine to (six rfl rfl bM.of (bU aG h4)) (to (slc rfl aS) (ta (.i x3) (aB ?_)));obtain rfl := sIn h;refine bK (bC (bE (l := [6]) ⟨rfl, trivial⟩)) ?_;exact rt
 ·refine aY (aC (aC ?_));refine dJ mix 14 [] [(8, .i (cG (Z2 e c) 0 f.won)), (37, .b (cX (Z2 e c) f.won))] ?_ ?_
  ·refine ⟨[(26, 0, .cp [.j f.Tree.Rounds, .sl 1 (Z28 f), .sl 1 (Z49 f), .mp false (f.won.map fun p : aD × Int => ((fun a : aD => Value.agg ((aH a).map bN).toArray) p.1, aG p.2))]), (27, 1, .cp [.j f.Tree.Rounds, .sl 1 (Z28 f), .sl 1 (Z49 f), .mp false (f.won.map fun p : aD × Int => ((fun a : aD => Value.agg ((aH a).map bN).toArray) p.1, aG p.2))]), (28, 2, .cp [.mp false (f.won.map fun p : aD × Int => ((fun a : aD => Value.agg ((aH a).map bN).toArray) p.1, aG p.2))]), (29, 3, .d (.mp false (f.won.map fun p : aD × Int => ((fun a : aD => Value.agg ((aH a).map bN).toArray) p.1, aG p.2)))), (30, 4, .bp b1 0 0), (31, 5, .i e.round), (32, 6, .i (w64 (e.round - 1))), (33, 7, .i (Z50 e c)), (34, 8, .agg (aH (Z2 e c))), (35, 9, .tup [.i (cG (Z2 e c) 0 f.won), .b (cX (Z2 e c) f.won)]), (25, 10, .tup [.i (cG (Z2 e c) 0 f.won), .b (cX (Z2 e c) f.won)]), (36, 11, .i (cG (Z2 e c) 0 f.won)), (37, 12, .b (cX (Z2 e c) f.won)), (8, 13, .i (cG (Z2 e c) 0 f.won))], ?_, ?_⟩
   · exact dk [0, 1, 2, 3, 0, 5, 6, 0, 708, 409, 10, 11, 11, 12] ⟨go (zm (Z1 f)),
 go fun S hS => eC (aF rfl) (aV hS rfl),
 go (zfc [.mp false (f.won.map fun p : aD × Int => ((fun a : aD => Value.agg ((aH a).map bN).toArray) p.1, aG p.2))] rfl xL),
 go (zlc rfl aCv),
 go (zf rfl nH),
 go (zl 0 rfl rfl rfl aS),
 go (zar rfl rfl rfl),
 go (zm (.i (Z50 e c))),
 go fun S hS => dG (aF rfl) wF (zs := [.j 0, .j 0]) rfl rfl rfl (pa2 (aV hS rfl) (pa2 (aV hS rfl) pan)) (es := [.j (w64 (e.round - 1)), .j (Z50 e c)]) rfl,
 go fun S hS => aAv (enc := aG) (agg := false) (l := f.won) (z := 0) (a := (Z2 e c)) (aF rfl) wA underlying139 zeroValue3 (fun _ _ => .d (.lit _ rfl)) (aV hS rfl) rfl rfl (aV hS rfl) (nJ (enc := aH) (Z2 e c) rfl),
 go (zm (.tup [.i (cG (Z2 e c) 0 f.won), .b (cX (Z2 e c) f.won)])),
 go (zex rfl rfl),
 go (zex rfl rfl),
 go (za (.i (cG (Z2 e c) 0 f.won))), trivial⟩
   · exact bZ (aM rfl (aM rfl (aR trivial)))
  ·refine ta (.b (cX (Z2 e c) f.won)) (aB (aC (aA (tm (.b (cX (Z2 e c) f.won)) (aB ?_)))));refine tih h (fun c5 h => ?_) (fun c5 h => ?_)
   ·refine aC (aA (tm (.i (cG (Z2 e c) 0 f.won)) (ta (.i (cG (Z2 e c) 0 f.won)) (aB ?_))));obtain rfl := sIn h;refine bK (bC (bE (l := [6]) ⟨rfl, trivial⟩)) ?_;exact rt
   ·refine aY (aC (aA (ta (.i (-2)) (aB ?_))));obtain rfl := sIn h;refine bK (bC (bE (l := [6]) ⟨rfl, trivial⟩)) ?_;exact rt

theorem xY {S : Type} (J : S → MO → Prop) (ly : Nat) (f : S → aD → bX → Option S) (hy : ∀ (s : S) (m : MO) (x0 : aD) (x1 : bX) (s' : S), J s m → f s x0 x1 = some s' → aBc Tryz.prog ly [.agg (aH x0), .agg (dL x1)] m (J s')) (e : aX) (sy : S) (m0 : MO) (hj : J sy m0) {r : S} (h : jI e f sy = some r) : dN Tryz.prog 82 [.cp (bA e), .d (.lit (yv ly))] [m0] (fun _ o' => ∃ m', J r m' ∧ o' = [m']) := by
 unfold jI at h;refine rG func82 rfl (rs := []) results82 ntmps82 (Nat.le_of_ble_eq_true rfl) ?_;refine aC (aA (tm (Z1 e) (to (eC (aF rfl) rfl) ?_)));refine to (sfc [.j e.Tree.Rounds, .sl 1 (Z28 e)] rfl uQ) (to (sfc [.j e.Tree.Rounds] rfl qL) (to (slc rfl aS) (tm (.i 0) (aB (bT ?_)))));refine cW (S := Int × ({x : S × MO // J x.1 x.2})) [0, 1, 11] (fun s1 => [(12, .i s1.1)]) (fun s1 => [s1.2.1.2]) (fun k s1 => cM f e e.Tree.Rounds k s1.1 s1.2.1.1) (fun _ => rfl) (0, ⟨(sy, m0), hj⟩) h (aT [0] rfl rfl (aM rfl (aR ⟨rfl, rfl, rfl, trivial⟩))) ?_;rintro k3 ⟨b, y2⟩ h;simp only [cM] at h;refine aC (aA (to (scm rfl rfl rfl) (aB (aC ?_))));refine tih h (fun c4 h => ?_) (fun c4 h => ?_)
 ·refine aY (aC (bT (aC (aA (tm (.i b) (ta (.i b) (aB (aC (aA (tm (Z1 e) (to (eC (aF rfl) rfl) ?_)))))))))));refine to (sfc [.j e.Tree.Rounds, .sl 1 (Z28 e)] rfl uQ) (to (sfc [.sl 1 (Z28 e)] rfl oW) (to (slc rfl cS) (to (sle rfl bM.of) (tm (.i b) (to (sar rfl rfl rfl) ?_)))));obtain ⟨u5, h6, h⟩ := bns h;refine to (aNz (aF rfl) rfl rfl (aIz h6)) ?_;refine tm (.i 0) (aB ?_);refine aHf ?_;refine cW (S := Int × ({x : S × MO // J x.1 x.2})) [0, 1, 4, 11, 12, 23] (fun s7 => [(24, .i s7.1)]) (fun s7 => [s7.2.1.2]) (fun k s7 => dX f (cM f e e.Tree.Rounds k3) e b e.Tree.Rounds b ((e.Tree.Slots.length : Int).fdiv (2 ^ (min (w64 (b + 1)).toNat 64))) k s7.1 s7.2.1.1) (fun _ => rfl) (0, ⟨(y2.1.1, y2.1.2), y2.2⟩) h (aT [0] rfl rfl (aM rfl (aR ⟨rfl, rfl, rfl, rfl, rfl, rfl, trivial⟩))) ?_;rintro k9 ⟨c, y8⟩ h;simp only [dX] at h;refine aC (aA (to (scm rfl rfl rfl) (aB (aC ?_))));refine tih h (fun o h => ?_) (fun o h => ?_)
  ·refine aY (aC (bT (aC (aA (tm (.i c) (ta (.i c) (aB (aC (aA (tm (.i b) (tm (.i c) (to (dG (aF rfl) wF (zs := [.j 0, .j 0]) rfl rfl rfl rfl (es := [.j b, .j c]) rfl) ?_))))))))))));refine bB rfl (cD (zs := [.j 0, .j 0]) (aF rfl) zeroValue143 rfl rfl) ?_;rintro _ ⟨y, rfl⟩;refine to (sst 1 rfl rfl sizeOf143 (aH (aD.mk b c))) (aB (aC ?_));obtain ⟨g, q, h⟩ := bns h;obtain ⟨j, t, h⟩ := bns h;refine dJ mix 11 [0, 1, 4, 11, 12, 23, 24] [(30, .d (.lit (yv ly))), (31, .agg (aH (aD.mk b c))), (40, .agg (dL (bX.mk b c g j)))] ?_ ?_
   ·refine ⟨[(30, 0, .d (.lit (yv ly))), (31, 1, .agg (aH (aD.mk b c))), (32, 2, .i b), (33, 3, .i c), (34, 4, .cp [.j e.Tree.Rounds, .sl 1 (Z28 e), .sl 1 (Z49 e), .mp false (e.won.map fun p : aD × Int => ((fun a : aD => Value.agg ((aH a).map bN).toArray) p.1, aG p.2))]), (35, 5, .agg (aH (aD.mk b c))), (36, 6, .i g), (37, 7, .cp [.j e.Tree.Rounds, .sl 1 (Z28 e), .sl 1 (Z49 e), .mp false (e.won.map fun p : aD × Int => ((fun a : aD => Value.agg ((aH a).map bN).toArray) p.1, aG p.2))]), (38, 8, .agg (aH (aD.mk b c))), (39, 9, .i j), (40, 10, .agg (dL (bX.mk b c g j)))], ?_, ?_⟩
    · exact dk [0, 0, 0, 0, 0, 0, 506, 0, 0, 809, 3040710] ⟨go (zm (.d (.lit (yv ly)))),
 go (zla 1 (aH (aD.mk b c)) rfl rfl iI),
 go (zm (.i b)),
 go (zm (.i c)),
 go (zm (Z1 e)),
 go (zla 1 (aH (aD.mk b c)) rfl rfl iI),
 go fun S hS => dC (aF rfl) (.func _ _ call142) (ev2 (aV hS rfl) (ev2 (aV hS rfl) (ev2 rfl evn))) rfl (BVs.refl _ _) (tU _ _ _ q) rfl,
 go (zm (Z1 e)),
 go (zla 1 (aH (aD.mk b c)) rfl rfl iI),
 go fun S hS => dC (aF rfl) (.func _ _ call142) (ev2 (aV hS rfl) (ev2 (aV hS rfl) (ev2 rfl evn))) rfl (BVs.refl _ _) (tU _ _ _ t) rfl,
 go fun S hS => dG (aF rfl) aUf (zs := [.j 0, .j 0, .j 0, .j 0]) rfl rfl rfl (pa2 (aV hS rfl) (pa2 (aV hS rfl) (pa2 (aV hS rfl) (pa2 (aV hS rfl) pan)))) (es := [.j b, .j c, .j g, .j j]) rfl, trivial⟩
    · exact bZ (aM rfl (aM rfl (aM rfl (aR ⟨rfl, rfl, rfl, rfl, rfl, rfl, rfl, trivial⟩))))
   ·obtain ⟨u, v, h⟩ := bns h;refine aLn rfl (aTf (aF rfl) rfl rfl rfl rfl (hy _ _ _ _ _ y8.2 v)) ?_;rintro _ ⟨w, n, rfl⟩;refine to (sn rfl) (aB ?_);refine vV rfl (fun l => ?_) (fun l => ?_)
    ·exact absurd l (by decide)
    ·refine dB ?_;refine aA (to (sar rfl rfl rfl) (tm (.i (w64 (c + 1))) (aB ?_)));exact ⟨(w64 (c + 1), ⟨(u, w), n⟩), h, aT [0] rfl rfl (aM rfl (aR ⟨rfl, rfl, rfl, rfl, rfl, rfl, trivial⟩))⟩
  ·refine cK ?_;refine .inl ⟨rfl, ?_⟩;simp only [hZ] at h;simp only [mS] at h;refine aA (to (sar rfl rfl rfl) (tm (.i (w64 (b + 1))) (aB ?_)));exact ⟨(w64 (b + 1), ⟨(y8.1.1, y8.1.2), y8.2⟩), h, aT [0] rfl rfl (aM rfl (aR ⟨rfl, rfl, rfl, trivial⟩))⟩
 ·refine cK ?_;refine .inl ⟨rfl, ?_⟩;simp only [mR] at h;obtain rfl := sIn h;exact ⟨_, [y2.1.2], [], _, .none, .refl _, .same _, y2.1.2, y2.2, rfl⟩

theorem aFf (a : aJ) (g : List aE) {Q : ((List bX) × Int) → Prop} (h : pC a g Q) : dN Tryz.prog 36 [.agg (bF a), .d (Z20 g)] [] (fun r' o' => ∃ (r : (List bX) × Int), Q r ∧ r' = .tup [.d (.sl 4 (r.1.map dL)), .i r.2] ∧ o' = []) := by
 unfold pC at h;refine jG func36 rfl (rs := [.tmp 4, .tmp 5]) results36 ntmps36 (Nat.le_of_ble_eq_true rfl) ?_;refine aC (aA ?_);refine bB rfl (cO (v := .agg (bF a)) (aF rfl) rfl rfl rfl) ?_;rintro _ ⟨b1, rfl⟩;refine to (lX 4 (aF rfl)) ?_;refine ta (.i 0) (aB (aC (aA (to (sla 0 (bF a) rfl rfl nX) (tm (.d (Z20 g)) ?_)))));refine bB rfl (wE (aF rfl) (.func _ _ call53) rfl rfl (yP _ _ h)) ?_;rintro _ ⟨_, _, ⟨r2, h, rfl, rfl⟩, rfl⟩;refine tm (.tup [cN bA r2.1, .i r2.2]) (to (sex rfl rfl) (to (sex rfl rfl) (ta (cN bA r2.1) (ta (.i r2.2) (aB (aC (aC (aA (tm (.i r2.2) (to (scm rfl rfl rfl) (aB ?_)))))))))));refine tip h (fun c3 h => ?_) (fun c3 h => ?_)
 ·refine aC (aA (tm (.i r2.2) (to (lX 4 (aF rfl)) ?_)));refine ta (.i r2.2) (aB ?_);exact cA ⟨rfl, _, [], [.box b1 0 (bF a)], _, .two (.tmp 4 (v := .d (.sl 4 ((([] : List bX)).map dL))) rfl) (.tmp 5 (v := .i r2.2) rfl), .refl _, .same _, (([] : List bX), r2.2), h, rfl, rfl⟩
 ·refine aY (aC (aA ?_));refine bB rfl (cD (zs := Z51) (aF rfl) zeroValue45 rfl rfl) ?_;rintro _ ⟨b4, rfl⟩;refine eT (tG 49 4) ?_;refine aB (aC (aC (aA (tm (cN bA r2.1) ?_))));obtain ⟨x5, h6, h⟩ := eS h;refine eT (aMh (enc := bA) (k := 20) rfl h6) ?_;refine to (aUe (aF rfl) rfl rfl) ?_;refine aB (bT ?_);obtain ⟨s7, h8, h⟩ := eS h;refine uI ?_ aUb;refine aRv (S := (List bX) × Value) (S0 := (List bX)) (f := 82) (ps := [22, 23]) (fun b => b.1) (fun b => [.box b1 0 (bF a), .box b4 0 [.lit b.2], .arr b.2 49 4 (b.1.map dL)]) (aUt (fun j : aD => .agg (aH j)) (fun c : bX => .agg (dL c)) _) (([] : List bX), (.slice none 0 0)) ([] : List bX) s7 (aT [0, 1, 2] rfl rfl (le_refl _)) rfl call82 rfl (by decide) rfl rfl (fun l J hy m0 h0 => xY (S := (List bX)) J l _ (fun _ _ _ _ _ hJ hq => hy _ _ _ _ hJ ⟨_, _, rfl, hq⟩) x5 _ m0 h0 h8) ?_ ?_
  ·rintro ⟨e9, e⟩ _ _ ⟨j, c, rfl, h⟩;refine ⟨rfl, ?_⟩;refine aA ?_;refine bB rfl (cD (zs := [.j 0, .j 0, .j 0, .j 0]) (aF rfl) zeroValue49 rfl rfl) ?_;rintro _ ⟨q, rfl⟩;refine to (sst 3 rfl rfl sizeOf49 (dL c)) (aB (bT (aA (to (sl 1 rfl rfl rfl aPf) (to (sla 3 (dL c) rfl rfl aOj) (to (fH (aF rfl) aJc rfl rfl (rows := ([c]).map dL) rfl (bR (f := dL) fun _ => rfl) rfl (by decide)) ?_))))));obtain ⟨n, o, h⟩ := bns h;refine bB rfl (iG (i := 2) (aF rfl) aJc rfl rfl rfl (fun _ => rfl) o rfl) ?_;rintro _ ⟨m, rfl⟩;refine to (sst 1 rfl rfl sizeOf45 [.lit m]) ?_;refine jD ?_;obtain rfl := sIn h;exact ⟨(n, m), rfl, aT [0, 1, 2] rfl rfl aFw⟩
  ·rintro ⟨e9, e⟩ p;subst p;refine aC (aA (to (sl 1 rfl rfl rfl aPf) (ta (.d (.lit e)) (ta (.i 0) (aB ?_)))));exact cA ⟨rfl, _, [], [.box b1 0 (bF a), .box b4 0 [.lit e], .arr e 49 4 (e9.map dL)], _, .two (.tmp 4 (v := .d (.lit e)) rfl) (.tmp 5 (v := .i 0) rfl), .refl _, aFj (.cons (.d (cJ 2 rfl (bR (f := dL) fun _ => rfl))) (.cons (.same _) .nil)), (e9, 0), h, rfl, rfl⟩

end Go.Am
