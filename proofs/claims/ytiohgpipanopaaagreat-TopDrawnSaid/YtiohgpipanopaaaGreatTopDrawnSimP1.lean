/- The functions compute what the shallow ones say: printed by program. -/
import Derived.Test.YtiohgpipanopaaaGreatTlSh
import Derived.Test.YtiohgpipanopaaaGreatAmFam2
import Derived.Test.YtiohgpipanopaaaGreatAmRange
import Derived.Test.YtiohgpipanopaaaGreatAmSort
import Derived.Test.YtiohgpipanopaaaGreatTlShelf
import Derived.Test.YtiohgpipanopaaaGreatAmEnt
import Derived.Test.YtiohgpipanopaaaGreatAmSortF
import Derived.Test.YtiohgpipanopaaaGreatAmRangeC
import Derived.Test.YtiohgpipanopaaaGreatAmBox
import Derived.Test.YtiohgpipanopaaaGreatAmPrim
import Derived.Test.YtiohgpipanopaaaGreatBbDet
import Derived.Test.YtiohgpipanopaaaGreatChecked
import Derived.Test.YtiohgpipanopaaaGreatAmShort
import Derived.KernelRfl
namespace Go.Am
open Go.Proofs
open Go.Proofs.Tryz
set_option maxRecDepth 100000
set_option maxHeartbeats 40000000

abbrev D.j (n : Int) : D := .lit (.int .i64 n)
abbrev D.k (b : Bool) : D := .lit (.bool b)
abbrev VI (n : Int) : Value := .int .i64 n
abbrev Z0 (p0 : bK) : AV := .cp [.j p0.rules.Format.Sets, .j p0.rules.Format.Games, .k p0.rules.Format.NoAd, .j p0.rules.Format.Tie, .j p0.rules.Format.To, .j p0.rules.Format.LastTie, .j p0.rules.Format.LastTo, .j p0.rules.Format.First, .j p0.rules.Format.Then, .k p0.rules.Format.Doubles, .sl 2 (p0.Score.Board.Sets.map aN), .j p0.Score.Board.Games.A, .j p0.Score.Board.Games.B, .j p0.Score.Board.Points.A, .j p0.Score.Board.Points.B, .j p0.Score.Server, .j p0.Score.Ends, .j p0.Score.Balls, .j p0.Score.Winner, .j p0.first, .j p0.won.A, .j p0.won.B, .sl 1 (p0.ties.map cJ), .sl 7 (p0.games.map bD)]
abbrev Z1 (p0 : aX) : AV := .cp [.j p0.Tree.Rounds, .sl 1 (p0.Tree.Slots.map aG), .sl 1 (p0.players.map aG), .mp false (p0.won.map fun p : aD × Int => ((fun a : aD => Value.agg ((aH a).map bL).toArray) p.1, aG p.2))]
abbrev Z2 := aL (aR.mk 4 0 ([(aS.mk 1 1 false), (aS.mk 2 1 false), (aS.mk 3 2 false), (aS.mk 4 0 false)]) ([] : List Int))
abbrev Z3 := aL (aR.mk 4 1 ([(aS.mk 10 1 false), (aS.mk 20 2 false), (aS.mk 30 1 false)]) ([5, 4]))
abbrev Z4 : AV := .b false
abbrev Z5 (p0 : List Int) : D := .sl 1 (p0.map aG)
abbrev Z6 (p0 : List Int) := w64 ((p0.length : Int) - 1)
abbrev Z7 (p0 : aR) := w64 (p0.Size - (p0.Persons.length : Int))
abbrev Z8 (p0 : Nat) (p1 : Nat) (p2 : bK) (p3 : Value) (p4 : Value) (p5 : Value) : List MO := [.box p0 p1 [.j p2.rules.Format.Sets, .j p2.rules.Format.Games, .k p2.rules.Format.NoAd, .j p2.rules.Format.Tie, .j p2.rules.Format.To, .j p2.rules.Format.LastTie, .j p2.rules.Format.LastTo, .j p2.rules.Format.First, .j p2.rules.Format.Then, .k p2.rules.Format.Doubles, .lit p3, .j p2.Score.Board.Games.A, .j p2.Score.Board.Games.B, .j p2.Score.Board.Points.A, .j p2.Score.Board.Points.B, .j p2.Score.Server, .j p2.Score.Ends, .j p2.Score.Balls, .j p2.Score.Winner, .j p2.first, .j p2.won.A, .j p2.won.B, .lit p4, .lit p5], .arr p3 78 2 (p2.Score.Board.Sets.map aN), .arr p4 4 1 (p2.ties.map cJ), .arr p5 228 7 (p2.games.map bD)]
abbrev Z9 (p0 : Nat) (p1 : Nat) (p2 : aJ) (p3 : Value) (p4 : Nat) (p5 : List Int) (p6 : Nat) (p7 : List (aE × Int)) (p8 : List Nat) (p9 : Nat) : List MO := [.box p0 p1 [.j p2.Rounds, .sl 1 (p2.Slots.map aG), .lit p3, .lit (.map (some p4))], .arr p3 3 1 (p5.map aG), .map p6 (p7.map fun p : aE × Int => ((fun a : aE => Value.agg ((aO a).map bL).toArray) p.1, (fun v : Int => AV.i v) p.2)) p8 p9]
abbrev Z10 (p0 : bK) := p0.Score.Board.Sets.map aN
abbrev Z11 (p0 : aR) := p0.Persons.map aK
abbrev Z12 (p0 : aJ) := p0.Slots.map aG
abbrev Z13 (p0 : aR) := (w64 (p0.Size - 1)) - (w64 (p0.Size.tdiv 4))
abbrev Z14 (p0 : Int) := w64 ((w64 (p0 + 1)).tdiv 2)
abbrev Z15 := (([] : List Int)).map aG
abbrev Z16 (p0 : List aE) : D := .sl 5 (p0.map aO)
abbrev Z17 : List D := [.sl 2 ((([] : List bI)).map aN), .j 0, .j 0, .j 0, .j 0, .j 0, .j 0, .j 0, .j 0]
abbrev Z18 : AV := .b true
abbrev Z19 := aZ (aJ.mk 3 ([1, (-1), 2, 3, 4, 5, 6, 7]))
abbrev Z20 := cU (eS.mk 2 2 false 2 3 0 4 2 2 false)
abbrev Z21 := ([] : List Int).map aG
abbrev Z22 (p0 : bK) := w64 (p0.Score.Ends + 1)
abbrev Z23 (p0 : aR) : AV := .i (p0.Persons.length : Int)
abbrev Z24 (p0 : Nat) : List D := [.lit (yv p0)]
abbrev Z25 := aK (aS.mk 0 0 false)
abbrev Z26 (p0 : bK) := p0.ties.map cJ
abbrev Z27 := jZ (cM.mk (dI.mk ([] : List bI) (bI.mk 0 0) (bI.mk 0 0)) 0 0 0 0)
abbrev Z28 (p0 : Int) : AV := .b (decide (p0 = (-1)))
abbrev Z29 : List Int := [0, 0, 0, 0, 1, 1, 1, 1, 0, 0, 0, 0, 0, 0, 0, 0, 1, 1, 1, 1]
abbrev Z30 (p0 : Nat) : D := .lit (.map (some p0))
abbrev Z31 := [(aE.mk 1 1 0 2 0), (aE.mk 3 0 3 7 0), (aE.mk 5 0 4 8 4)]
abbrev Z32 (p0 : bI) := aN (bI.mk (w64 (p0.A + 1)) p0.B)
abbrev Z33 (p0 : bI) := aN (bI.mk p0.A (w64 (p0.B + 1)))
abbrev Z34 := cB eJ (none : Option bK)
abbrev Z35 := (([] : List aS)).map aK
abbrev Z36 (p0 : aR) := p0.Lots.map aG
abbrev Z37 (p0 : List Int) := decide (((Z6 p0).tmod 2) = 1)
abbrev Z38 (p0 : List Int) : List D := [.sl 1 (p0.map aG)]
abbrev Z39 (p0 : bK) := p0.games.map bD
abbrev Z40 (p0 : aJ) := w64 (1 * 2 ^ (min p0.Rounds.toNat 64))
abbrev Z41 (p0 : aR) := w64 (p0.Size.tdiv 4)
abbrev Z42 (p0 : aX) := p0.Tree.Slots.map aG
abbrev Z43 (p0 : List Int) : AV := .d (Z5 p0)
abbrev Z44 : AV := .b (false)
abbrev Z45 := [(aS.mk 1 1 false), (aS.mk 2 1 false), (aS.mk 3 2 false), (aS.mk 4 0 false)]
abbrev Z46 (p0 : Int) (p1 : Int) : AV := .b (decide (p0 ≤ p1))
abbrev Z47 (p0 : Int) (p1 : Int) := p0.fdiv (2 ^ (min (w64 (p1 + 1)).toNat 64))
abbrev Z48 (p0 : Int) (p1 : gX) := w64 (p0 - p1.Format.First)
abbrev Z49 := bI.mk 0 0
abbrev Z50 (p0 : gX) := cC (gO.mk p0.Format.LastTie p0.Format.LastTo)
abbrev Z51 := [(aS.mk 10 1 false), (aS.mk 20 2 false), (aS.mk 30 1 false)]
abbrev Z52 : List MO := [.arr (.slice none 0 0) 3 1 Z21]
abbrev Z53 := gZ (dK.mk 0 0)
abbrev Z54 := aE.mk 0 0 0 0 0
abbrev Z55 (p0 : gX) := cC (gO.mk p0.Format.Tie p0.Format.To)
abbrev Z56 (p0 : aR) : D := .sl 3 (Z11 p0)
abbrev Z57 (p0 : aR) := [w64 (p0.Size.tdiv 4), w64 (Z13 p0)]
abbrev Z58 (p0 : Nat) (p1 : Nat) : AV := .bp p0 p1 0
abbrev Z59 (p0 : aJ) (p1 : List aE) (p2 : Int) (p3 : Int) : List AV := [.agg (aZ p0), .d (Z16 p1), .i p2, .i p3]
abbrev Z60 : List D := [.lit (.slice none 0 0)]
abbrev Z61 : D := .lit (.slice none 0 0)
abbrev Z62 (p0 : aX) := p0.players.map aG
abbrev Z63 := w64 ((0 : Int).tdiv 2)
theorem mix : Tryz.prog.follows .mixedOrders = true := Checked.mixed Tryz.checked

theorem dQ : kR Tryz.prog 25 4 := ⟨isAgg25, sizeOf25⟩
theorem bF : SliceTy Tryz.prog 23 3 1 8 (.int .i64 0) := ⟨underlying23, ⟨Tryz.t3, by kernel_rfl, rfl, rfl, rfl⟩, rfl, by decide⟩
theorem cL : bX Tryz.prog 25 0 0 := bV runUnderlying25 rfl rfl sizeOf3
theorem aP : jX Tryz.prog 3 := ⟨isAgg3, sizeOf3⟩
theorem aRv : jI Tryz.prog 38 (.agg #[.int .i64 0, .slice none 0 0]) [(0, 1), (1, 1)] := ⟨zeroValue38, _, runUnderlying38, fun w => by simp [sizeOf23, sizeOf3]⟩
theorem kA : kR Tryz.prog 38 2 := ⟨isAgg38, sizeOf38⟩
theorem iT : bX Tryz.prog 25 1 1 := bV runUnderlying25 rfl rfl sizeOf3
theorem cW : bX Tryz.prog 25 2 2 := bV runUnderlying25 rfl rfl sizeOf22
theorem dY : jX Tryz.prog 22 := ⟨isAgg22, sizeOf22⟩
theorem eL : SliceTy Tryz.prog 22 43 3 24 (.agg #[.int .i64 0, .int .i64 0, .bool false]) := ⟨underlying22, ⟨Tryz.t43, by kernel_rfl, rfl, rfl, rfl⟩, rfl, by decide⟩
theorem iJ : bX Tryz.prog 43 0 0 := bV runUnderlying43 rfl rfl sizeOf3
theorem jL : bX Tryz.prog 38 0 0 := bV runUnderlying38 rfl rfl sizeOf3
theorem dB : jX Tryz.prog 23 := ⟨isAgg23, sizeOf23⟩
theorem aSr : bX Tryz.prog 63 0 0 := bV runUnderlying63 rfl rfl sizeOf3
theorem aSs : bX Tryz.prog 63 1 1 := bV runUnderlying63 rfl rfl sizeOf3
theorem sW : bX Tryz.prog 25 3 3 := bV runUnderlying25 rfl rfl sizeOf23
theorem aHy : SliceTy Tryz.prog 73 23 1 24 (.slice none 0 0) := ⟨underlying73, ⟨Tryz.t23, by kernel_rfl, rfl, rfl, rfl⟩, rfl, by decide⟩
theorem tQ : kR Tryz.prog 43 3 := ⟨isAgg43, sizeOf43⟩
theorem mX : bX Tryz.prog 43 1 1 := bV runUnderlying43 rfl rfl sizeOf3
theorem rL : bX Tryz.prog 43 2 2 := bV runUnderlying43 rfl rfl sizeOf4
theorem nZ : jX Tryz.prog 4 := ⟨isAgg4, sizeOf4⟩
theorem aKw : kR Tryz.prog 63 2 := ⟨isAgg63, sizeOf63⟩
theorem xY : jI Tryz.prog 43 (.agg #[.int .i64 0, .int .i64 0, .bool false]) [(0, 1), (1, 1), (2, 1)] := ⟨zeroValue43, _, runUnderlying43, fun w => by simp [sizeOf3, sizeOf4]⟩
theorem aRu : jI Tryz.prog 25 (.agg #[.int .i64 0, .int .i64 0, .slice none 0 0, .slice none 0 0]) [(0, 1), (1, 1), (2, 1), (3, 1)] := ⟨zeroValue25, _, runUnderlying25, fun w => by simp [sizeOf22, sizeOf23, sizeOf3]⟩
theorem aOg : jX Tryz.prog 180 := ⟨isAgg180, sizeOf180⟩
theorem aVe : jX Tryz.prog 244 := ⟨isAgg244, sizeOf244⟩
theorem aIb : jI Tryz.prog 95 (.agg #[.int .i64 0, .int .i64 0, .int .i64 0, .int .i64 0, .int .i64 0]) [(0, 1), (1, 1), (2, 1), (3, 1), (4, 1)] := ⟨zeroValue95, _, runUnderlying95, fun w => by simp [sizeOf3]⟩
theorem aEg : SliceTy Tryz.prog 88 95 5 40 (.agg #[.int .i64 0, .int .i64 0, .int .i64 0, .int .i64 0, .int .i64 0]) := ⟨underlying88, ⟨Tryz.t95, by kernel_rfl, rfl, rfl, rfl⟩, rfl, by decide⟩
theorem tL : bX Tryz.prog 141 0 0 := bV runUnderlying141 rfl rfl sizeOf38
theorem gV : bX Tryz.prog 38 1 1 := bV runUnderlying38 rfl rfl sizeOf23
theorem yJ : bX Tryz.prog 141 2 3 := bV runUnderlying141 rfl rfl sizeOf139
theorem aEe : jX Tryz.prog 139 := ⟨isAgg139, sizeOf139⟩
theorem aPd : rP Tryz.prog 3 VI := aQt underlying3
theorem qB : kR Tryz.prog 95 5 := ⟨isAgg95, sizeOf95⟩
theorem xI : bX Tryz.prog 95 3 3 := bV runUnderlying95 rfl rfl sizeOf3
theorem aFx : bX Tryz.prog 95 0 0 := bV runUnderlying95 rfl rfl sizeOf3
theorem aAo : bX Tryz.prog 95 1 1 := bV runUnderlying95 rfl rfl sizeOf3
theorem sY : bX Tryz.prog 95 2 2 := bV runUnderlying95 rfl rfl sizeOf3
theorem aFy : bX Tryz.prog 95 4 4 := bV runUnderlying95 rfl rfl sizeOf3
theorem aEi : jI Tryz.prog 143 (.agg #[.int .i64 0, .int .i64 0]) [(0, 1), (1, 1)] := ⟨zeroValue143, _, runUnderlying143, fun w => by simp [sizeOf3]⟩
theorem kZ : kR Tryz.prog 143 2 := ⟨isAgg143, sizeOf143⟩
theorem rJ : bX Tryz.prog 143 0 0 := bV runUnderlying143 rfl rfl sizeOf3
theorem aQp : bX Tryz.prog 143 1 1 := bV runUnderlying143 rfl rfl sizeOf3
theorem aVr : jI Tryz.prog 141 (.agg #[.int .i64 0, .slice none 0 0, .slice none 0 0, .map none]) [(0, 2), (2, 1), (3, 1)] := ⟨zeroValue141, _, runUnderlying141, fun w => by simp [sizeOf139, sizeOf23, sizeOf38]⟩
theorem aQo : aKs Tryz.prog 95 aO := by
  rintro ⟨a0, a1, a2, a3, a4⟩ ⟨b0, b1, b2, b3, b4⟩ w
  simp [aO, bL, go_sem, Op.eqFields, Program.fieldsOf] <;> (repeat' split) <;> simp_all
theorem aWg (b : Bool) (a : aE) (w : World) : (Instr.checkKey b 10000 95 (.agg ((aO a).map bL).toArray)).run Tryz.prog w = .ok () w := by
  obtain ⟨a1, a2, a3, a4, a5⟩ := a;rw [show (10000 : Nat) = 9990 + 10 from rfl]
  generalize (9990 : Nat) = m
  simp [Instr.checkKey, aO, bL, go_sem, Std.Legacy.Range.forIn_eq_forIn_range', Std.Legacy.Range.size]
theorem aLp : rP Tryz.prog 95 (fun a : aE => Value.agg ((aO a).map bL).toArray) :=
  aCv underlying95 aQo aWg (fun a w => aLo _ rfl _ _) (by
    rintro ⟨a1, a2, a3, a4, a5⟩ ⟨b1, b2, b3, b4, b5⟩ h
    simp [aO] at h ⊢
    simp_all) (fun _ => rfl)
theorem wW : aKs Tryz.prog 143 aH := by
  rintro ⟨a0, a1⟩ ⟨b0, b1⟩ w
  simp [aH, bL, go_sem, Op.eqFields, Program.fieldsOf] <;> (repeat' split) <;> simp_all
theorem aUq (b : Bool) (a : aD) (w : World) : (Instr.checkKey b 10000 143 (.agg ((aH a).map bL).toArray)).run Tryz.prog w = .ok () w := by
  obtain ⟨a1, a2⟩ := a;rw [show (10000 : Nat) = 9990 + 10 from rfl]
  generalize (9990 : Nat) = m
  simp [Instr.checkKey, aH, bL, go_sem, Std.Legacy.Range.forIn_eq_forIn_range', Std.Legacy.Range.size]
theorem wX : rP Tryz.prog 143 (fun a : aD => Value.agg ((aH a).map bL).toArray) :=
  aCv underlying143 wW aUq (fun a w => aLo _ rfl _ _) (by
    rintro ⟨a1, a2⟩ ⟨b1, b2⟩ h
    simp [aH] at h ⊢
    simp_all) (fun _ => rfl)
theorem lP : bX Tryz.prog 141 1 2 := bV runUnderlying141 rfl rfl sizeOf23
theorem aMt : jI Tryz.prog 63 (.agg #[.int .i64 0, .int .i64 0]) [(0, 1), (1, 1)] := ⟨zeroValue63, _, runUnderlying63, fun w => by simp [sizeOf3]⟩
theorem zN : kR Tryz.prog 72 10 := ⟨isAgg72, sizeOf72⟩
theorem aFw : bX Tryz.prog 82 3 7 := bV runUnderlying82 rfl rfl sizeOf3
theorem aWr : jI Tryz.prog 72 (.agg #[.int .i64 0, .int .i64 0, .bool false, .int .i64 0, .int .i64 0, .int .i64 0, .int .i64 0, .int .i64 0, .int .i64 0, .bool false]) [(0, 1), (1, 1), (2, 1), (3, 1), (4, 1), (5, 1), (6, 1), (7, 1), (8, 1), (9, 1)] := ⟨zeroValue72, _, runUnderlying72, fun w => by simp [sizeOf3, sizeOf4]⟩
theorem aWs : jI Tryz.prog 82 (.agg #[.slice none 0 0, .int .i64 0, .int .i64 0, .int .i64 0, .int .i64 0, .int .i64 0, .int .i64 0, .int .i64 0, .int .i64 0]) [(0, 5), (5, 1), (6, 1), (7, 1), (8, 1)] := ⟨zeroValue82, _, runUnderlying82, fun w => by simp [sizeOf3, sizeOf80]⟩
theorem cF : bX Tryz.prog 174 1 10 := bV runUnderlying174 rfl rfl sizeOf82
theorem aKx : kR Tryz.prog 82 9 := ⟨isAgg82, sizeOf82⟩
theorem aVs : jI Tryz.prog 171 (.agg #[.int .i64 0, .int .i64 0, .bool false, .int .i64 0, .int .i64 0, .int .i64 0, .int .i64 0, .int .i64 0, .int .i64 0, .bool false]) [(0, 10)] := ⟨zeroValue171, _, runUnderlying171, fun w => by simp [sizeOf72]⟩
theorem sX : bX Tryz.prog 82 4 8 := bV runUnderlying82 rfl rfl sizeOf3
theorem aAl : bX Tryz.prog 72 0 0 := bV runUnderlying72 rfl rfl sizeOf3
theorem aAm : bX Tryz.prog 72 1 1 := bV runUnderlying72 rfl rfl sizeOf3
theorem aLj : bX Tryz.prog 72 3 3 := bV runUnderlying72 rfl rfl sizeOf3
theorem aLl : bX Tryz.prog 72 5 5 := bV runUnderlying72 rfl rfl sizeOf3
theorem aLk : bX Tryz.prog 72 4 4 := bV runUnderlying72 rfl rfl sizeOf3
theorem aLm : bX Tryz.prog 72 6 6 := bV runUnderlying72 rfl rfl sizeOf3
theorem aFt : bX Tryz.prog 72 7 7 := bV runUnderlying72 rfl rfl sizeOf3
theorem aFu : bX Tryz.prog 72 8 8 := bV runUnderlying72 rfl rfl sizeOf3
theorem wV : kR Tryz.prog 171 10 := ⟨isAgg171, sizeOf171⟩
theorem aVt : jI Tryz.prog 174 (.agg #[.int .i64 0, .int .i64 0, .bool false, .int .i64 0, .int .i64 0, .int .i64 0, .int .i64 0, .int .i64 0, .int .i64 0, .bool false, .slice none 0 0, .int .i64 0, .int .i64 0, .int .i64 0, .int .i64 0, .int .i64 0, .int .i64 0, .int .i64 0, .int .i64 0, .int .i64 0, .int .i64 0, .int .i64 0, .slice none 0 0, .slice none 0 0]) [(0, 10), (10, 9), (19, 1), (20, 2), (22, 1), (23, 1)] := ⟨zeroValue174, _, runUnderlying174, fun w => by simp [sizeOf171, sizeOf172, sizeOf3, sizeOf78, sizeOf82, sizeOf83]⟩
theorem xH : bX Tryz.prog 82 1 5 := bV runUnderlying82 rfl rfl sizeOf3
theorem rK : bX Tryz.prog 174 4 22 := bV runUnderlying174 rfl rfl sizeOf172
theorem wY : jX Tryz.prog 172 := ⟨isAgg172, sizeOf172⟩
theorem nX : bX Tryz.prog 174 0 0 := bV runUnderlying174 rfl rfl sizeOf171
theorem tM : bX Tryz.prog 174 3 20 := bV runUnderlying174 rfl rfl sizeOf78
theorem iR : kR Tryz.prog 78 2 := ⟨isAgg78, sizeOf78⟩
theorem lG : bX Tryz.prog 82 0 0 := bV runUnderlying82 rfl rfl sizeOf80
theorem aAn : bX Tryz.prog 80 1 1 := bV runUnderlying80 rfl rfl sizeOf78
theorem xW : SliceTy Tryz.prog 172 4 1 1 (.bool false) := ⟨underlying172, ⟨Tryz.t4, by kernel_rfl, rfl, rfl, rfl⟩, rfl, by decide⟩
theorem pW : bX Tryz.prog 78 0 0 := bV runUnderlying78 rfl rfl sizeOf3
theorem iI : bX Tryz.prog 171 0 0 := bV runUnderlying171 rfl rfl sizeOf72
theorem pX : bX Tryz.prog 78 1 1 := bV runUnderlying78 rfl rfl sizeOf3
theorem aOk : jI Tryz.prog 283 (.agg #[.int .i64 0, .int .i64 0]) [(0, 1), (1, 1)] := ⟨zeroValue283, _, runUnderlying283, fun w => by simp [sizeOf3]⟩
theorem aIc : kR Tryz.prog 283 2 := ⟨isAgg283, sizeOf283⟩
theorem aJh : bX Tryz.prog 283 0 0 := bV runUnderlying283 rfl rfl sizeOf3
theorem aJf : bX Tryz.prog 174 2 19 := bV runUnderlying174 rfl rfl sizeOf3
theorem aLn : bX Tryz.prog 72 9 9 := bV runUnderlying72 rfl rfl sizeOf4
theorem uW : bX Tryz.prog 80 2 3 := bV runUnderlying80 rfl rfl sizeOf78
theorem rM : bX Tryz.prog 82 2 6 := bV runUnderlying82 rfl rfl sizeOf3
theorem aJg : bX Tryz.prog 174 5 23 := bV runUnderlying174 rfl rfl sizeOf83
theorem aWn : jX Tryz.prog 83 := ⟨isAgg83, sizeOf83⟩
theorem aFv : bX Tryz.prog 80 0 0 := bV runUnderlying80 rfl rfl sizeOf76
theorem aRf : jX Tryz.prog 76 := ⟨isAgg76, sizeOf76⟩
theorem aPv : SliceTy Tryz.prog 76 78 2 16 (.agg #[.int .i64 0, .int .i64 0]) := ⟨underlying76, ⟨Tryz.t78, by kernel_rfl, rfl, rfl, rfl⟩, rfl, by decide⟩
theorem aVu : jI Tryz.prog 228 (.agg #[.int .i64 0, .bool false, .int .i64 0, .int .i64 0, .int .i64 0, .int .i64 0, .bool false]) [(0, 1), (1, 1), (2, 1), (3, 1), (4, 2), (6, 1)] := ⟨zeroValue228, _, runUnderlying228, fun w => by simp [sizeOf3, sizeOf4, sizeOf78]⟩
theorem aUh : SliceTy Tryz.prog 83 228 7 56 (.agg #[.int .i64 0, .bool false, .int .i64 0, .int .i64 0, .int .i64 0, .int .i64 0, .bool false]) := ⟨underlying83, ⟨Tryz.t228, by kernel_rfl, rfl, rfl, rfl⟩, rfl, by decide⟩
theorem aRw : jI Tryz.prog 78 (.agg #[.int .i64 0, .int .i64 0]) [(0, 1), (1, 1)] := ⟨zeroValue78, _, runUnderlying78, fun w => by simp [sizeOf3]⟩
theorem aQq : bX Tryz.prog 283 1 1 := bV runUnderlying283 rfl rfl sizeOf3
theorem aSt : bX Tryz.prog 72 2 2 := bV runUnderlying72 rfl rfl sizeOf4

theorem kW (d : Int) (c : Int) (a : Int) {r : Bool} (h : dX d c a = some r) : Fn Tryz.prog 46 [.i d, .i c, .i a] (.b r) := by
 unfold dX at h;refine oT [.tmp 6] func46 results46 ntmps46 ?_;refine aC (aA (ta Z4 (aB (aC (aA (tm (.i d) (tm (.i c) (to (scm rfl rfl rfl) (tm (Z46 c d) ?_)))))))));obtain ⟨b1, h2, h⟩ := bns h;refine aW 4 [] 14 b1 ?_ ?_
 ·refine bch h2 (fun c3 h2 => ?_) (fun c3 h2 => ?_)
  ·refine tk c3 (sm (.i d)) (tk c3 (sm (.i a)) (tk c3 (scm rfl rfl rfl) (to (spt (Z46 d a) c3) ?_)));obtain rfl := sIn h2;refine aB (aI rfl trivial rfl)
  ·refine tp c3 (tp c3 (tp c3 (to (spf Z4 c3) ?_)));obtain rfl := sIn h2;refine aB (aI rfl trivial rfl)
 ·refine ta (.b b1) (aB ?_);obtain rfl := sIn h;exact rt

theorem vJ (a : aR) {r : Int} (h : lC a = some r) : Fn Tryz.prog 9 [.agg (aL a)] (.i r) := by
 unfold lC at h;refine oT [.tmp 2] func9 results9 ntmps9 ?_;refine aC (aA ?_);refine bB rfl (cQ (v := .agg (aL a)) (aF rfl) rfl rfl rfl) ?_;rintro _ ⟨b1, rfl⟩;refine ta (.i 0) (aB (aC (aA (tfl 0 rfl rfl cW rfl dY (to (sle rfl eL.of) (ta (Z23 a) (aB (aC (aC (aA (tfl 0 rfl rfl cL rfl aP ?_)))))))))));refine to (scm rfl rfl rfl) (tm (.b (!decide (a.Size = 4))) ?_);obtain ⟨b2, h3, h⟩ := bns h;refine aW 4 [1, 3] 18 b2 ?_ ?_
 ·refine bch h3 (fun q h3 => ?_) (fun q h3 => ?_)
  ·refine tkl 0 q rfl rfl cL rfl aP (tk q (scm rfl rfl rfl) (to (spt (.b (!decide (a.Size = 8))) q) ?_));obtain rfl := sIn h3;refine aB (aI rfl ⟨rfl, rfl, trivial⟩ rfl)
  ·refine tp q (tp q (tp q (to (spf Z4 q) ?_)));obtain rfl := sIn h3;refine aB (aI rfl ⟨rfl, rfl, trivial⟩ rfl)
 ·refine tm (.b b2) ?_;obtain ⟨b4, h5, h⟩ := bns h;refine aW 6 [1, 3] 25 b4 ?_ ?_
  ·refine bch h5 (fun m h5 => ?_) (fun m h5 => ?_)
   ·refine tp m (tp m (tp m (tp m (tp m (to (spt Z18 m) ?_)))));obtain rfl := sIn h5;refine aB (aI rfl ⟨rfl, rfl, trivial⟩ rfl)
   ·refine tk m (sm (Z23 a)) (tkl 0 m rfl rfl cL rfl aP ?_);obtain ⟨H, I, h5⟩ := bns h5;refine tk m (scr call46 (kW _ _ _ I)) (tk m (sn rfl) (to (spf (.b (!H)) m) ?_));obtain rfl := sIn h5;refine aB (aI rfl ⟨rfl, rfl, trivial⟩ rfl)
  ·refine tm (.b b4) ?_;obtain ⟨b6, h7, h⟩ := bns h;refine aW 10 [1, 3] 36 b6 ?_ ?_
   ·refine bch h7 (fun c h7 => ?_) (fun c h7 => ?_)
    ·refine tp c (tp c (tp c (tp c (tp c (tp c (tp c (tp c (tp c (to (spt Z18 c) ?_)))))))));obtain rfl := sIn h7;refine aB (aI rfl ⟨rfl, rfl, trivial⟩ rfl)
    ·refine tkl 0 c rfl rfl iT rfl aP (tk c (sm (Z23 a)) (tkl 0 c rfl rfl cL rfl aP (tk c (pY (aF rfl) rfl rfl (by decide)) ?_)));refine tk c (aKk (aF rfl) rfl rfl) ?_;obtain ⟨J, K, h7⟩ := bns h7;refine tk c (scr call46 (kW _ _ _ K)) (tk c (sn rfl) (to (spf (.b (!J)) c) ?_));obtain rfl := sIn h7;refine aB (aI rfl ⟨rfl, rfl, trivial⟩ rfl)
   ·refine tm (.b b6) ?_;obtain ⟨b8, h9, h⟩ := bns h;refine aW 9 [1, 3] 46 b8 ?_ ?_
    ·refine bch h9 (fun f h9 => ?_) (fun f h9 => ?_)
     ·refine tp f (tp f (tp f (tp f (tp f (tp f (tp f (tp f (to (spt Z18 f) ?_))))))));obtain rfl := sIn h9;refine aB (aI rfl ⟨rfl, rfl, trivial⟩ rfl)
     ·refine tkl 0 f rfl rfl cL rfl aP (tk f (sm (Z23 a)) (tk f (sar rfl rfl rfl) (tkl 0 f rfl rfl cL rfl aP (tk f (pY (aF rfl) rfl rfl (by decide)) ?_))));refine tk f (scm rfl rfl rfl) (to (spf (.b (decide ((w64 (a.Size.tdiv 2)) < (Z7 a)))) f) ?_);obtain rfl := sIn h9;refine aB (aI rfl ⟨rfl, rfl, trivial⟩ rfl)
    ·refine tm (.b b8) ?_;obtain ⟨L, y, h⟩ := bns h;refine aW 5 [1, 3] 52 L ?_ ?_
     ·refine bch y (fun o y => ?_) (fun o y => ?_)
      ·refine tp o (tp o (tp o (tp o (to (spt Z18 o) ?_))));obtain rfl := sIn y;refine aB (aI rfl ⟨rfl, rfl, trivial⟩ rfl)
      ·refine tkl 0 o rfl rfl sW rfl dB (tk o (sle rfl bF.of) (tk o (scm rfl rfl rfl) (to (spf (.b (decide (10 < (a.Lots.length : Int)))) o) ?_)));obtain rfl := sIn y;refine aB (aI rfl ⟨rfl, rfl, trivial⟩ rfl)
     ·refine aB ?_;refine tih h (fun M h => ?_) (fun M h => ?_)
      ·refine aC (aA (ta (.i 60) (aB ?_)));obtain rfl := sIn h;refine bM (bE (bG (l := [2]) ⟨rfl, trivial⟩)) ?_;exact rt
      ·refine bA (aC (aC (aA (ta (.i 0) (aB (bS ?_))))));refine cR (S := Int) [1, 3] (fun A => [(4, .i A)]) (fun A => [.box b1 0 (aL a)]) (fun k A => dU (a.Persons.length : Int) a k A) (fun _ => rfl) (0) h (aU [0] rfl rfl (aM rfl (aT ⟨rfl, rfl, trivial⟩))) ?_;rintro N e h;simp only [dU] at h;refine aC (aC (aA (tm (.i e) (tm (Z23 a) (to (scm rfl rfl rfl) (aB ?_))))));refine tih h (fun O h => ?_) (fun O h => ?_)
       ·refine bA (aC (bS (aC (aA (tfl 0 rfl rfl cW rfl dY (tm (.i e) ?_))))));obtain ⟨s, P, h⟩ := bns h;refine to (six rfl rfl eL.of (bN aK P)) (to (xX (aK s) rfl tQ) ?_);refine bB rfl (cD (zs := [.j 0, .j 0, .k false]) (aF rfl) zeroValue43 rfl rfl) ?_;rintro _ ⟨E, rfl⟩;refine to (sst 1 rfl rfl sizeOf43 (aK s)) (aB (aC (aC (aA (tfl 1 rfl rfl iJ rfl aP ?_)))));obtain ⟨Q, T, h⟩ := bns h;refine to (scr call46 (kW _ _ _ T)) (to (sn rfl) (tm (.b (!Q)) ?_));obtain ⟨F, t, h⟩ := bns h;refine aW 5 [1, 3, 4, 5] 72 F ?_ ?_
        ·refine bch t (fun p t => ?_) (fun p t => ?_)
         ·refine tp p (tp p (tp p (tp p (to (spt Z18 p) ?_))));obtain rfl := sIn t;refine aB (aI rfl ⟨rfl, rfl, rfl, rfl, trivial⟩ rfl)
         ·refine tkl 1 p rfl rfl mX rfl aP ?_;obtain ⟨U, V, t⟩ := bns t;refine tk p (scr call46 (kW _ _ _ V)) (tk p (sn rfl) (to (spf (.b (!U)) p) ?_));obtain rfl := sIn t;refine aB (aI rfl ⟨rfl, rfl, rfl, rfl, trivial⟩ rfl)
        ·refine tm (.b F) ?_;obtain ⟨W, u, h⟩ := bns h;refine aW 9 [1, 3, 4, 5] 82 W ?_ ?_
         ·refine bch u (fun g u => ?_) (fun g u => ?_)
          ·refine tp g (tp g (tp g (tp g (tp g (tq (tq (tp g (to (spt Z18 g) ?_))))))));obtain rfl := sIn u;refine aB (aI rfl ⟨rfl, rfl, rfl, rfl, trivial⟩ rfl)
          ·refine tk g (sm (.i e)) (tkl 0 g rfl rfl iT rfl aP (tk g (scm rfl rfl rfl) (tk g (sm (.b (decide (e < a.Seeds)))) ?_)));obtain ⟨G, z, u⟩ := bns u;refine aW 3 [1, 3, 4, 5, 73, 74, 75, 76, 77, 78] 81 G ?_ ?_
           ·refine bch z (fun x z => ?_) (fun x z => ?_)
            ·refine tkl 1 x rfl rfl rL rfl nZ (tk g (spt (.b s.Qualified) x) ?_);obtain rfl := sIn z;refine aB (aI rfl ⟨rfl, rfl, rfl, rfl, rfl, rfl, rfl, rfl, rfl, rfl, trivial⟩ rfl)
            ·refine tp x (tp x (tk g (spf Z4 x) ?_));obtain rfl := sIn z;refine aB (aI rfl ⟨rfl, rfl, rfl, rfl, rfl, rfl, rfl, rfl, rfl, rfl, trivial⟩ rfl)
           ·refine to (spf (.b G) g) ?_;obtain rfl := sIn u;refine aB (aI rfl ⟨rfl, rfl, rfl, rfl, trivial⟩ rfl)
         ·refine aB ?_;refine tih h (fun X h => ?_) (fun X h => ?_)
          ·refine aC (aA (ta (.i 60) (aB ?_)));obtain rfl := sIn h;refine bM (bE (bG (l := [2]) ⟨rfl, trivial⟩)) ?_;exact rt
          ·refine bA (aC (aA (ta (.i 0) (aB ?_))));refine zX ?_;refine cR (S := Int) [1, 3, 4, 5] (fun B => [(6, .i B)]) (fun B => [.box b1 0 (aL a), .box E 0 (aK s)]) (fun k B => gR (dU (a.Persons.length : Int) a N) (a.Persons.length : Int) e a s k B) (fun _ => rfl) (0) h (aU [0, 1] rfl rfl (aM rfl (aT ⟨rfl, rfl, rfl, rfl, trivial⟩))) ?_;rintro a5 j h;simp only [gR] at h;refine aC (aC (aA (tm (.i j) (tm (.i e) (to (scm rfl rfl rfl) (aB ?_))))));refine tih h (fun Y h => ?_) (fun Y h => ?_)
           ·refine bA (aC (bS (aC ?_)));obtain ⟨w, Z, h⟩ := bns h;refine dJ mix 8 [1, 3, 4, 5, 6] [(93, .i w.Player), (95, .i s.Player)] ?_ ?_
            ·refine ⟨[(88, 0, .bp b1 0 2), (89, 1, .d (Z56 a)), (90, 2, .i j), (91, 3, .cp [.j w.Player, .j w.Nation, .k w.Qualified]), (92, 4, .cp [.j w.Player]), (93, 5, .i w.Player), (94, 6, .bp E 0 0), (95, 7, .i s.Player)], ?_, ?_⟩
             · exact dk [0, 1, 0, 203, 4, 5, 0, 7] ⟨go (zf rfl cW),
 go (zl 0 rfl rfl rfl dY),
 go (zm (.i j)),
 go (zix rfl rfl eL.of (bN aK Z)),
 go (zfc [.j w.Player] rfl iJ),
 go (zlc rfl aP),
 go (zf rfl iJ),
 go (zl 1 rfl rfl rfl aP), trivial⟩
             · exact cA (aM rfl (aM rfl (aT ⟨rfl, rfl, rfl, rfl, rfl, trivial⟩)))
            ·refine to (scm rfl rfl rfl) (aB ?_);refine tih h (fun a0 h => ?_) (fun a0 h => ?_)
             ·refine aC (aA (ta (.i 60) (aB ?_)));obtain rfl := sIn h;refine bM (bE (bG (l := [2]) ⟨rfl, trivial⟩)) ?_;exact rt
             ·refine cS ?_;refine aA (tm (.i j) (to (sar rfl rfl rfl) (ta (.i (w64 (j + 1))) (aB ?_))));exact ⟨(w64 (j + 1)), h, aU [0, 1] rfl rfl (aM rfl (aT ⟨rfl, rfl, rfl, rfl, trivial⟩))⟩
           ·refine cG ?_;refine .inl ⟨rfl, ?_⟩;simp only [qL] at h;simp only [qK] at h;refine aA (tm (.i e) (to (sar rfl rfl rfl) (ta (.i (w64 (e + 1))) (aB ?_))));exact ⟨(w64 (e + 1)), h, aU [0] rfl rfl (aM rfl (aT ⟨rfl, rfl, trivial⟩))⟩
       ·refine cG ?_;refine .inl ⟨rfl, ?_⟩;simp only [nC] at h;refine aC (aC (aA (ta (.i 0) (aB (bS ?_)))));refine cR (S := Int) [1] (fun C => [(7, .i C)]) (fun C => [.box b1 0 (aL a)]) (fun k C => gS a k C) (fun _ => rfl) (0) h (aU [0] rfl rfl (aM rfl (aT ⟨rfl, trivial⟩))) ?_;rintro a6 n h;simp only [gS] at h;refine aC (aC (aA (tm (.i n) (tfl 0 rfl rfl sW rfl dB (to (sle rfl bF.of) (to (scm rfl rfl rfl) (aB ?_)))))));refine tih h (fun a1 h => ?_) (fun a1 h => ?_)
        ·refine bA (aC (bS (aC (aA (tfl 0 rfl rfl sW rfl dB (tm (.i n) ?_))))));obtain ⟨a7, a2, h⟩ := bns h;refine to (six rfl rfl bF.of (bN aG a2)) (to (slc rfl aP) ?_);obtain ⟨a8, a3, h⟩ := bns h;refine to (scr call46 (kW _ _ _ a3)) (to (sn rfl) (aB ?_));refine tih h (fun a4 h => ?_) (fun a4 h => ?_)
         ·refine aC (aA (ta (.i 60) (aB ?_)));obtain rfl := sIn h;refine bM (bE (bG (l := [2]) ⟨rfl, trivial⟩)) ?_;exact rt
         ·refine cS ?_;refine aA (tm (.i n) (to (sar rfl rfl rfl) (ta (.i (w64 (n + 1))) (aB ?_))));exact ⟨(w64 (n + 1)), h, aU [0] rfl rfl (aM rfl (aT ⟨rfl, trivial⟩))⟩
        ·refine cG ?_;refine .inl ⟨rfl, ?_⟩;simp only [qM] at h;refine aC (aA (ta (.i 0) (aB ?_)));obtain rfl := sIn h;refine bM (bE (bG (l := [2]) ⟨rfl, trivial⟩)) ?_;exact rt

theorem tS (c : List Int) (e : Int) {r : Bool} (h : mC c e = some r) : Fn Tryz.prog 107 [.d (Z5 c), .i e] (.b r) := by
 unfold mC at h;refine oT [.tmp 4] func107 results107 ntmps107 ?_;refine aC (aA (ta Z4 (aB (aC (aC (aA (ta (.i 0) (aB (bS ?_)))))))));refine cR (S := Int) [0, 1] (fun s1 => [(5, .i s1)]) (fun s1 => []) (fun k s1 => jK c e k s1) (fun _ => rfl) (0) h (aU [] rfl rfl (aM rfl (aT ⟨rfl, rfl, trivial⟩))) ?_;rintro k2 a h;simp only [jK] at h;refine aC (aC (aA (tm (.i a) (tm (Z43 c) (to (sle rfl bF.of) (to (scm rfl rfl rfl) (aB ?_)))))));refine tih h (fun c3 h => ?_) (fun c3 h => ?_)
 ·refine bA (aC (bS (aC (aA (tm (Z43 c) (tm (.i a) ?_))))));obtain ⟨x4, h5, h⟩ := bns h;refine to (six rfl rfl bF.of (bN aG h5)) (to (slc rfl aP) (tm (.i e) (to (scm rfl rfl rfl) (aB ?_))));refine tih h (fun c6 h => ?_) (fun c6 h => ?_)
  ·refine aC (aA (ta Z18 (aB ?_)));obtain rfl := sIn h;exact rt
  ·refine cS ?_;refine aA (tm (.i a) (to (sar rfl rfl rfl) (ta (.i (w64 (a + 1))) (aB ?_))));exact ⟨(w64 (a + 1)), h, aU [] rfl rfl (aM rfl (aT ⟨rfl, rfl, trivial⟩))⟩
 ·refine cG ?_;refine .inl ⟨rfl, ?_⟩;simp only [sT] at h;refine aC (aA (ta Z4 (aB ?_)));obtain rfl := sIn h;exact rt

theorem aCc (e : aR) (a : List Int) {r : Bool} (h : mG e a = some r) : Fn Tryz.prog 86 [.agg (aL e), .d (Z5 a)] (.b r) := by
 unfold mG at h;refine oT [.tmp 4] func86 results86 ntmps86 ?_;refine aC (aA ?_);refine bB rfl (cQ (v := .agg (aL e)) (aF rfl) rfl rfl rfl) ?_;rintro _ ⟨b1, rfl⟩;refine ta Z4 (aB (aC (aC (aA (ta (.i 0) (aB (bS ?_)))))));refine cR (S := Int) [1, 2] (fun s2 => [(5, .i s2)]) (fun s2 => [.box b1 0 (aL e)]) (fun k s2 => fZ a e k s2) (fun _ => rfl) (0) h (aU [0] rfl rfl (aM rfl (aT ⟨rfl, rfl, trivial⟩))) ?_;rintro k3 c h;simp only [fZ] at h;refine aC (aC (aA (tm (.i c) (tfl 0 rfl rfl cW rfl dY (to (sle rfl eL.of) (to (scm rfl rfl rfl) (aB ?_)))))));refine tih h (fun c4 h => ?_) (fun c4 h => ?_)
 ·refine bA (aC (bS (aC (aA (tm (Z43 a) (tfl 0 rfl rfl cW rfl dY (tm (.i c) ?_)))))));obtain ⟨x5, h6, h⟩ := bns h;refine to (six rfl rfl eL.of (bN aK h6)) (to (sfc [.j x5.Player] rfl iJ) (to (slc rfl aP) ?_));obtain ⟨r7, h8, h⟩ := bns h;refine to (scr call107 (tS _ _ h8)) (to (sn rfl) (aB ?_));refine tih h (fun c9 h => ?_) (fun c9 h => ?_)
  ·refine aC (aA (ta Z4 (aB ?_)));obtain rfl := sIn h;refine bM (bE (bG (l := [4]) ⟨rfl, trivial⟩)) ?_;exact rt
  ·refine cS ?_;refine aA (tm (.i c) (to (sar rfl rfl rfl) (ta (.i (w64 (c + 1))) (aB ?_))));exact ⟨(w64 (c + 1)), h, aU [0] rfl rfl (aM rfl (aT ⟨rfl, rfl, trivial⟩))⟩
 ·refine cG ?_;refine .inl ⟨rfl, ?_⟩;simp only [pL] at h;refine aC (aA (ta Z18 (aB ?_)));obtain rfl := sIn h;refine bM (bE (bG (l := [4]) ⟨rfl, trivial⟩)) ?_;exact rt

theorem uL (c : aR) (a : Int) {r : Int} (h : kP c a = some r) : Fn Tryz.prog 35 [.agg (aL c), .i a] (.i r) := by
 unfold kP at h;refine oT [.tmp 4] func35 results35 ntmps35 ?_;refine aC (aA ?_);refine bB rfl (cQ (v := .agg (aL c)) (aF rfl) rfl rfl rfl) ?_;rintro _ ⟨b1, rfl⟩;refine ta (.i 0) (aB (aC (aC (aA (ta (.i 0) (aB (bS ?_)))))));refine cR (S := Int) [1, 2] (fun s2 => [(5, .i s2)]) (fun s2 => [.box b1 0 (aL c)]) (fun k s2 => fY a c k s2) (fun _ => rfl) (0) h (aU [0] rfl rfl (aM rfl (aT ⟨rfl, rfl, trivial⟩))) ?_;rintro k3 b h;simp only [fY] at h;refine aC (aC (aA (tm (.i b) (tfl 0 rfl rfl cW rfl dY (to (sle rfl eL.of) (to (scm rfl rfl rfl) (aB ?_)))))));refine tih h (fun c4 h => ?_) (fun c4 h => ?_)
 ·refine bA (aC (bS (aC (aA (tfl 0 rfl rfl cW rfl dY (tm (.i b) ?_))))));obtain ⟨x5, h6, h⟩ := bns h;refine to (six rfl rfl eL.of (bN aK h6)) (to (sfc [.j x5.Player] rfl iJ) (to (slc rfl aP) (tm (.i a) (to (scm rfl rfl rfl) (aB ?_)))));refine tih h (fun c7 h => ?_) (fun c7 h => ?_)
  ·refine aC (aA (tm (.i b) (ta (.i b) (aB ?_))));obtain rfl := sIn h;refine bM (bE (bG (l := [4]) ⟨rfl, trivial⟩)) ?_;exact rt
  ·refine cS ?_;refine aA (tm (.i b) (to (sar rfl rfl rfl) (ta (.i (w64 (b + 1))) (aB ?_))));exact ⟨(w64 (b + 1)), h, aU [0] rfl rfl (aM rfl (aT ⟨rfl, rfl, trivial⟩))⟩
 ·refine cG ?_;refine .inl ⟨rfl, ?_⟩;simp only [pJ] at h;refine aC (aA (ta (.i (-1)) (aB ?_)));obtain rfl := sIn h;refine bM (bE (bG (l := [4]) ⟨rfl, trivial⟩)) ?_;exact rt

theorem tU (c : aR) (g : Int) (j : Int) {r : Bool} (h : iE c g j = some r) : Fn Tryz.prog 87 [.agg (aL c), .i g, .i j] (.b r) := by
 unfold iE at h;refine oT [.tmp 6] func87 results87 ntmps87 ?_;refine aC (aA ?_);refine bB rfl (cQ (v := .agg (aL c)) (aF rfl) rfl rfl rfl) ?_;rintro _ ⟨b1, rfl⟩;refine ta Z4 (aB (aC (aC (aA (tm (.i g) (to (scm rfl rfl rfl) (tm (Z28 g) ?_)))))));obtain ⟨b2, h3, h⟩ := bns h;refine aW 3 [1, 2, 3] 14 b2 ?_ ?_
 ·refine bch h3 (fun m h3 => ?_) (fun m h3 => ?_)
  ·refine tp m (tp m (to (spt Z18 m) ?_));obtain rfl := sIn h3;refine aB (aI rfl ⟨rfl, rfl, rfl, trivial⟩ rfl)
  ·refine tk m (sm (.i j)) (tk m (scm rfl rfl rfl) (to (spf (Z28 j) m) ?_));obtain rfl := sIn h3;refine aB (aI rfl ⟨rfl, rfl, rfl, trivial⟩ rfl)
 ·refine aB ?_;refine tih h (fun c4 h => ?_) (fun c4 h => ?_)
  ·refine aC (aA (tm (.i g) (tm (.i j) (to (scm rfl rfl rfl) (ta (.b (!decide (g = j))) (aB ?_))))));obtain rfl := sIn h;refine bM (bE (bG (l := [6]) ⟨rfl, trivial⟩)) ?_;exact rt
  ·refine bA (aC ?_);obtain ⟨r6, h7, h⟩ := bns h;obtain ⟨x8, h9, h⟩ := bns h;obtain ⟨z, A, h⟩ := bns h;obtain ⟨f, B, h⟩ := bns h;refine iN mix 17 [] (fun X5 => [(7, .bp (X5 14).b 0 0), (8, .bp (X5 15).b 0 0), (31, .agg (aK f))]) (fun X5 => [.box b1 0 (aL c), .box (X5 14).b 0 (aK x8), .box (X5 15).b 0 Z25]) ?_ ?_
   ·refine ⟨2, fun X5 => [(18, 0, .bp b1 0 2), (19, 1, .d (Z56 c)), (20, 2, .agg (aL c)), (21, 3, .i g), (22, 4, .i r6), (23, 5, .cp [.j x8.Player, .j x8.Nation, .k x8.Qualified]), (24, 6, .agg (aK x8)), (25, 7, .bp b1 0 2), (26, 8, .d (Z56 c)), (27, 9, .agg (aL c)), (28, 10, .i j), (29, 11, .i z), (30, 12, .cp [.j f.Player, .j f.Nation, .k f.Qualified]), (31, 13, .agg (aK f)), (7, 14, .bp (X5 14).b 0 0), (8, 15, .bp (X5 15).b 0 0)], fun X5 => [([], .box b1 0 (aL c)), ([(16, .box (X5 14).b 0 (aK x8)), (14, .box (X5 14).b 0 Z25)], nob), ([(15, .box (X5 15).b 0 Z25)], nob)], ?_, ?_⟩
    · exact xok [(0, 17), (1, 17), (0, 17), (0, 17), (304, 17), (205, 17), (6, 17), (0, 0), (8, 0), (0, 17), (0, 17), (1011, 17), (912, 0), (13, 0), (0, 17), (0, 17), (71516, 0)] ⟨fun _ _ w _ k => xp w (yf k rfl cW),
 fun _ _ w _ k => xp w (yl k 0 rfl (og k rfl rfl) rfl dY),
 fun _ _ w _ k => xp w (yla k 0 (aL c) rfl (og k rfl rfl) dQ),
 fun _ _ w _ k => xp w (ym k (.i g)),
 fun _ _ w _ k => xp w (cZ (aF rfl) (.func _ _ call35) (ev2 (aY k rfl) (ev2 (aY k rfl) evn)) rfl (BVs.refl _ _) (uL _ _ h7) rfl),
 fun _ _ w _ k => xp w (yix k rfl rfl eL.of (bN aK h9)),
 fun _ _ w _ k => xp w (aQa k (aK x8) rfl tQ),
 fun _ _ w _ k => xp w (yf k rfl cW),
 fun _ _ w _ k => xp w (yl k 0 rfl (og k rfl rfl) rfl dY),
 fun _ _ w _ k => xp w (yla k 0 (aL c) rfl (og k rfl rfl) dQ),
 fun _ _ w _ k => xp w (ym k (.i j)),
 fun _ _ w _ k => xp w (cZ (aF rfl) (.func _ _ call35) (ev2 (aY k rfl) (ev2 (aY k rfl) evn)) rfl (BVs.refl _ _) (uL _ _ A) rfl),
 fun _ _ w _ k => xp w (yix k rfl rfl eL.of (bN aK B)),
 fun _ _ w _ k => xp w (aQa k (aK f) rfl tQ),
 fun X5 S hw hi hS => oA (X := X5) (p := 1) (v := fun x => .bp x.b 0 0) (mo := fun x => .box x.b 0 Z25) hS hi rfl rfl (fun _ => rfl) hw (fun _ => rfl) (fun _ => rfl) (fun _ => rfl) (fun _ => ⟨rfl, rfl, .inr rfl, ⟨rfl, rfl, .inr rfl, ⟨rfl, rfl, .inr rfl, ⟨rfl, rfl, .inr rfl, ⟨rfl, rfl, .inr rfl, ⟨rfl, rfl, .inr rfl, ⟨rfl, rfl, .inr rfl, ⟨rfl, rfl, .inr rfl, ⟨rfl, rfl, .inr rfl, ⟨rfl, rfl, .inr rfl, ⟨rfl, rfl, .inr rfl, ⟨rfl, rfl, .inr rfl, ⟨rfl, rfl, .inr rfl, ⟨rfl, rfl, .inr rfl, ⟨rfl, rfl, .inl rfl, ⟨rfl, rfl, .inr rfl, trivial⟩⟩⟩⟩⟩⟩⟩⟩⟩⟩⟩⟩⟩⟩⟩⟩) (fun _ => ⟨trivial, rfl, ⟨⟨rfl, .inl rfl, ⟨rfl, .inl rfl, trivial⟩⟩, rfl, ⟨⟨rfl, .inr rfl, trivial⟩, rfl, trivial⟩⟩⟩) (gN (cD (zs := [.j 0, .j 0, .k false]) (aF rfl) zeroValue43 rfl rfl) (by rintro _ ⟨w, rfl⟩; exact ⟨⟨w, undef⟩, aU [0, 3, 2] rfl rfl (le_refl _)⟩)),
 fun X5 S hw hi hS => oA (X := X5) (p := 2) (v := fun x => .bp x.b 0 0) (mo := fun x => .box x.b 0 Z25) hS hi rfl rfl (fun _ => rfl) hw (fun _ => rfl) (fun _ => rfl) (fun _ => rfl) (fun _ => ⟨rfl, rfl, .inr rfl, ⟨rfl, rfl, .inr rfl, ⟨rfl, rfl, .inr rfl, ⟨rfl, rfl, .inr rfl, ⟨rfl, rfl, .inr rfl, ⟨rfl, rfl, .inr rfl, ⟨rfl, rfl, .inr rfl, ⟨rfl, rfl, .inr rfl, ⟨rfl, rfl, .inr rfl, ⟨rfl, rfl, .inr rfl, ⟨rfl, rfl, .inr rfl, ⟨rfl, rfl, .inr rfl, ⟨rfl, rfl, .inr rfl, ⟨rfl, rfl, .inr rfl, ⟨rfl, rfl, .inr rfl, ⟨rfl, rfl, .inl rfl, trivial⟩⟩⟩⟩⟩⟩⟩⟩⟩⟩⟩⟩⟩⟩⟩⟩) (fun _ => ⟨trivial, rfl, ⟨⟨rfl, .inr rfl, ⟨rfl, .inr rfl, trivial⟩⟩, rfl, ⟨⟨rfl, .inl rfl, trivial⟩, rfl, trivial⟩⟩⟩) (gN (cD (zs := [.j 0, .j 0, .k false]) (aF rfl) zeroValue43 rfl rfl) (by rintro _ ⟨w, rfl⟩; exact ⟨⟨w, undef⟩, aU [0, 1, 3] rfl rfl (le_refl _)⟩)),
 fun _ _ _ _ k => xs 1 k rfl rfl (rV (i := 1) (aY k rfl) (og k rfl rfl) (aY k rfl) rfl rfl sizeOf43 rfl (aF rfl) (Nat.le_of_ble_eq_true rfl) (ds' := (aK x8)) rfl), trivial⟩
    · exact fun X5 => cA (aM rfl (aM rfl (aM rfl (aT trivial))))
   ·intro X5;refine to (sst 2 rfl rfl sizeOf43 (aK f)) (aB (aC (aA (tfl 1 rfl rfl mX rfl aP (to (scm rfl rfl rfl) (tm (.b (decide (x8.Nation = 0))) ?_))))));obtain ⟨t, q, h⟩ := bns h;refine aW 6 [7, 8] 41 t ?_ ?_
    ·refine bch q (fun e q => ?_) (fun e q => ?_)
     ·refine tp e (tp e (tp e (tp e (tp e (to (spt Z18 e) ?_)))));obtain rfl := sIn q;refine aB (aI rfl ⟨rfl, rfl, trivial⟩ rfl)
     ·refine tkl 1 e rfl rfl mX rfl aP (tkl 2 e rfl rfl mX rfl aP (tk e (scm rfl rfl rfl) (to (spf (.b (!decide (x8.Nation = f.Nation))) e) ?_)));obtain rfl := sIn q;refine aB (aI rfl ⟨rfl, rfl, trivial⟩ rfl)
    ·refine tm (.b t) ?_;obtain ⟨u, n, h⟩ := bns h;refine aW 8 [] 50 u ?_ ?_
     ·refine bch n (fun a n => ?_) (fun a n => ?_)
      ·refine tkl 1 a rfl rfl rL rfl nZ (tk a (sm (.b x8.Qualified)) ?_);obtain ⟨y, s, n⟩ := bns n;refine aW 3 [42] 48 y ?_ ?_
       ·refine bch s (fun o s => ?_) (fun o s => ?_)
        ·refine tkl 2 o rfl rfl rL rfl nZ (tk a (spt (.b f.Qualified) o) ?_);obtain rfl := sIn s;refine aB (aI rfl ⟨rfl, trivial⟩ rfl)
        ·refine tp o (tp o (tk a (spf Z4 o) ?_));obtain rfl := sIn s;refine aB (aI rfl ⟨rfl, trivial⟩ rfl)
       ·refine tk a (sn rfl) (to (spt (.b (!y)) a) ?_);obtain rfl := sIn n;refine aB (aI rfl trivial rfl)
      ·refine tp a (tp a (tp a (tq (tq (tp a (tp a (to (spf Z4 a) ?_)))))));obtain rfl := sIn n;refine aB (aI rfl trivial rfl)
     ·refine ta (.b u) (aB ?_);obtain rfl := sIn h;refine bM (bE (bG (l := [6]) ⟨rfl, trivial⟩)) ?_;exact rt

theorem aEp (a : List Int) (b : Int) {r : Int} (h : nQ a b = some r) : Fn Tryz.prog 88 [.d (Z5 a), .i b] (.i r) := by
 unfold nQ at h;refine oT [.tmp 4] func88 results88 ntmps88 ?_;refine aC (aA (ta (.i 0) (aB (aC (aC (aA (ta (.i 0) (aB (bS ?_)))))))));refine cR (S := Int) [0, 1] (fun s1 => [(5, .i s1)]) (fun s1 => []) (fun k s1 => iF a b k s1) (fun _ => rfl) (0) h (aU [] rfl rfl (aM rfl (aT ⟨rfl, rfl, trivial⟩))) ?_;rintro k2 c h;simp only [iF] at h;refine aC (aC (aA (tm (.i c) (tm (Z43 a) (to (sle rfl bF.of) (to (scm rfl rfl rfl) (aB ?_)))))));refine tih h (fun c3 h => ?_) (fun c3 h => ?_)
 ·refine bA (aC (bS (aC (aA (tm (Z43 a) (tm (.i c) ?_))))));obtain ⟨x4, h5, h⟩ := bns h;refine to (six rfl rfl bF.of (bN aG h5)) (to (slc rfl aP) (tm (.i b) (to (scm rfl rfl rfl) (aB ?_))));refine tih h (fun c6 h => ?_) (fun c6 h => ?_)
  ·refine aC (aA (tm (.i c) (ta (.i c) (aB ?_))));obtain rfl := sIn h;exact rt
  ·refine cS ?_;refine aA (tm (.i c) (to (sar rfl rfl rfl) (ta (.i (w64 (c + 1))) (aB ?_))));exact ⟨(w64 (c + 1)), h, aU [] rfl rfl (aM rfl (aT ⟨rfl, rfl, trivial⟩))⟩
 ·refine cG ?_;refine .inl ⟨rfl, ?_⟩;simp only [rD] at h;refine aC (aA (ta (.i (-1)) (aB ?_)));obtain rfl := sIn h;exact rt

theorem aCn (a : Int) {r : Int} (h : pK a = some r) : Fn Tryz.prog 89 [.i a] (.i r) := by
 unfold pK at h;refine oT [.tmp 2] func89 results89 ntmps89 ?_;refine aC (aA (ta (.i 0) (aB (aC (aA (tm (.i a) (to (aMj (aF rfl) rfl rfl (.inr (.inr ⟨rfl, rfl⟩))) ?_)))))));refine ta (.i (aFj a 1)) (aB ?_);obtain rfl := sIn h;exact rt

theorem aCm (a : aR) (c : List Int) {r : Bool} (h : mT a c = some r) : Fn Tryz.prog 33 [.agg (aL a), .d (Z5 c)] (.b r) := by
 unfold mT at h;refine oT [.tmp 4] func33 results33 ntmps33 ?_;refine aC (aA ?_);refine bB rfl (cQ (v := .agg (aL a)) (aF rfl) rfl rfl rfl) ?_;rintro _ ⟨b1, rfl⟩;refine ta Z4 (aB (aC (aC (aA (to (sla 0 (aL a) rfl rfl dQ) (tm (Z43 c) ?_))))));obtain ⟨r2, h3, h⟩ := bns h;refine to (scr call86 (aCc _ _ h3)) (to (sn rfl) (aB ?_));refine tih h (fun c4 h => ?_) (fun c4 h => ?_)
 ·refine aC (aA (ta Z4 (aB ?_)));obtain rfl := sIn h;refine bM (bE (bG (l := [4]) ⟨rfl, trivial⟩)) ?_;exact rt
 ·refine bA (aC (aC (aA (ta (.i 0) (aB (bS ?_))))));refine cR (S := Int) [1, 2] (fun s5 => [(5, .i s5)]) (fun s5 => [.box b1 0 (aL a)]) (fun k s5 => gT c a k s5) (fun _ => rfl) (0) h (aU [0] rfl rfl (aM rfl (aT ⟨rfl, rfl, trivial⟩))) ?_;rintro k6 g h;simp only [gT] at h;refine aC (aC (aA (tm (.i g) (tfl 0 rfl rfl cL rfl aP (to (scm rfl rfl rfl) (aB ?_))))));refine tih h (fun c7 h => ?_) (fun c7 h => ?_)
  ·refine bA (aC (bS (aC ?_)));obtain ⟨x8, h9, h⟩ := bns h;obtain ⟨A, H, h⟩ := bns h;refine dJ mix 10 [1, 2, 5] [(21, .agg (aL a)), (25, .i x8), (30, .i A)] ?_ ?_
   ·refine ⟨[(21, 0, .agg (aL a)), (22, 1, .d (Z5 c)), (23, 2, .i g), (24, 3, .cp [.j x8]), (25, 4, .i x8), (26, 5, .d (Z5 c)), (27, 6, .i g), (28, 7, .i (w64 (g + 1))), (29, 8, .cp [.j A]), (30, 9, .i A)], ?_, ?_⟩
    · exact dk [0, 0, 0, 203, 4, 0, 0, 7, 608, 9] ⟨go (zla 0 (aL a) rfl rfl dQ),
 go (zm (Z43 c)),
 go (zm (.i g)),
 go (zix rfl rfl bF.of (bN aG h9)),
 go (zlc rfl aP),
 go (zm (Z43 c)),
 go (zm (.i g)),
 go (zar rfl rfl rfl),
 go (zix rfl rfl bF.of (bN aG H)),
 go (zlc rfl aP), trivial⟩
    · exact cA (aM rfl (aM rfl (aM rfl (aT ⟨rfl, rfl, rfl, trivial⟩))))
   ·obtain ⟨V, I, h⟩ := bns h;refine to (scr call87 (tU _ _ _ I)) (to (sn rfl) (aB ?_));refine tih h (fun J h => ?_) (fun J h => ?_)
    ·refine aC (aA (ta Z4 (aB ?_)));obtain rfl := sIn h;refine bM (bE (bG (l := [4]) ⟨rfl, trivial⟩)) ?_;exact rt
    ·refine cS ?_;refine aA (tm (.i g) (to (sar rfl rfl rfl) (ta (.i (w64 (g + 2))) (aB ?_))));exact ⟨(w64 (g + 2)), h, aU [0] rfl rfl (aM rfl (aT ⟨rfl, rfl, trivial⟩))⟩
  ·refine cG ?_;refine .inl ⟨rfl, ?_⟩;simp only [kV] at h;refine aC (aA (tfl 0 rfl rfl cL rfl aP (tfl 0 rfl rfl cW rfl dY (to (sle rfl eL.of) (to (sar rfl rfl rfl) (ta (.i (Z7 a)) (aB (aC (aC (aA (ta (.i 0) ?_)))))))))));refine aB (bS ?_);refine cR (S := Int) [1, 2, 6] (fun z => [(7, .i z)]) (fun z => [.box b1 0 (aL a)]) (fun k z => gU c (Z7 a) a k z) (fun _ => rfl) (0) h (aU [0] rfl rfl (aM rfl (aT ⟨rfl, rfl, rfl, trivial⟩))) ?_;rintro W e h;simp only [gU] at h;refine aC (aC (aA (tm (.i e) (tfl 0 rfl rfl iT rfl aP (to (scm rfl rfl rfl) (aB ?_))))));refine tih h (fun K h => ?_) (fun K h => ?_)
   ·refine bA (aC (bS (aC (aA (tm (Z43 c) (tfl 0 rfl rfl cW rfl dY (tm (.i e) ?_)))))));obtain ⟨L, M, h⟩ := bns h;refine to (six rfl rfl eL.of (bN aK M)) (to (sfc [.j L.Player] rfl iJ) (to (slc rfl aP) ?_));obtain ⟨n, N, h⟩ := bns h;refine to (scr call88 (aEp _ _ N)) (ta (.i n) (aB (aC ?_)));refine dJ mix 11 [1, 2, 6, 7, 8] [(9, .i (Z41 a)), (62, .i (w64 (Z13 a)))] ?_ ?_
    ·refine ⟨[(53, 0, .bp b1 0 0), (54, 1, .i a.Size), (55, 2, .i (Z41 a)), (56, 3, .bp b1 0 0), (57, 4, .i a.Size), (58, 5, .i (w64 (a.Size - 1))), (59, 6, .bp b1 0 0), (60, 7, .i a.Size), (61, 8, .i (Z41 a)), (62, 9, .i (w64 (Z13 a))), (9, 10, .i (Z41 a))], ?_, ?_⟩
     · exact dk [0, 1, 2, 0, 4, 5, 0, 7, 8, 609, 3] ⟨go (zf rfl cL),
 go (zl 0 rfl rfl rfl aP),
 go fun S hS => pY (aF rfl) (aY hS rfl) rfl (by decide),
 go (zf rfl cL),
 go (zl 0 rfl rfl rfl aP),
 go (zar rfl rfl rfl),
 go (zf rfl cL),
 go (zl 0 rfl rfl rfl aP),
 go fun S hS => pY (aF rfl) (aY hS rfl) rfl (by decide),
 go (zar rfl rfl rfl),
 go (za (.i (Z41 a))), trivial⟩
     · exact cA (aM rfl (aM rfl (aT ⟨rfl, rfl, rfl, rfl, rfl, trivial⟩)))
    ·refine ta (.i (w64 (Z13 a))) (aB (aC (aC (aA (tm (.i e) (to (scm rfl rfl rfl) (tm (.b (decide (e = 0))) ?_)))))));obtain ⟨B, u, h⟩ := bns h;refine aW 3 [1, 2, 6, 7, 8, 9, 10] 68 B ?_ ?_
     ·refine bch u (fun s u => ?_) (fun s u => ?_)
      ·refine tk s (sm (.i n)) (tk s (scm rfl rfl rfl) (to (spt (.b (!decide (n = 0))) s) ?_));obtain rfl := sIn u;refine aB (aI rfl ⟨rfl, rfl, rfl, rfl, rfl, rfl, rfl, trivial⟩ rfl)
      ·refine tp s (tp s (to (spf Z4 s) ?_));obtain rfl := sIn u;refine aB (aI rfl ⟨rfl, rfl, rfl, rfl, rfl, rfl, rfl, trivial⟩ rfl)
     ·refine tm (.b B) ?_;obtain ⟨C, t, h⟩ := bns h;refine aW 10 [1, 2, 6, 7, 8, 9, 10] 79 C ?_ ?_
      ·refine bch t (fun j t => ?_) (fun j t => ?_)
       ·refine tp j (tp j (tp j (tq (tq (tq (tq (tq (tp j (to (spt Z18 j) ?_)))))))));obtain rfl := sIn t;refine aB (aI rfl ⟨rfl, rfl, rfl, rfl, rfl, rfl, rfl, trivial⟩ rfl)
       ·refine tk j (sm (.i e)) (tk j (scm rfl rfl rfl) (tk j (sm (.b (decide (e = 1)))) ?_));obtain ⟨E, w, t⟩ := bns t;refine aW 6 [1, 2, 6, 7, 8, 9, 10, 69, 70, 71, 72] 78 E ?_ ?_
        ·refine bch w (fun m w => ?_) (fun m w => ?_)
         ·refine tk m (sm (.i n)) (tkl 0 m rfl rfl cL rfl aP (tk m (sar rfl rfl rfl) (tk m (scm rfl rfl rfl) (tk j (spt (.b (!decide (n = (w64 (a.Size - 1))))) m) ?_))));obtain rfl := sIn w;refine aB (aI rfl ⟨rfl, rfl, rfl, rfl, rfl, rfl, rfl, rfl, rfl, rfl, rfl, trivial⟩ rfl)
         ·refine tp m (tp m (tp m (tp m (tp m (tk j (spf Z4 m) ?_)))));obtain rfl := sIn w;refine aB (aI rfl ⟨rfl, rfl, rfl, rfl, rfl, rfl, rfl, rfl, rfl, rfl, rfl, trivial⟩ rfl)
        ·refine to (spf (.b E) j) ?_;obtain rfl := sIn t;refine aB (aI rfl ⟨rfl, rfl, rfl, rfl, rfl, rfl, rfl, trivial⟩ rfl)
      ·refine tm (.b C) ?_;obtain ⟨O, o, h⟩ := bns h;refine aW 13 [1, 2, 6, 7, 8] 93 O ?_ ?_
       ·refine bch o (fun f o => ?_) (fun f o => ?_)
        ·refine tp f (tp f (tp f (tq (tq (tq (tp f (tp f (tq (tq (tq (tp f (to (spt Z18 f) ?_))))))))))));obtain rfl := sIn o;refine aB (aI rfl ⟨rfl, rfl, rfl, rfl, rfl, trivial⟩ rfl)
        ·refine tk f (sm (.i e)) (tk f (scm rfl rfl rfl) (tk f (sm (.b (decide (2 ≤ e)))) ?_));obtain ⟨F, x, o⟩ := bns o;refine aW 4 [1, 2, 6, 7, 8, 10, 80, 81, 82, 83] 87 F ?_ ?_
         ·refine bch x (fun p x => ?_) (fun p x => ?_)
          ·refine tk p (sm (.i n)) (tk p (sm (.i (Z41 a))) (tk p (scm rfl rfl rfl) (tk f (spt (.b (!decide (n = (Z41 a)))) p) ?_)));obtain rfl := sIn x;refine aB (aI rfl ⟨rfl, rfl, rfl, rfl, rfl, rfl, rfl, rfl, rfl, rfl, trivial⟩ rfl)
          ·refine tp p (tp p (tp p (tk f (spf Z4 p) ?_)));obtain rfl := sIn x;refine aB (aI rfl ⟨rfl, rfl, rfl, rfl, rfl, rfl, rfl, rfl, rfl, rfl, trivial⟩ rfl)
         ·refine tk f (sm (.b F)) ?_;obtain ⟨G, y, o⟩ := bns o;refine aW 4 [1, 2, 6, 7, 8, 80, 81, 82, 83, 87, 88] 92 G ?_ ?_
          ·refine bch y (fun q y => ?_) (fun q y => ?_)
           ·refine tk q (sm (.i n)) (tk q (sm (.i (w64 (Z13 a)))) (tk q (scm rfl rfl rfl) (tk f (spt (.b (!decide (n = (w64 (Z13 a))))) q) ?_)));obtain rfl := sIn y;refine aB (aI rfl ⟨rfl, rfl, rfl, rfl, rfl, rfl, rfl, rfl, rfl, rfl, rfl, trivial⟩ rfl)
           ·refine tp q (tp q (tp q (tk f (spf Z4 q) ?_)));obtain rfl := sIn y;refine aB (aI rfl ⟨rfl, rfl, rfl, rfl, rfl, rfl, rfl, rfl, rfl, rfl, rfl, trivial⟩ rfl)
          ·refine to (spf (.b G) f) ?_;obtain rfl := sIn o;refine aB (aI rfl ⟨rfl, rfl, rfl, rfl, rfl, trivial⟩ rfl)
       ·refine aB ?_;refine tih h (fun P h => ?_) (fun P h => ?_)
        ·refine aC (aA (ta Z4 (aB ?_)));obtain rfl := sIn h;refine bM (bE (bG (l := [4]) ⟨rfl, trivial⟩)) ?_;exact rt
        ·refine bA (aC (aA (tm (.i e) (tm (.i (Z7 a)) (to (scm rfl rfl rfl) (tm (Z43 c) (tm (.i n) ?_)))))));obtain ⟨X, Q, h⟩ := bns h;refine to (scr call89 (aCn _ Q)) ?_;obtain ⟨Y, T, h⟩ := bns h;refine to (six rfl rfl bF.of (bN aG T)) (to (slc rfl aP) (to (scm rfl rfl rfl) (to (aKl (aF rfl) rfl rfl underlying4) ?_)));refine aB ?_;refine tih h (fun U h => ?_) (fun U h => ?_)
         ·refine aC (aA (ta Z4 (aB ?_)));obtain rfl := sIn h;refine bM (bE (bG (l := [4]) ⟨rfl, trivial⟩)) ?_;exact rt
         ·refine cS ?_;refine aA (tm (.i e) (to (sar rfl rfl rfl) (ta (.i (w64 (e + 1))) (aB ?_))));exact ⟨(w64 (e + 1)), h, aU [0] rfl rfl (aM rfl (aT ⟨rfl, rfl, rfl, trivial⟩))⟩
   ·refine cG ?_;refine .inl ⟨rfl, ?_⟩;simp only [qN] at h;refine aC (aA (ta Z18 (aB ?_)));obtain rfl := sIn h;refine bM (bE (bG (l := [4]) ⟨rfl, trivial⟩)) ?_;exact rt

theorem aAi (j : aR) {r : (List Int)} (h : lK j = some r) : Fn Tryz.prog 105 [.agg (aL j)] (.d (.sl 1 (r.map aG))) := by
 unfold lK at h;refine oT [.tmp 2] func105 results105 ntmps105 ?_;refine aC (aA ?_);refine bB rfl (cQ (v := .agg (aL j)) (aF rfl) rfl rfl rfl) ?_;rintro _ ⟨b1, rfl⟩;refine to (sN 1 (aF rfl)) ?_;refine aB (aC (aA (to (sN 1 (aF rfl)) ?_)));refine aB (aC (aC (aA (ta (.i 0) (aB (bS ?_))))));refine cR (S := (List Int) × Int) [1] (fun s2 => [(3, .d (.sl 1 (s2.1.map aG))), (4, .i s2.2)]) (fun s2 => [.box b1 0 (aL j)]) (fun k s2 => dE j k s2.1 s2.2) (fun _ => rfl) (([] : List Int), 0) h (aU [0] rfl rfl (aM rfl (aM rfl (aT ⟨rfl, trivial⟩)))) ?_;rintro k3 ⟨a, g⟩ h;simp only [dE] at h;refine aC (aC (aA (tm (.i g) (tfl 0 rfl rfl cW rfl dY (to (sle rfl eL.of) (to (scm rfl rfl rfl) (aB ?_)))))));refine tih h (fun c4 h => ?_) (fun c4 h => ?_)
 ·refine bA (aC (bS (aC (aA (tfl 0 rfl rfl cW rfl dY (tm (.i g) ?_))))));obtain ⟨x5, h6, h⟩ := bns h;refine to (six rfl rfl eL.of (bN aK h6)) (to (sfc [.j x5.Player] rfl iJ) (to (slc rfl aP) (ta (.i x5.Player) (aB (aC (aA (ta (.i 0) (aB (aC (bS ?_))))))))));refine cR (S := Int) [1, 3, 4, 5] (fun s7 => [(6, .i s7)]) (fun s7 => [.box b1 0 (aL j)]) (fun k s7 => fI (dE j k3) a g x5.Player j k s7) (fun _ => rfl) (0) h (aU [0] rfl rfl (aM rfl (aT ⟨rfl, rfl, rfl, rfl, trivial⟩))) ?_;rintro k8 c h;simp only [fI] at h;refine aC (aC (aA (tm (.i c) (tm (.d (.sl 1 (a.map aG))) (to (sle rfl bF.of) (to (scm rfl rfl rfl) (tm (.b (decide (c < (a.length : Int)))) ?_)))))));obtain ⟨b9, m, h⟩ := bns h;refine aW 7 [1, 3, 4, 5, 6] 32 b9 ?_ ?_
  ·refine bch m (fun e m => ?_) (fun e m => ?_)
   ·refine tk e (sm (.d (.sl 1 (a.map aG)))) (tk e (sm (.i c)) ?_);obtain ⟨p, q, m⟩ := bns m;refine tk e (six rfl rfl bF.of (bN aG q)) (tk e (slc rfl aP) (tk e (sm (.i x5.Player)) (tk e (scm rfl rfl rfl) (to (spt (.b (decide (p < x5.Player))) e) ?_))));obtain rfl := sIn m;refine aB (aI rfl ⟨rfl, rfl, rfl, rfl, rfl, trivial⟩ rfl)
   ·refine tp e (tp e (tp e (tp e (tp e (tp e (to (spf Z4 e) ?_))))));obtain rfl := sIn m;refine aB (aI rfl ⟨rfl, rfl, rfl, rfl, rfl, trivial⟩ rfl)
  ·refine aB ?_;refine tih h (fun s h => ?_) (fun s h => ?_)
   ·refine bA (bS (aA (tm (.i c) (to (sar rfl rfl rfl) (ta (.i (w64 (c + 1))) ?_)))));refine iZ ?_;exact ⟨(w64 (c + 1)), h, aU [0] rfl rfl (aM rfl (aT ⟨rfl, rfl, rfl, rfl, trivial⟩))⟩
   ·refine cG ?_;refine .inl ⟨rfl, ?_⟩;simp only [iA] at h;refine aC (aA (tm (.i x5.Player) (to (aMn (aF rfl) bF rfl rfl (rows := ([x5.Player]).map aG) rfl (bO (f := aG) fun _ => rfl) rfl (by decide)) ?_)));refine tm (.d (.sl 1 (a.map aG))) (tm (.i c) ?_);obtain ⟨t, u, h⟩ := bns h;refine to (wO (aF rfl) bF.of rfl rfl aXg (aEj aG u)) ?_;obtain ⟨o, w, h⟩ := bns h;refine to (aRo (.d (.weak _ _)) (aJs (nn := true) (f := aG) (xs := [x5.Player]) (ys := t) (aF rfl) bF rfl rfl (fun _ => rfl) w rfl)) ?_;refine ta (.d (.sl 1 (o.map aG))) (aB (aA ?_));refine bB rfl (yS (aF rfl) bF rfl rfl (rows := (([] : List Int)).map aG) rfl (bO (f := aG) fun _ => rfl) rfl (by decide)) ?_;rintro _ ⟨B, rfl⟩;refine tm (.d (.sl 1 (a.map aG))) (tm (.i c) ?_);obtain ⟨C, x, h⟩ := bns h;refine to (wO (aF rfl) bF.of rfl rfl rfl (aEj aG x)) ?_;obtain ⟨E, y, h⟩ := bns h;refine bB rfl (gM (i := 1) (aF rfl) bF rfl rfl rfl (fun _ => rfl) y rfl) ?_;rintro _ ⟨F, rfl⟩;refine tm (.d (.sl 1 (o.map aG))) ?_;obtain ⟨n, z, h⟩ := bns h;refine bB rfl (gM (i := 1) (aF rfl) bF rfl rfl rfl (fun _ => rfl) z rfl) ?_;rintro _ ⟨A, rfl⟩;refine fE (zP [.box b1 0 (aL j)] [.arr A 3 1 (n.map aG)] rfl (aQf (v' := .d (.sl 1 (n.map aG))) (.d (aNy (bO (f := aG) fun _ => rfl))) (sR _ _))) ?_;refine ta (.d (.sl 1 (n.map aG))) ?_;refine iZ ?_;simp only [lW] at h;refine aA (tm (.i g) (to (sar rfl rfl rfl) (ta (.i (w64 (g + 1))) (aB ?_))));exact ⟨(n, w64 (g + 1)), h, aU [0] rfl rfl (aM rfl (aM rfl (aT ⟨rfl, trivial⟩)))⟩
 ·refine cG ?_;refine .inl ⟨rfl, ?_⟩;simp only [oV] at h;refine aC (aA (tm (.d (.sl 1 (a.map aG))) (ta (.d (.sl 1 (a.map aG))) (aB ?_))));obtain rfl := sIn h;refine bM (bE (bG (l := [2]) ⟨rfl, trivial⟩)) ?_;exact rt

theorem rY (c : List Int) (e : Int) {r : Int} (h : nP c e = some r) : Fn Tryz.prog 106 [.d (Z5 c), .i e] (.i r) := by
 unfold nP at h;refine oT [.tmp 4] func106 results106 ntmps106 ?_;refine aC (aA (ta (.i 0) (aB (aC (aA (ta (.i 0) (aB (aC (aC (aA (ta (.i 0) (aB (bS ?_)))))))))))));refine cR (S := Int × Int) [0, 1] (fun s1 => [(5, .i s1.1), (6, .i s1.2)]) (fun s1 => []) (fun k s1 => fQ c e k s1.1 s1.2) (fun _ => rfl) (0, 0) h (aU [] rfl rfl (aM rfl (aM rfl (aT ⟨rfl, rfl, trivial⟩)))) ?_;rintro k2 ⟨b, a⟩ h;simp only [fQ] at h;refine aC (aC (aA (tm (.i a) (tm (Z43 c) (to (sle rfl bF.of) (to (scm rfl rfl rfl) (aB ?_)))))));refine tih h (fun c3 h => ?_) (fun c3 h => ?_)
 ·refine bA (aC (bS (aC (aA (tm (Z43 c) (tm (.i a) ?_))))));obtain ⟨x4, h5, h⟩ := bns h;refine to (six rfl rfl bF.of (bN aG h5)) (to (slc rfl aP) (tm (.i e) (to (scm rfl rfl rfl) (aB ?_))));refine tih h (fun c6 h => ?_) (fun c6 h => ?_)
  ·refine aA (tm (.i b) (to (sar rfl rfl rfl) (ta (.i (w64 (b + 1))) ?_)));refine iZ ?_;refine aA (tm (.i a) (to (sar rfl rfl rfl) (ta (.i (w64 (a + 1))) (aB ?_))));exact ⟨(w64 (b + 1), w64 (a + 1)), h, aU [] rfl rfl (aM rfl (aM rfl (aT ⟨rfl, rfl, trivial⟩)))⟩
  ·refine cS ?_;refine aA (tm (.i a) (to (sar rfl rfl rfl) (ta (.i (w64 (a + 1))) (aB ?_))));exact ⟨(b, w64 (a + 1)), h, aU [] rfl rfl (aM rfl (aM rfl (aT ⟨rfl, rfl, trivial⟩)))⟩
 ·refine cG ?_;refine .inl ⟨rfl, ?_⟩;simp only [rC] at h;refine aC (aA (tm (.i b) (ta (.i b) (aB ?_))));obtain rfl := sIn h;exact rt

theorem aEo (j : aR) (a : List Int) {r : Bool} (h : nO j a = some r) : Fn Tryz.prog 108 [.agg (aL j), .d (Z5 a)] (.b r) := by
 unfold nO at h;refine oT [.tmp 4] func108 results108 ntmps108 ?_;refine aC (aA ?_);refine bB rfl (cQ (v := .agg (aL j)) (aF rfl) rfl rfl rfl) ?_;rintro _ ⟨b1, rfl⟩;refine ta Z4 (aB (aC (aA (tm (Z43 a) (to (sle rfl bF.of) (to (sar rfl rfl rfl) (ta (.i (Z6 a)) (aB (aC (aC ?_))))))))));obtain ⟨b2, h3, h⟩ := bns h;refine dJ mix 17 [1, 2, 5] [(27, .b b2)] ?_ ?_
 ·refine bch h3 (fun c4 h3 => ?_) (fun c4 h3 => ?_)
  ·obtain ⟨x5, h6, h3⟩ := bns h3;obtain ⟨x7, h8, h3⟩ := bns h3;obtain ⟨r9, s, h3⟩ := bns h3;obtain rfl := sIn h3;refine ⟨[(11, 0, .i (Z6 a)), (12, 1, .i ((Z6 a).tmod 2)), (13, 2, .b (Z37 a)), (14, 3, .b (Z37 a)), (15, 4, .agg (aL j)), (16, 5, .d (Z5 a)), (17, 6, .i (Z6 a)), (18, 7, .i (w64 ((Z6 a) - 1))), (19, 8, .cp [.j x5]), (20, 9, .i x5), (21, 10, .d (Z5 a)), (22, 11, .i (Z6 a)), (23, 12, .cp [.j x7]), (24, 13, .i x7), (25, 14, .b r9), (26, 15, .b (!r9)), (27, 16, .b (!r9))], ?_, ?_⟩
   · exact dk [0, 1, 2, 3, 4, 4, 4, 407, 40608, 409, 4, 4, 41112, 413, 4051014, 415, 416] ⟨go (zm (.i (Z6 a))),
 go fun S hS => mK (aF rfl) (aY hS rfl) rfl (by decide),
 go (zcm rfl rfl rfl),
 go (zm (.b (Z37 a))),
 gt c4 (zla 0 (aL j) rfl rfl dQ),
 gt c4 (zm (Z43 a)),
 gt c4 (zm (.i (Z6 a))),
 gt c4 (zar rfl rfl rfl),
 gt c4 (zix rfl rfl bF.of (bN aG h6)),
 gt c4 (zlc rfl aP),
 gt c4 (zm (Z43 a)),
 gt c4 (zm (.i (Z6 a))),
 gt c4 (zix rfl rfl bF.of (bN aG h8)),
 gt c4 (zlc rfl aP),
 gt c4 fun S hS => cZ (aF rfl) (.func _ _ call87) (ev2 (aY hS rfl) (ev2 (aY hS rfl) (ev2 (aY hS rfl) evn))) rfl (BVs.refl _ _) (tU _ _ _ s) rfl,
 gt c4 (zn rfl),
 go (zpt (.b (!r9)) c4), trivial⟩
   · exact cA (aM rfl (aT ⟨rfl, rfl, rfl, trivial⟩))
  ·obtain rfl := sIn h3;refine ⟨[(11, 0, .i (Z6 a)), (12, 1, .i ((Z6 a).tmod 2)), (13, 2, .b (Z37 a)), (14, 3, .b (Z37 a)), (15, 4, .tup []), (16, 5, .tup []), (17, 6, .tup []), (18, 7, .tup []), (19, 8, .tup []), (20, 9, .tup []), (21, 10, .tup []), (22, 11, .tup []), (23, 12, .tup []), (24, 13, .tup []), (25, 14, .tup []), (26, 15, .tup []), (27, 16, .b false)], ?_, ?_⟩
   · exact dk [0, 1, 2, 3, 4, 4, 4, 407, 40608, 409, 4, 4, 41112, 413, 4051014, 415, 416] ⟨go (zm (.i (Z6 a))),
 go fun S hS => mK (aF rfl) (aY hS rfl) rfl (by decide),
 go (zcm rfl rfl rfl),
 go (zm (.b (Z37 a))),
 gp c4,
 gp c4,
 gp c4,
 gp c4,
 gp c4,
 gp c4,
 gp c4,
 gp c4,
 gp c4,
 gp c4,
 gp c4,
 gp c4,
 go (zpf Z4 c4), trivial⟩
   · exact cA (aM rfl (aT ⟨rfl, rfl, rfl, trivial⟩))
 ·refine aB ?_;refine tih h (fun t h => ?_) (fun t h => ?_)
  ·refine aC (aA (ta Z4 (aB ?_)));obtain rfl := sIn h;refine bM (bE (bG (l := [4]) ⟨rfl, trivial⟩)) ?_;exact rt
  ·refine bA (aC (aC (aA (ta (.i 0) (aB (bS ?_))))));refine cR (S := Int) [1, 2, 5] (fun p => [(6, .i p)]) (fun p => [.box b1 0 (aL j)]) (fun k p => eC a (Z6 a) j k p) (fun _ => rfl) (0) h (aU [0] rfl rfl (aM rfl (aT ⟨rfl, rfl, rfl, trivial⟩))) ?_;rintro F c h;simp only [eC] at h;refine aC (aC (aA (tm (.i c) (tfl 0 rfl rfl iT rfl aP (to (scm rfl rfl rfl) (aB ?_))))));refine tih h (fun u h => ?_) (fun u h => ?_)
   ·refine bA (aC (bS (aC ?_)));obtain ⟨m, w, h⟩ := bns h;obtain ⟨f, x, h⟩ := bns h;refine dJ mix 10 [1, 2, 5, 6] [(37, .i m), (43, .i f.Player)] ?_ ?_
    ·refine ⟨[(34, 0, .d (Z5 a)), (35, 1, .i (Z6 a)), (36, 2, .cp [.j m]), (37, 3, .i m), (38, 4, .bp b1 0 2), (39, 5, .d (Z56 j)), (40, 6, .i c), (41, 7, .cp [.j f.Player, .j f.Nation, .k f.Qualified]), (42, 8, .cp [.j f.Player]), (43, 9, .i f.Player)], ?_, ?_⟩
     · exact dk [0, 0, 102, 3, 0, 5, 0, 607, 8, 9] ⟨go (zm (Z43 a)),
 go (zm (.i (Z6 a))),
 go (zix rfl rfl bF.of (bN aG w)),
 go (zlc rfl aP),
 go (zf rfl cW),
 go (zl 0 rfl rfl rfl dY),
 go (zm (.i c)),
 go (zix rfl rfl eL.of (bN aK x)),
 go (zfc [.j f.Player] rfl iJ),
 go (zlc rfl aP), trivial⟩
     · exact cA (aM rfl (aM rfl (aT ⟨rfl, rfl, rfl, rfl, trivial⟩)))
    ·refine to (scm rfl rfl rfl) (ta (.b (decide (m = f.Player))) (aB (aC (aA (tm (.i c) (aB ?_))))));refine zX ?_;refine aC (aA (to (scm rfl rfl rfl) (ta (.b (decide (c = 0))) (aB ?_))));refine tih h (fun y h => ?_) (fun y h => ?_)
     ·refine aC (aA (tm (.b (decide (m = f.Player))) (tm (.i (Z6 a)) (to (scm rfl rfl rfl) (to (aKl (aF rfl) rfl rfl underlying4) ?_)))));refine aB ?_;refine tih h (fun z h => ?_) (fun z h => ?_)
      ·refine aC (aA (ta Z4 (aB ?_)));obtain rfl := sIn h;refine bM (bE (bG (l := [4]) ⟨rfl, trivial⟩)) ?_;exact rt
      ·refine cS ?_;refine aA (tm (.i c) (to (sar rfl rfl rfl) (ta (.i (w64 (c + 1))) (aB ?_))));exact ⟨(w64 (c + 1)), h, aU [0] rfl rfl (aM rfl (aT ⟨rfl, rfl, rfl, trivial⟩))⟩
     ·refine aC (aA (to (scm rfl rfl rfl) (ta (.b (decide (c = 1))) (aB ?_))));refine tih h (fun A h => ?_) (fun A h => ?_)
      ·refine aC (aA (tm (.b (decide (m = f.Player))) (tm (.i (Z6 a)) (tfl 0 rfl rfl cL rfl aP (to (sar rfl rfl rfl) (to (scm rfl rfl rfl) (to (aKl (aF rfl) rfl rfl underlying4) ?_)))))));refine aB ?_;refine tih h (fun B h => ?_) (fun B h => ?_)
       ·refine aC (aA (ta Z4 (aB ?_)));obtain rfl := sIn h;refine bM (bE (bG (l := [4]) ⟨rfl, trivial⟩)) ?_;exact rt
       ·refine cS ?_;refine aA (tm (.i c) (to (sar rfl rfl rfl) (ta (.i (w64 (c + 1))) (aB ?_))));exact ⟨(w64 (c + 1)), h, aU [0] rfl rfl (aM rfl (aT ⟨rfl, rfl, rfl, trivial⟩))⟩
      ·refine aC (aA (tm (.b (decide (m = f.Player))) (tm (.b (decide (m = f.Player))) ?_)));obtain ⟨q, n, h⟩ := bns h;refine aW 6 [1, 2, 5, 6] 53 q ?_ ?_
       ·refine bch n (fun g n => ?_) (fun g n => ?_)
        ·refine tk g (sm (.i (Z6 a))) (tkl 0 g rfl rfl cL rfl aP (tk g (pY (aF rfl) rfl rfl (by decide)) ?_));refine tk g (scm rfl rfl rfl) (to (spt (.b (!decide ((Z6 a) = (Z41 j)))) g) ?_);obtain rfl := sIn n;refine aB (aI rfl ⟨rfl, rfl, rfl, rfl, trivial⟩ rfl)
        ·refine tp g (tp g (tp g (tp g (tp g (to (spf Z4 g) ?_)))));obtain rfl := sIn n;refine aB (aI rfl ⟨rfl, rfl, rfl, rfl, trivial⟩ rfl)
       ·refine tm (.b q) ?_;obtain ⟨C, o, h⟩ := bns h;refine aW 10 [1, 2, 5, 6] 64 C ?_ ?_
        ·refine bch o (fun e o => ?_) (fun e o => ?_)
         ·refine tk e (sm (.i (Z6 a))) (tkl 0 e rfl rfl cL rfl aP (tk e (sar rfl rfl rfl) (tkl 0 e rfl rfl cL rfl aP (tk e (pY (aF rfl) rfl rfl (by decide)) ?_))));refine tk e (sar rfl rfl rfl) (tk e (scm rfl rfl rfl) (to (spt (.b (!decide ((Z6 a) = (w64 (Z13 j))))) e) ?_));obtain rfl := sIn o;refine aB (aI rfl ⟨rfl, rfl, rfl, rfl, trivial⟩ rfl)
         ·refine tp e (tp e (tp e (tp e (tp e (tp e (tp e (tp e (tp e (to (spf Z4 e) ?_)))))))));obtain rfl := sIn o;refine aB (aI rfl ⟨rfl, rfl, rfl, rfl, trivial⟩ rfl)
        ·refine aB ?_;refine tih h (fun E h => ?_) (fun E h => ?_)
         ·refine aC (aA (ta Z4 (aB ?_)));obtain rfl := sIn h;refine bM (bE (bG (l := [4]) ⟨rfl, trivial⟩)) ?_;exact rt
         ·refine cS ?_;refine aA (tm (.i c) (to (sar rfl rfl rfl) (ta (.i (w64 (c + 1))) (aB ?_))));exact ⟨(w64 (c + 1)), h, aU [0] rfl rfl (aM rfl (aT ⟨rfl, rfl, rfl, trivial⟩))⟩
   ·refine cG ?_;refine .inl ⟨rfl, ?_⟩;simp only [rB] at h;refine aC (aA (ta Z18 (aB ?_)));obtain rfl := sIn h;refine bM (bE (bG (l := [4]) ⟨rfl, trivial⟩)) ?_;exact rt

theorem aAh (kr : Nat) : ∀ (c : aR) (g : List Int) (z : Int) {r : (List (List Int))} (_h : eO kr c g z = some r), Fn Tryz.prog 45 [.agg (aL c), .d (.sl 1 (g.map aG)), .i z] (.d (.sl 1 (r.map nI))) := by
  induction kr with
  | zero => intros; rename_i h; cases h
  | succ kr ih =>
    intro c g z r h;simp only [eO] at h;refine oT [.tmp 6] func45 results45 ntmps45 ?_;refine aC (aA ?_);refine bB rfl (cQ (v := .agg (aL c)) (aF rfl) rfl rfl rfl) ?_;rintro _ ⟨b1, rfl⟩;refine to (sN 1 (aF rfl)) ?_;refine aB (aC (aC (aA (tm (.d (.sl 1 (g.map aG))) (to (sle rfl bF.of) (tfl 0 rfl rfl cL rfl aP (to (scm rfl rfl rfl) (aB ?_))))))));refine tih h (fun c2 h => ?_) (fun c2 h => ?_)
    ·refine aC (aC (aA (to (sla 0 (aL c) rfl rfl dQ) (tm (.d (.sl 1 (g.map aG))) ?_))));obtain ⟨r3, h4, h⟩ := bns h;refine to (scr call33 (aCm _ _ h4)) (aB ?_);refine tih h (fun c5 h => ?_) (fun c5 h => ?_)
     ·refine aC (aA (tm (.d (.sl 1 (g.map aG))) (to (fB (aF rfl) aHy rfl rfl (rows := ([g]).map nI) rfl (bO (f := nI) fun _ => rfl) rfl (by decide)) ?_)));refine ta (.d (.sl 1 (([g]).map nI))) (aB ?_);obtain rfl := sIn h;refine bM (bE (bG (l := [6]) ⟨rfl, trivial⟩)) ?_;exact rt
     ·refine bA (aC (aA (to (sN 1 (aF rfl)) ?_)));refine aB ?_;obtain rfl := sIn h;refine bM (bE (bG (l := [6]) ⟨rfl, trivial⟩)) ?_;exact rt
    ·refine bA (aC (aA (to (aMn (aF rfl) bF rfl rfl (rows := ([(-1)]).map aG) rfl (bO (f := aG) fun _ => rfl) rfl (by decide)) ?_)));refine to (sla 0 (aL c) rfl rfl dQ) ?_;obtain ⟨r6, h7, h⟩ := bns h;refine to (dT (aF rfl) (.func _ _ call105) rfl rfl (aAi _ h7)) ?_;obtain ⟨x8, h9, h⟩ := bns h;refine to (aRo (.d (.weak _ _)) (aJs (nn := true) (f := aG) (xs := [(-1)]) (ys := r6) (aF rfl) bF rfl rfl (fun _ => rfl) h9 rfl)) ?_;refine ta (.d (.sl 1 (x8.map aG))) (aB (aC (aA (to (pC 23 1 (.inl rfl) (aF rfl)) ?_))));refine aB (aC (aC (aA (ta (.i 0) (aB (bS ?_))))));refine cR (S := Int × (List (List Int)) × Value) [1, 2, 3, 7] (fun F => [(8, .d (.lit F.2.2)), (9, .i F.1)]) (fun F => [.box b1 0 (aL c), .arr F.2.2 23 1 (F.2.1.map nI)]) (fun k F => dZ (eO kr) g z x8 c k F.1 F.2.1) (fun _ => rfl) (0, ([] : List (List Int)), (.slice none 0 0)) h (aU [0, 1] rfl rfl (aM rfl (aM rfl (aT ⟨rfl, rfl, rfl, rfl, trivial⟩)))) ?_;rintro a9 ⟨a, s, E⟩ h;simp only [dZ] at h;refine aC (aC (aA (tm (.i a) (tm (.d (.sl 1 (x8.map aG))) (to (sle rfl bF.of) (to (scm rfl rfl rfl) (tm (.b (decide (a < (x8.length : Int)))) ?_)))))));obtain ⟨U, H, h⟩ := bns h;refine aW 5 [1, 2, 3, 7, 8, 9] 34 U ?_ ?_
     ·refine bch H (fun B H => ?_) (fun B H => ?_)
      ·refine tk B (sm (.d (.lit E))) (tk B (rU (m := 1) (aF rfl) rfl rfl aHy.of) ?_);refine tk B (sm (.i z)) (tk B (scm rfl rfl rfl) (to (spt (.b (decide ((s.length : Int) ≤ z))) B) ?_));obtain rfl := sIn H;refine aB (aI rfl ⟨rfl, rfl, rfl, rfl, rfl, rfl, trivial⟩ rfl)
      ·refine tp B (tp B (tp B (tp B (to (spf Z4 B) ?_))));obtain rfl := sIn H;refine aB (aI rfl ⟨rfl, rfl, rfl, rfl, rfl, rfl, trivial⟩ rfl)
     ·refine aB ?_;refine tih h (fun V h => ?_) (fun V h => ?_)
      ·refine bA (aC (bS (aC (aC ?_))));obtain ⟨o, I, h⟩ := bns h;obtain ⟨b0, G, h⟩ := bns h;obtain ⟨W, u, h⟩ := bns h;refine dJ mix 31 [1, 2, 3, 7, 8, 9] [(67, .b W)] ?_ ?_
       ·refine bch G (fun e G => ?_) (fun e G => ?_)
        ·obtain ⟨y, N, G⟩ := bns G;obtain rfl := sIn G;refine bch u (fun j u => ?_) (fun j u => ?_)
         ·obtain rfl := sIn u;refine ⟨[(37, 0, .d (.sl 1 (x8.map aG))), (38, 1, .i a), (39, 2, .cp [.j o]), (40, 3, .i o), (41, 4, .b (decide (o = (-1)))), (42, 5, .b (decide (o = (-1)))), (43, 6, .d (.sl 1 (g.map aG))), (44, 7, .i y), (45, 8, .bp b1 0 0), (46, 9, .i c.Size), (47, 10, .bp b1 0 2), (48, 11, .d (.sl 3 (c.Persons.map aK))), (49, 12, .i (c.Persons.length : Int)), (50, 13, .i (w64 (c.Size - (c.Persons.length : Int)))), (51, 14, .b (decide (y = (w64 (c.Size - (c.Persons.length : Int)))))), (52, 15, .b (decide (y = (w64 (c.Size - (c.Persons.length : Int)))))), (53, 16, .b (decide (y = (w64 (c.Size - (c.Persons.length : Int)))))), (54, 17, .tup []), (55, 18, .tup []), (56, 19, .tup []), (57, 20, .tup []), (58, 21, .tup []), (59, 22, .tup []), (60, 23, .tup []), (61, 24, .tup []), (62, 25, .tup []), (63, 26, .tup []), (64, 27, .tup []), (65, 28, .tup []), (66, 29, .tup []), (67, 30, .b true)], ?_, ?_⟩
          · exact dk [0, 0, 102, 3, 4, 5, 6, 607, 6, 609, 6, 611, 612, 61013, 60814, 615, 16, 17, 17, 171819, 1720, 1721, 1722, 23, 23, 23, 232526, 2327, 232428, 172329, 1730] ⟨go (zm (.d (.sl 1 (x8.map aG)))),
 go (zm (.i a)),
 go (zix rfl rfl bF.of (bN aG I)),
 go (zlc rfl aP),
 go (zcm rfl rfl rfl),
 go (zm (.b (decide (o = (-1))))),
 gt e (zm (.d (.sl 1 (g.map aG)))),
 gt e fun S hS => cZ (aF rfl) (.func _ _ call106) (ev2 (aY hS rfl) (ev2 rfl evn)) rfl (BVs.refl _ _) (rY _ _ N) rfl,
 gt e (zf rfl cL),
 gt e (zl 0 rfl rfl rfl aP),
 gt e (zf rfl cW),
 gt e (zl 0 rfl rfl rfl dY),
 gt e (zle rfl eL.of),
 gt e (zar rfl rfl rfl),
 gt e (zcm rfl rfl rfl),
 go (zpt (.b (decide (y = (w64 (c.Size - (c.Persons.length : Int)))))) e),
 go (zm (.b (decide (y = (w64 (c.Size - (c.Persons.length : Int))))))),
 gp j,
 gp j,
 gp j,
 gp j,
 gp j,
 gp j,
 gq,
 gq,
 gq,
 gq,
 gq,
 gq,
 gp j,
 go (zpt Z18 j), trivial⟩
          · exact cA (aM rfl (aT ⟨rfl, rfl, rfl, rfl, rfl, rfl, trivial⟩))
         ·obtain ⟨q, J, u⟩ := bns u;obtain ⟨Y, t, u⟩ := bns u;refine bch t (fun n t => ?_) (fun n t => ?_)
          ·obtain ⟨K, O, t⟩ := bns t;obtain ⟨C, P, t⟩ := bns t;obtain rfl := sIn t;obtain rfl := sIn u;refine ⟨[(37, 0, .d (.sl 1 (x8.map aG))), (38, 1, .i a), (39, 2, .cp [.j o]), (40, 3, .i o), (41, 4, .b (decide (o = (-1)))), (42, 5, .b (decide (o = (-1)))), (43, 6, .d (.sl 1 (g.map aG))), (44, 7, .i y), (45, 8, .bp b1 0 0), (46, 9, .i c.Size), (47, 10, .bp b1 0 2), (48, 11, .d (.sl 3 (c.Persons.map aK))), (49, 12, .i (c.Persons.length : Int)), (50, 13, .i (w64 (c.Size - (c.Persons.length : Int)))), (51, 14, .b (decide (y = (w64 (c.Size - (c.Persons.length : Int)))))), (52, 15, .b (decide (y = (w64 (c.Size - (c.Persons.length : Int)))))), (53, 16, .b (decide (y = (w64 (c.Size - (c.Persons.length : Int)))))), (54, 17, .d (.sl 1 (x8.map aG))), (55, 18, .i a), (56, 19, .cp [.j q]), (57, 20, .i q), (58, 21, .b (!decide (q = (-1)))), (59, 22, .b (!decide (q = (-1)))), (60, 23, .d (.sl 1 (g.map aG))), (61, 24, .d (.sl 1 (x8.map aG))), (62, 25, .i a), (63, 26, .cp [.j K]), (64, 27, .i K), (65, 28, .b C), (66, 29, .b C), (67, 30, .b (C))], ?_, ?_⟩
           · exact dk [0, 0, 102, 3, 4, 5, 6, 607, 6, 609, 6, 611, 612, 61013, 60814, 615, 16, 17, 17, 171819, 1720, 1721, 1722, 23, 23, 23, 232526, 2327, 232428, 172329, 1730] ⟨go (zm (.d (.sl 1 (x8.map aG)))),
 go (zm (.i a)),
 go (zix rfl rfl bF.of (bN aG I)),
 go (zlc rfl aP),
 go (zcm rfl rfl rfl),
 go (zm (.b (decide (o = (-1))))),
 gt e (zm (.d (.sl 1 (g.map aG)))),
 gt e fun S hS => cZ (aF rfl) (.func _ _ call106) (ev2 (aY hS rfl) (ev2 rfl evn)) rfl (BVs.refl _ _) (rY _ _ N) rfl,
 gt e (zf rfl cL),
 gt e (zl 0 rfl rfl rfl aP),
 gt e (zf rfl cW),
 gt e (zl 0 rfl rfl rfl dY),
 gt e (zle rfl eL.of),
 gt e (zar rfl rfl rfl),
 gt e (zcm rfl rfl rfl),
 go (zpt (.b (decide (y = (w64 (c.Size - (c.Persons.length : Int)))))) e),
 go (zm (.b (decide (y = (w64 (c.Size - (c.Persons.length : Int))))))),
 gt j (zm (.d (.sl 1 (x8.map aG)))),
 gt j (zm (.i a)),
 gt j (zix rfl rfl bF.of (bN aG J)),
 gt j (zlc rfl aP),
 gt j (zcm rfl rfl rfl),
 gt j (zm (.b (!decide (q = (-1))))),
 gt n (zm (.d (.sl 1 (g.map aG)))),
 gt n (zm (.d (.sl 1 (x8.map aG)))),
 gt n (zm (.i a)),
 gt n (zix rfl rfl bF.of (bN aG O)),
 gt n (zlc rfl aP),
 gt n fun S hS => cZ (aF rfl) (.func _ _ call107) (ev2 (aY hS rfl) (ev2 (aY hS rfl) evn)) rfl (BVs.refl _ _) (tS _ _ P) rfl,
 gt j (zpt (.b C) n),
 go (zpf (.b (C)) j), trivial⟩
           · exact cA (aM rfl (aT ⟨rfl, rfl, rfl, rfl, rfl, rfl, trivial⟩))
          ·obtain rfl := sIn t;obtain rfl := sIn u;refine ⟨[(37, 0, .d (.sl 1 (x8.map aG))), (38, 1, .i a), (39, 2, .cp [.j o]), (40, 3, .i o), (41, 4, .b (decide (o = (-1)))), (42, 5, .b (decide (o = (-1)))), (43, 6, .d (.sl 1 (g.map aG))), (44, 7, .i y), (45, 8, .bp b1 0 0), (46, 9, .i c.Size), (47, 10, .bp b1 0 2), (48, 11, .d (.sl 3 (c.Persons.map aK))), (49, 12, .i (c.Persons.length : Int)), (50, 13, .i (w64 (c.Size - (c.Persons.length : Int)))), (51, 14, .b (decide (y = (w64 (c.Size - (c.Persons.length : Int)))))), (52, 15, .b (decide (y = (w64 (c.Size - (c.Persons.length : Int)))))), (53, 16, .b (decide (y = (w64 (c.Size - (c.Persons.length : Int)))))), (54, 17, .d (.sl 1 (x8.map aG))), (55, 18, .i a), (56, 19, .cp [.j q]), (57, 20, .i q), (58, 21, .b (!decide (q = (-1)))), (59, 22, .b (!decide (q = (-1)))), (60, 23, .tup []), (61, 24, .tup []), (62, 25, .tup []), (63, 26, .tup []), (64, 27, .tup []), (65, 28, .tup []), (66, 29, .b false), (67, 30, .b (false))], ?_, ?_⟩
           · exact dk [0, 0, 102, 3, 4, 5, 6, 607, 6, 609, 6, 611, 612, 61013, 60814, 615, 16, 17, 17, 171819, 1720, 1721, 1722, 23, 23, 23, 232526, 2327, 232428, 172329, 1730] ⟨go (zm (.d (.sl 1 (x8.map aG)))),
 go (zm (.i a)),
 go (zix rfl rfl bF.of (bN aG I)),
 go (zlc rfl aP),
 go (zcm rfl rfl rfl),
 go (zm (.b (decide (o = (-1))))),
 gt e (zm (.d (.sl 1 (g.map aG)))),
 gt e fun S hS => cZ (aF rfl) (.func _ _ call106) (ev2 (aY hS rfl) (ev2 rfl evn)) rfl (BVs.refl _ _) (rY _ _ N) rfl,
 gt e (zf rfl cL),
 gt e (zl 0 rfl rfl rfl aP),
 gt e (zf rfl cW),
 gt e (zl 0 rfl rfl rfl dY),
 gt e (zle rfl eL.of),
 gt e (zar rfl rfl rfl),
 gt e (zcm rfl rfl rfl),
 go (zpt (.b (decide (y = (w64 (c.Size - (c.Persons.length : Int)))))) e),
 go (zm (.b (decide (y = (w64 (c.Size - (c.Persons.length : Int))))))),
 gt j (zm (.d (.sl 1 (x8.map aG)))),
 gt j (zm (.i a)),
 gt j (zix rfl rfl bF.of (bN aG J)),
 gt j (zlc rfl aP),
 gt j (zcm rfl rfl rfl),
 gt j (zm (.b (!decide (q = (-1))))),
 gp n,
 gp n,
 gp n,
 gp n,
 gp n,
 gp n,
 gt j (zpf Z4 n),
 go (zpf Z44 j), trivial⟩
           · exact cA (aM rfl (aT ⟨rfl, rfl, rfl, rfl, rfl, rfl, trivial⟩))
        ·obtain rfl := sIn G;have j : false = false := rfl;have u := uT j u;obtain ⟨q, J, u⟩ := bns u;obtain ⟨Y, t, u⟩ := bns u;refine bch t (fun n t => ?_) (fun n t => ?_)
         ·obtain ⟨K, O, t⟩ := bns t;obtain ⟨C, P, t⟩ := bns t;obtain rfl := sIn t;obtain rfl := sIn u;refine ⟨[(37, 0, .d (.sl 1 (x8.map aG))), (38, 1, .i a), (39, 2, .cp [.j o]), (40, 3, .i o), (41, 4, .b (decide (o = (-1)))), (42, 5, .b (decide (o = (-1)))), (43, 6, .tup []), (44, 7, .tup []), (45, 8, .tup []), (46, 9, .tup []), (47, 10, .tup []), (48, 11, .tup []), (49, 12, .tup []), (50, 13, .tup []), (51, 14, .tup []), (52, 15, .b false), (53, 16, .b (false)), (54, 17, .d (.sl 1 (x8.map aG))), (55, 18, .i a), (56, 19, .cp [.j q]), (57, 20, .i q), (58, 21, .b (!decide (q = (-1)))), (59, 22, .b (!decide (q = (-1)))), (60, 23, .d (.sl 1 (g.map aG))), (61, 24, .d (.sl 1 (x8.map aG))), (62, 25, .i a), (63, 26, .cp [.j K]), (64, 27, .i K), (65, 28, .b C), (66, 29, .b C), (67, 30, .b (C))], ?_, ?_⟩
          · exact dk [0, 0, 102, 3, 4, 5, 6, 607, 6, 609, 6, 611, 612, 61013, 60814, 615, 16, 17, 17, 171819, 1720, 1721, 1722, 23, 23, 23, 232526, 2327, 232428, 172329, 1730] ⟨go (zm (.d (.sl 1 (x8.map aG)))),
 go (zm (.i a)),
 go (zix rfl rfl bF.of (bN aG I)),
 go (zlc rfl aP),
 go (zcm rfl rfl rfl),
 go (zm (.b (decide (o = (-1))))),
 gp e,
 gp e,
 gp e,
 gp e,
 gp e,
 gp e,
 gp e,
 gp e,
 gp e,
 go (zpf Z4 e),
 go (zm Z44),
 gt j (zm (.d (.sl 1 (x8.map aG)))),
 gt j (zm (.i a)),
 gt j (zix rfl rfl bF.of (bN aG J)),
 gt j (zlc rfl aP),
 gt j (zcm rfl rfl rfl),
 gt j (zm (.b (!decide (q = (-1))))),
 gt n (zm (.d (.sl 1 (g.map aG)))),
 gt n (zm (.d (.sl 1 (x8.map aG)))),
 gt n (zm (.i a)),
 gt n (zix rfl rfl bF.of (bN aG O)),
 gt n (zlc rfl aP),
 gt n fun S hS => cZ (aF rfl) (.func _ _ call107) (ev2 (aY hS rfl) (ev2 (aY hS rfl) evn)) rfl (BVs.refl _ _) (tS _ _ P) rfl,
 gt j (zpt (.b C) n),
 go (zpf (.b (C)) j), trivial⟩
          · exact cA (aM rfl (aT ⟨rfl, rfl, rfl, rfl, rfl, rfl, trivial⟩))
         ·obtain rfl := sIn t;obtain rfl := sIn u;refine ⟨[(37, 0, .d (.sl 1 (x8.map aG))), (38, 1, .i a), (39, 2, .cp [.j o]), (40, 3, .i o), (41, 4, .b (decide (o = (-1)))), (42, 5, .b (decide (o = (-1)))), (43, 6, .tup []), (44, 7, .tup []), (45, 8, .tup []), (46, 9, .tup []), (47, 10, .tup []), (48, 11, .tup []), (49, 12, .tup []), (50, 13, .tup []), (51, 14, .tup []), (52, 15, .b false), (53, 16, .b (false)), (54, 17, .d (.sl 1 (x8.map aG))), (55, 18, .i a), (56, 19, .cp [.j q]), (57, 20, .i q), (58, 21, .b (!decide (q = (-1)))), (59, 22, .b (!decide (q = (-1)))), (60, 23, .tup []), (61, 24, .tup []), (62, 25, .tup []), (63, 26, .tup []), (64, 27, .tup []), (65, 28, .tup []), (66, 29, .b false), (67, 30, .b (false))], ?_, ?_⟩
          · exact dk [0, 0, 102, 3, 4, 5, 6, 607, 6, 609, 6, 611, 612, 61013, 60814, 615, 16, 17, 17, 171819, 1720, 1721, 1722, 23, 23, 23, 232526, 2327, 232428, 172329, 1730] ⟨go (zm (.d (.sl 1 (x8.map aG)))),
 go (zm (.i a)),
 go (zix rfl rfl bF.of (bN aG I)),
 go (zlc rfl aP),
 go (zcm rfl rfl rfl),
 go (zm (.b (decide (o = (-1))))),
 gp e,
 gp e,
 gp e,
 gp e,
 gp e,
 gp e,
 gp e,
 gp e,
 gp e,
 go (zpf Z4 e),
 go (zm Z44),
 gt j (zm (.d (.sl 1 (x8.map aG)))),
 gt j (zm (.i a)),
 gt j (zix rfl rfl bF.of (bN aG J)),
 gt j (zlc rfl aP),
 gt j (zcm rfl rfl rfl),
 gt j (zm (.b (!decide (q = (-1))))),
 gp n,
 gp n,
 gp n,
 gp n,
 gp n,
 gp n,
 gt j (zpf Z4 n),
 go (zpf Z44 j), trivial⟩
          · exact cA (aM rfl (aT ⟨rfl, rfl, rfl, rfl, rfl, rfl, trivial⟩))
       ·refine aB ?_;refine tih h (fun Z h => ?_) (fun Z h => ?_)
        ·refine cG ?_;refine .inl ⟨rfl, ?_⟩;refine aA (tm (.i a) (to (sar rfl rfl rfl) (ta (.i (w64 (a + 1))) (aB ?_))));exact ⟨(w64 (a + 1), s, E), h, aU [0, 1] rfl rfl (aM rfl (aM rfl (aT ⟨rfl, rfl, rfl, rfl, trivial⟩)))⟩
        ·refine bA (aC ?_);obtain ⟨Q, a0, h⟩ := bns h;obtain ⟨L, a1, h⟩ := bns h;refine iN mix 8 [1, 2, 3, 7, 8, 9] (fun A => [(70, .d (.lit (A 2).v)), (75, .d (.sl 1 (([L]).map aG)))]) (fun A => [.box b1 0 (aL c), .arr E 23 1 (s.map nI), .arr (A 2).v 3 1 (Q.map aG)]) ?_ ?_
         ·refine ⟨1, fun A => [(68, 0, .d (.lit (A 0).v)), (69, 1, .d (.sl 1 (g.map aG))), (70, 2, .d (.lit (A 2).v)), (71, 3, .d (.sl 1 (x8.map aG))), (72, 4, .i a), (73, 5, .cp [.j L]), (74, 6, .i L), (75, 7, .d (.sl 1 (([L]).map aG)))], fun A => [([], .box b1 0 (aL c)), ([], .arr E 23 1 (s.map nI)), ([(2, .arr (A 2).v 3 1 (Q.map aG)), (0, .arr (A 0).v 3 1 Z21)], nob)], ?_, ?_⟩
          · exact xok [(0, 3), (0, 3), (102, 0), (0, 0), (0, 0), (405, 0), (6, 0), (7, 0)] ⟨fun A S hw hi hS => oA (X := A) (p := 2) (v := fun x => .d (.lit x.v)) (mo := fun x => .arr x.v 3 1 Z21) hS hi rfl rfl (fun _ => rfl) hw (fun _ => rfl) (fun _ => rfl) (fun _ => rfl) (fun _ => ⟨rfl, rfl, .inl rfl, ⟨rfl, rfl, .inr rfl, ⟨rfl, rfl, .inr rfl, ⟨rfl, rfl, .inr rfl, ⟨rfl, rfl, .inr rfl, ⟨rfl, rfl, .inr rfl, ⟨rfl, rfl, .inr rfl, ⟨rfl, rfl, .inr rfl, trivial⟩⟩⟩⟩⟩⟩⟩⟩) (fun _ => ⟨trivial, rfl, ⟨trivial, rfl, ⟨⟨rfl, .inr rfl, ⟨rfl, .inl rfl, trivial⟩⟩, rfl, trivial⟩⟩⟩) (gN (yS (aF rfl) bF rfl pan (rows := (([] : List Int)).map aG) rfl (bO (f := aG) fun _ => rfl) rfl (by decide)) (by rintro _ ⟨w, rfl⟩; exact ⟨⟨0, w⟩, aU [0, 1, 3] rfl rfl (le_refl _)⟩)),
 fun _ _ w _ k => xp w (ym k (.d (.sl 1 (g.map aG)))),
 fun A S hw hi hS => oA (X := A) (p := 2) (v := fun x => .d (.lit x.v)) (mo := fun x => .arr x.v 3 1 (Q.map aG)) hS hi rfl rfl (fun _ => rfl) hw (fun _ => rfl) (fun _ => rfl) (fun _ => rfl) (fun _ => ⟨rfl, rfl, .inr rfl, ⟨rfl, rfl, .inr rfl, ⟨rfl, rfl, .inl rfl, ⟨rfl, rfl, .inr rfl, ⟨rfl, rfl, .inr rfl, ⟨rfl, rfl, .inr rfl, ⟨rfl, rfl, .inr rfl, ⟨rfl, rfl, .inr rfl, trivial⟩⟩⟩⟩⟩⟩⟩⟩) (fun _ => ⟨trivial, rfl, ⟨trivial, rfl, ⟨⟨rfl, .inl rfl, ⟨rfl, .inr rfl, trivial⟩⟩, rfl, trivial⟩⟩⟩) (gN (gM (i := 2) (aF rfl) bF (aY hS rfl) (og hS rfl rfl) (aY hS rfl) (fun _ => rfl) a0 rfl) (by rintro _ ⟨w, rfl⟩; exact ⟨⟨0, w⟩, Ent.refl _⟩)),
 fun _ _ w _ k => xp w (ym k (.d (.sl 1 (x8.map aG)))),
 fun _ _ w _ k => xp w (ym k (.i a)),
 fun _ _ w _ k => xp w (yix k rfl rfl bF.of (bN aG a1)),
 fun _ _ w _ k => xp w (ylc k rfl aP),
 fun _ _ w _ k => xp w (fB (aF rfl) bF rfl (pa2 (aY k rfl) pan) (rows := ([L]).map aG) rfl (bO (f := aG) fun _ => rfl) rfl (by decide)), trivial⟩
          · exact fun A => cA (aM rfl (aM rfl (aT ⟨rfl, rfl, rfl, rfl, rfl, rfl, trivial⟩)))
         ·intro A;obtain ⟨M, a2, h⟩ := bns h;refine bB rfl (gM (i := 2) (aF rfl) bF rfl rfl rfl (fun _ => rfl) a2 rfl) ?_;rintro _ ⟨a3, rfl⟩;refine fE (zP [.box b1 0 (aL c), .arr E 23 1 (s.map nI)] [.arr a3 3 1 (M.map aG)] rfl (aQf (v' := .d (.sl 1 (M.map aG))) (.d (aNy (bO (f := aG) fun _ => rfl))) (sR _ _))) ?_;refine ta (.d (.sl 1 (M.map aG))) (aB (aC (aA (to (sla 0 (aL c) rfl rfl dQ) (tm (.d (.sl 1 (M.map aG))) ?_)))));obtain ⟨b2, a4, h⟩ := bns h;refine to (scr call108 (aEo _ _ a4)) (aB ?_);refine tih h (fun a5 h => ?_) (fun a5 h => ?_)
          ·refine aA (tm (.d (.lit E)) (to (sla 0 (aL c) rfl rfl dQ) (tm (.d (.sl 1 (M.map aG))) (tm (.i z) (tm (.d (.lit E)) (to (rU (m := 1) (aF rfl) rfl rfl aHy.of) ?_))))));refine to (sar rfl rfl rfl) ?_;obtain ⟨b3, a6, h⟩ := bns h;refine to (dT (aF rfl) (.func _ _ call45) rfl rfl (ih _ _ _ a6)) ?_;obtain ⟨a7, a8, h⟩ := bns h;refine bB rfl (gM (i := 1) (aF rfl) aHy rfl rfl rfl (fun _ => rfl) a8 rfl) ?_;rintro _ ⟨T, rfl⟩;refine ta (.d (.lit T)) ?_;refine iZ ?_;refine aA (tm (.i a) (to (sar rfl rfl rfl) (ta (.i (w64 (a + 1))) (aB ?_))));exact ⟨(w64 (a + 1), a7, T), h, aU [0, 1] rfl rfl (aM rfl (aM rfl (aT ⟨rfl, rfl, rfl, rfl, trivial⟩)))⟩
          ·refine cS ?_;refine aA (tm (.i a) (to (sar rfl rfl rfl) (ta (.i (w64 (a + 1))) (aB ?_))));exact ⟨(w64 (a + 1), s, E), h, aU [0, 1] rfl rfl (aM rfl (aM rfl (aT ⟨rfl, rfl, rfl, rfl, trivial⟩)))⟩
      ·refine cG ?_;refine .inl ⟨rfl, ?_⟩;simp only [tT] at h;refine aC (aA (tm (.d (.lit E)) (ta (.d (.lit E)) (aB ?_))));obtain rfl := sIn h;refine bM (bE (oR (k := 6) (v := .d (.sl 1 (s.map nI))) (.d (cK 1 rfl (bO (f := nI) fun _ => rfl))) (aNu))) ?_;exact rt
theorem aCb (c : aR) (a : List Int) (b : Int) {r : (List (List Int))} (h : rX c a b = some r) : Fn Tryz.prog 45 [.agg (aL c), .d (Z5 a), .i b] (.d (.sl 1 (r.map nI))) := aAh BIG _ _ _ h

theorem aFq (e : aR) {r : Bool} (h : oU e = some r) : Fn Tryz.prog 8 [.agg (aL e)] (.b r) := by
 unfold oU at h;refine oT [.tmp 2] func8 results8 ntmps8 ?_;refine aC (aA ?_);refine bB rfl (cQ (v := .agg (aL e)) (aF rfl) rfl rfl rfl) ?_;rintro _ ⟨b1, rfl⟩;refine ta Z4 (aB (aC (aA (tfl 0 rfl rfl cW rfl dY (to (sle rfl eL.of) (to (scm rfl rfl rfl) (tm (.b (decide (40 < (e.Persons.length : Int)))) ?_)))))));obtain ⟨b2, h3, h⟩ := bns h;refine aW 5 [1] 12 b2 ?_ ?_
 ·refine bch h3 (fun c h3 => ?_) (fun c h3 => ?_)
  ·refine tp c (tp c (tp c (tp c (to (spt Z18 c) ?_))));obtain rfl := sIn h3;refine aB (aI rfl ⟨rfl, trivial⟩ rfl)
  ·refine tkl 0 c rfl rfl sW rfl dB (tk c (sle rfl bF.of) (tk c (scm rfl rfl rfl) (to (spf (.b (decide (40 < (e.Lots.length : Int)))) c) ?_)));obtain rfl := sIn h3;refine aB (aI rfl ⟨rfl, trivial⟩ rfl)
 ·refine tm (.b b2) ?_;obtain ⟨b4, h5, h⟩ := bns h;refine aW 10 [] 23 b4 ?_ ?_
  ·refine bch h5 (fun c6 h5 => ?_) (fun c6 h5 => ?_)
   ·refine tp c6 (tp c6 (tp c6 (tp c6 (tq (tq (tq (tq (tp c6 (to (spt Z18 c6) ?_)))))))));obtain rfl := sIn h5;refine aB (aI rfl trivial rfl)
   ·refine tk c6 (sla 0 (aL e) rfl rfl dQ) ?_;obtain ⟨r7, h8, h5⟩ := bns h5;refine tk c6 (scr call9 (vJ _ h8)) (tk c6 (scm rfl rfl rfl) (tk c6 (sm (.b (decide (r7 = 0)))) ?_));obtain ⟨b9, f, h5⟩ := bns h5;refine aW 5 [13] 22 b9 ?_ ?_
    ·refine bch f (fun a f => ?_) (fun a f => ?_)
     ·refine tk a (sla 0 (aL e) rfl rfl dQ) ?_;obtain ⟨g, i, f⟩ := bns f;refine tk a (aMk (aF rfl) (.func _ _ call45) rfl rfl (.cons (.same _) (.cons (.d (.nil 1)) (.cons (.same _) .nil))) (aCb _ _ _ i)) ?_;refine tk a (sle rfl aHy.of) (tk a (scm rfl rfl rfl) (tk c6 (spt (.b (decide (300 < (g.length : Int)))) a) ?_));obtain rfl := sIn f;refine aB (aI rfl ⟨rfl, trivial⟩ rfl)
     ·refine tp a (tp a (tp a (tp a (tk c6 (spf Z4 a) ?_))));obtain rfl := sIn f;refine aB (aI rfl ⟨rfl, trivial⟩ rfl)
    ·refine to (spf (.b b9) c6) ?_;obtain rfl := sIn h5;refine aB (aI rfl trivial rfl)
  ·refine ta (.b b4) (aB ?_);obtain rfl := sIn h;refine bM (bE (bG (l := [2]) ⟨rfl, trivial⟩)) ?_;exact rt

theorem aAf {r : aR × aR} (h : nN = some r) : Fn Tryz.prog 47 [] (.tup [.agg (aL r.1), .agg (aL r.2)]) := by
 unfold nN at h;refine jE func47 rfl (rs := [.cell 0 25, .cell 1 25]) results47 ntmps47 (Nat.le_of_ble_eq_true rfl) ?_;refine aC (aA ?_);refine bB rfl (cD (zs := [.j 0, .j 0, .sl 3 Z35, .sl 1 Z15]) (aF rfl) zeroValue25 rfl rfl) ?_;rintro _ ⟨b1, rfl⟩;refine bB rfl (cD (zs := [.j 0, .j 0, .sl 3 Z35, .sl 1 Z15]) (aF rfl) zeroValue25 rfl rfl) ?_;rintro _ ⟨b2, rfl⟩;refine aB (aC (aA (to (dL (aF rfl) xY (zs := [.j 0, .j 0, .k false]) rfl rfl rfl rfl (es := [.j 10, .j 1, .k false]) rfl) ?_)));refine to (dL (aF rfl) xY (zs := [.j 0, .j 0, .k false]) rfl rfl rfl rfl (es := [.j 20, .j 2, .k false]) rfl) ?_;refine to (dL (aF rfl) xY (zs := [.j 0, .j 0, .k false]) rfl rfl rfl rfl (es := [.j 30, .j 1, .k false]) rfl) ?_;refine to (fB (aF rfl) eL rfl rfl (rows := Z51.map aK) rfl (bO (f := aK) fun _ => rfl) rfl (by decide)) ?_;refine to (fB (aF rfl) bF rfl rfl (rows := ([5, 4]).map aG) rfl (bO (f := aG) fun _ => rfl) rfl (by decide)) ?_;refine to (dL (aF rfl) aRu (zs := [.j 0, .j 0, .sl 3 Z35, .sl 1 Z15]) rfl rfl rfl rfl (es := [.j 4, .j 1, .sl 3 ((Z51).map aK), .sl 1 ((([5, 4])).map aG)]) rfl) ?_;refine to (sst 0 rfl rfl sizeOf25 Z3) (aB (aC (aA (to (dL (aF rfl) xY (zs := [.j 0, .j 0, .k false]) rfl rfl rfl rfl (es := [.j 1, .j 1, .k false]) rfl) ?_))));refine to (dL (aF rfl) xY (zs := [.j 0, .j 0, .k false]) rfl rfl rfl rfl (es := [.j 2, .j 1, .k false]) rfl) ?_;refine to (dL (aF rfl) xY (zs := [.j 0, .j 0, .k false]) rfl rfl rfl rfl (es := [.j 3, .j 2, .k false]) rfl) ?_;refine to (dL (aF rfl) xY (zs := [.j 0, .j 0, .k false]) rfl rfl rfl rfl (es := [.j 4, .j 0, .k false]) rfl) ?_;refine to (fB (aF rfl) eL rfl rfl (rows := Z45.map aK) rfl (bO (f := aK) fun _ => rfl) rfl (by decide)) ?_;refine to (dL (aF rfl) aRu (zs := [.j 0, .j 0, .sl 3 Z35, .sl 1 Z15]) rfl rfl rfl rfl (es := [.j 4, .j 0, .sl 3 ((Z45).map aK), .sl 1 Z15]) rfl) ?_;refine to (sst 1 rfl rfl sizeOf25 Z2) (aB (aC ?_));refine iN mix 3 [0, 1] (fun X3 => [(15, .agg Z2)]) (fun X3 => [.box b1 0 Z3, .box b2 0 Z2]) ?_ ?_
 ·refine ⟨0, fun X3 => [(14, 0, .agg Z3), (15, 1, .agg Z2)], fun X3 => [([(2, .box b1 0 Z3)], .box b1 0 Z3), ([], .box b2 0 Z2)], ?_, ?_⟩
  · exact xok [(0, 3), (0, 0), (1, 0)] ⟨fun _ _ w _ k => xp w (yla k 0 Z3 rfl (og k rfl rfl) dQ),
 fun _ _ w _ k => xp w (yla k 1 Z2 rfl (og k rfl rfl) dQ),
 fun _ _ _ _ k => xs 0 k rfl rfl (rV (i := 0) (aY k rfl) (og k rfl rfl) (aY k rfl) rfl rfl sizeOf25 rfl (aF rfl) (Nat.le_of_ble_eq_true rfl) (ds' := Z3) rfl), trivial⟩
  · exact fun X3 => cA (aM rfl (aT ⟨rfl, rfl, trivial⟩))
 ·intro X3;refine to (sst 1 rfl rfl sizeOf25 Z2) (aB ?_);obtain rfl := sIn h;exact bZ ⟨rfl, _, [.box b1 0 Z3, .box b2 0 Z2], .two (.cell 0 25 rfl (i := 0) rfl dQ (es := Z3) rfl rfl) (.cell 1 25 rfl (i := 1) rfl dQ (es := Z2) rfl rfl), .refl _, .same _⟩

theorem oY (d : Int) (c : Int) (a : Int) {r : Bool} (h : iH d c a = some r) : Fn Tryz.prog 92 [.i d, .i c, .i a] (.b r) := by
 unfold iH at h;refine oT [.tmp 6] func92 results92 ntmps92 ?_;refine aC (aA (ta Z4 (aB (aC (aA (tm (.i c) (tm (.i d) (to (scm rfl rfl rfl) (tm (Z46 c d) ?_)))))))));obtain ⟨b1, h2, h⟩ := bns h;refine aW 4 [] 14 b1 ?_ ?_
 ·refine bch h2 (fun c3 h2 => ?_) (fun c3 h2 => ?_)
  ·refine tk c3 (sm (.i d)) (tk c3 (sm (.i a)) (tk c3 (scm rfl rfl rfl) (to (spt (Z46 d a) c3) ?_)));obtain rfl := sIn h2;refine aB (aI rfl trivial rfl)
  ·refine tp c3 (tp c3 (tp c3 (to (spf Z4 c3) ?_)));obtain rfl := sIn h2;refine aB (aI rfl trivial rfl)
 ·refine ta (.b b1) (aB ?_);obtain rfl := sIn h;exact rt

theorem uI (e : List aS) (g : aS → Option Bool) {r : Int} (c : Nat) (f : List AV) (j : ∀ args w, (callFunc c args).run Tryz.prog w = .ok (.enter c args) w) (l : ∀ (x0 : aS) r, g x0 = some r → Fn Tryz.prog c ([.agg (aK x0)] ++ f) (.b r)) (h : fT e g = some r) : Fn Tryz.prog 199 [.d (.sl 3 (e.map aK)), .fn c f] (.i r) := by
 unfold fT at h;refine oT [.tmp 4] func199 results199 ntmps199 ?_;refine aC (aA (ta (.i 0) (aB (aC (aC (aA (tm (.d (.sl 3 (e.map aK))) (to (sle rfl eL.of) (tm (.i 0) (aB (bS ?_)))))))))));refine cR (S := Int) [0, 1, 7] (fun s1 => [(8, .i s1)]) (fun s1 => []) (fun k s1 => dG e g (e.length : Int) k s1) (fun _ => rfl) (0) h (aU [] rfl rfl (aM rfl (aT ⟨rfl, rfl, rfl, trivial⟩))) ?_;rintro k2 a h;simp only [dG] at h;refine aC (aA (to (scm rfl rfl rfl) (aB (aC ?_))));refine tih h (fun c3 h => ?_) (fun c3 h => ?_)
 ·refine bA (aC (bS (aC (aA (tm (.i a) (ta (.i a) (aB (aC (aA (tm (.fn c f) (tm (.d (.sl 3 (e.map aK))) (tm (.i a) ?_))))))))))));obtain ⟨x4, h5, h⟩ := bns h;refine to (six rfl rfl eL.of (bN aK h5)) (to (xX (aK x4) rfl tQ) ?_);obtain ⟨r6, h7, h⟩ := bns h;refine to (cZ (aF rfl) (.clo _ _ _ _ j rfl) (aAj rfl) rfl (BVs.refl _ _) (l _ _  h7) rfl) ?_;refine aB ?_;refine tih h (fun c8 h => ?_) (fun c8 h => ?_)
  ·refine aC (aA (tm (.i a) (ta (.i a) (aB ?_))));obtain rfl := sIn h;exact rt
  ·refine cS ?_;refine aA (to (sar rfl rfl rfl) (tm (.i (w64 (a + 1))) (aB ?_)));exact ⟨(w64 (a + 1)), h, aU [] rfl rfl (aM rfl (aT ⟨rfl, rfl, rfl, trivial⟩))⟩
 ·refine cG ?_;refine .inl ⟨rfl, ?_⟩;simp only [kM] at h;refine aC (aA (ta (.i (-1)) (aB ?_)));obtain rfl := sIn h;exact rt

theorem tE (e : List aS) (i : aS → Option Bool) {r : Bool} (a : Nat) (c : List AV) (f : ∀ args w, (callFunc a args).run Tryz.prog w = .ok (.enter a args) w) (g : ∀ (x0 : aS) r, i x0 = some r → Fn Tryz.prog a ([.agg (aK x0)] ++ c) (.b r)) (h : eY e i = some r) : Fn Tryz.prog 148 [.d (.sl 3 (e.map aK)), .fn a c] (.b r) := by
 unfold eY at h;refine oT [.tmp 4] func148 results148 ntmps148 ?_;refine aC (aA (ta Z4 (aB (aC (aA (tm (.d (.sl 3 (e.map aK))) (tm (.fn a c) ?_)))))));obtain ⟨r1, h2, h⟩ := bns h;refine to (scr call199 (uI _ _ a c f g h2)) (to (scm rfl rfl rfl) (ta (.b (decide (0 ≤ r1))) (aB ?_)));obtain rfl := sIn h;exact rt

theorem aGw (a : aS) (c : aS) {r : Bool} (h : sK a c = some r) : Fn Tryz.prog 149 [.agg (aK a), .cp (aK c)] (.b r) := by
 unfold sK at h;refine oT [.tmp 3] func149 results149 ntmps149 ?_;refine aC (aA ?_);refine bB rfl (cQ (v := .agg (aK a)) (aF rfl) rfl rfl rfl) ?_;rintro _ ⟨b1, rfl⟩;refine ta Z4 (aB (aC (aA (tfl 0 rfl rfl iJ rfl aP (to (sfc [.j c.Player] rfl iJ) (to (slc rfl aP) (to (scm rfl rfl rfl) (ta (.b (decide (a.Player = c.Player))) (aB ?_)))))))));obtain rfl := sIn h;refine bM (bE (bG (l := [3]) ⟨rfl, trivial⟩)) ?_;exact rt

theorem zM (e : List Int) (g : Int → Option Bool) {r : Int} (c : Nat) (f : List AV) (j : ∀ args w, (callFunc c args).run Tryz.prog w = .ok (.enter c args) w) (l : ∀ (x0 : Int) r, g x0 = some r → Fn Tryz.prog c ([.i x0] ++ f) (.b r)) (h : kN e g = some r) : Fn Tryz.prog 182 [.d (Z5 e), .fn c f] (.i r) := by
 unfold kN at h;refine oT [.tmp 4] func182 results182 ntmps182 ?_;refine aC (aA (ta (.i 0) (aB (aC (aC (aA (tm (Z43 e) (to (sle rfl bF.of) (tm (.i 0) (aB (bS ?_)))))))))));refine cR (S := Int) [0, 1, 7] (fun s1 => [(8, .i s1)]) (fun s1 => []) (fun k s1 => eQ e g (e.length : Int) k s1) (fun _ => rfl) (0) h (aU [] rfl rfl (aM rfl (aT ⟨rfl, rfl, rfl, trivial⟩))) ?_;rintro k2 a h;simp only [eQ] at h;refine aC (aA (to (scm rfl rfl rfl) (aB (aC ?_))));refine tih h (fun c3 h => ?_) (fun c3 h => ?_)
 ·refine bA (aC (bS (aC (aA (tm (.i a) (ta (.i a) (aB (aC (aA (tm (.fn c f) (tm (Z43 e) (tm (.i a) ?_))))))))))));obtain ⟨x4, h5, h⟩ := bns h;refine to (six rfl rfl bF.of (bN aG h5)) (to (slc rfl aP) ?_);obtain ⟨r6, h7, h⟩ := bns h;refine to (cZ (aF rfl) (.clo _ _ _ _ j rfl) (aAj rfl) rfl (BVs.refl _ _) (l _ _  h7) rfl) ?_;refine aB ?_;refine tih h (fun c8 h => ?_) (fun c8 h => ?_)
  ·refine aC (aA (tm (.i a) (ta (.i a) (aB ?_))));obtain rfl := sIn h;exact rt
  ·refine cS ?_;refine aA (to (sar rfl rfl rfl) (tm (.i (w64 (a + 1))) (aB ?_)));exact ⟨(w64 (a + 1)), h, aU [] rfl rfl (aM rfl (aT ⟨rfl, rfl, rfl, trivial⟩))⟩
 ·refine cG ?_;refine .inl ⟨rfl, ?_⟩;simp only [nE] at h;refine aC (aA (ta (.i (-1)) (aB ?_)));obtain rfl := sIn h;exact rt

theorem wQ (e : List Int) (j : Int → Option Bool) {r : Bool} (a : Nat) (c : List AV) (f : ∀ args w, (callFunc a args).run Tryz.prog w = .ok (.enter a args) w) (g : ∀ (x0 : Int) r, j x0 = some r → Fn Tryz.prog a ([.i x0] ++ c) (.b r)) (h : iS e j = some r) : Fn Tryz.prog 130 [.d (Z5 e), .fn a c] (.b r) := by
 unfold iS at h;refine oT [.tmp 4] func130 results130 ntmps130 ?_;refine aC (aA (ta Z4 (aB (aC (aA (tm (Z43 e) (tm (.fn a c) ?_)))))));obtain ⟨r1, h2, h⟩ := bns h;refine to (scr call182 (zM _ _ a c f g h2)) (to (scm rfl rfl rfl) (ta (.b (decide (0 ≤ r1))) (aB ?_)));obtain rfl := sIn h;exact rt

theorem aGx (a : Int) {r : Bool} (h : sL a = some r) : Fn Tryz.prog 150 [.i a] (.b r) := by
 unfold sL at h;refine oT [.tmp 2] func150 results150 ntmps150 ?_;refine aC (aA (ta Z4 (aB (aC (aA (tm (.i a) ?_))))));obtain ⟨r1, h2, h⟩ := bns h;refine to (scr call92 (oY _ _ _ h2)) (to (sn rfl) (ta (.b (!r1)) (aB ?_)));obtain rfl := sIn h;exact rt

theorem aKa (d : aR) {r : Int} (h : qF d = some r) : Fn Tryz.prog 95 [.agg (aL d)] (.i r) := by
 unfold qF at h;refine oT [.tmp 2] func95 results95 ntmps95 ?_;refine aC (aA ?_);refine bB rfl (cQ (v := .agg (aL d)) (aF rfl) rfl rfl rfl) ?_;rintro _ ⟨b1, rfl⟩;refine ta (.i 0) (aB (aC (aA (tfl 0 rfl rfl cW rfl dY (to (sle rfl eL.of) (ta (Z23 d) (aB (aC (aC (aA (tfl 0 rfl rfl cL rfl aP ?_)))))))))));refine to (scm rfl rfl rfl) (tm (.b (!decide (d.Size = 4))) ?_);obtain ⟨b2, h3, h⟩ := bns h;refine aW 4 [1, 3] 17 b2 ?_ ?_
 ·refine bch h3 (fun o h3 => ?_) (fun o h3 => ?_)
  ·refine tkl 0 o rfl rfl cL rfl aP (tk o (scm rfl rfl rfl) (to (spt (.b (!decide (d.Size = 8))) o) ?_));obtain rfl := sIn h3;refine aB (aI rfl ⟨rfl, rfl, trivial⟩ rfl)
  ·refine tp o (tp o (tp o (to (spf Z4 o) ?_)));obtain rfl := sIn h3;refine aB (aI rfl ⟨rfl, rfl, trivial⟩ rfl)
 ·refine tm (.b b2) ?_;obtain ⟨b4, h5, h⟩ := bns h;refine aW 6 [1, 3] 24 b4 ?_ ?_
  ·refine bch h5 (fun g h5 => ?_) (fun g h5 => ?_)
   ·refine tp g (tp g (tp g (tp g (tp g (to (spt Z18 g) ?_)))));obtain rfl := sIn h5;refine aB (aI rfl ⟨rfl, rfl, trivial⟩ rfl)
   ·refine tk g (sm (Z23 d)) (tkl 0 g rfl rfl cL rfl aP ?_);obtain ⟨E, F, h5⟩ := bns h5;refine tk g (scr call92 (oY _ _ _ F)) (tk g (sn rfl) (to (spf (.b (!E)) g) ?_));obtain rfl := sIn h5;refine aB (aI rfl ⟨rfl, rfl, trivial⟩ rfl)
  ·refine tm (.b b4) ?_;obtain ⟨b6, h7, h⟩ := bns h;refine aW 9 [1, 3] 34 b6 ?_ ?_
   ·refine bch h7 (fun e h7 => ?_) (fun e h7 => ?_)
    ·refine tp e (tp e (tp e (tp e (tp e (tp e (tp e (tp e (to (spt Z18 e) ?_))))))));obtain rfl := sIn h7;refine aB (aI rfl ⟨rfl, rfl, trivial⟩ rfl)
    ·refine tkl 0 e rfl rfl cL rfl aP (tk e (sm (Z23 d)) (tk e (sar rfl rfl rfl) (tkl 0 e rfl rfl cL rfl aP (tk e (pY (aF rfl) rfl rfl (by decide)) ?_))));refine tk e (scm rfl rfl rfl) (to (spf (.b (decide ((w64 (d.Size.tdiv 2)) < (Z7 d)))) e) ?_);obtain rfl := sIn h7;refine aB (aI rfl ⟨rfl, rfl, trivial⟩ rfl)
   ·refine tm (.b b6) ?_;obtain ⟨b8, h9, h⟩ := bns h;refine aW 10 [1] 45 b8 ?_ ?_
    ·refine bch h9 (fun c h9 => ?_) (fun c h9 => ?_)
     ·refine tp c (tp c (tp c (tp c (tp c (tp c (tp c (tp c (tp c (to (spt Z18 c) ?_)))))))));obtain rfl := sIn h9;refine aB (aI rfl ⟨rfl, trivial⟩ rfl)
     ·refine tkl 0 c rfl rfl iT rfl aP (tkl 0 c rfl rfl cL rfl aP (tk c (pY (aF rfl) rfl rfl (by decide)) ?_));refine tk c (sm (Z23 d)) (tk c (aKk (aF rfl) rfl rfl) ?_);obtain ⟨G, H, h9⟩ := bns h9;refine tk c (scr call92 (oY _ _ _ H)) (tk c (sn rfl) (to (spf (.b (!G)) c) ?_));obtain rfl := sIn h9;refine aB (aI rfl ⟨rfl, trivial⟩ rfl)
    ·refine tm (.b b8) ?_;obtain ⟨I, w, h⟩ := bns h;refine aW 5 [1] 51 I ?_ ?_
     ·refine bch w (fun j w => ?_) (fun j w => ?_)
      ·refine tp j (tp j (tp j (tp j (to (spt Z18 j) ?_))));obtain rfl := sIn w;refine aB (aI rfl ⟨rfl, trivial⟩ rfl)
      ·refine tkl 0 j rfl rfl sW rfl dB (tk j (sle rfl bF.of) (tk j (scm rfl rfl rfl) (to (spf (.b (decide (10 < (d.Lots.length : Int)))) j) ?_)));obtain rfl := sIn w;refine aB (aI rfl ⟨rfl, trivial⟩ rfl)
     ·refine aB ?_;refine tih h (fun J h => ?_) (fun J h => ?_)
      ·refine aC (aA (ta (.i 60) (aB ?_)));obtain rfl := sIn h;refine bM (bE (bG (l := [2]) ⟨rfl, trivial⟩)) ?_;exact rt
      ·refine bA (aC (aC (aA (tfl 0 rfl rfl cW rfl dY (to (sle rfl eL.of) (tm (.i 0) (aB (bS ?_))))))));refine cR (S := Int) [1, 53, 54] (fun y => [(55, .i y)]) (fun y => [.box b1 0 (aL d)]) (fun k y => lD d.Persons (d.Persons.length : Int) d k y) (fun _ => rfl) (0) h (aU [0] rfl rfl (aM rfl (aT ⟨rfl, rfl, rfl, trivial⟩))) ?_;rintro Y a h;simp only [lD] at h;refine aC (aA (to (scm rfl rfl rfl) (aB (aC ?_))));refine tih h (fun K h => ?_) (fun K h => ?_)
       ·refine bA (aC (bS (aC (aA (tm (.i a) ?_)))));obtain ⟨t, L, h⟩ := bns h;refine to (six rfl rfl eL.of (bN aK L)) (to (xX (aK t) rfl tQ) ?_);refine bB rfl (cD (zs := [.j 0, .j 0, .k false]) (aF rfl) zeroValue43 rfl rfl) ?_;rintro _ ⟨Z, rfl⟩;refine ta (.i a) (to (sst 1 rfl rfl sizeOf43 (aK t)) (aB (aC (aA (tfl 0 rfl rfl cW rfl dY (tm (.i a) ?_))))));obtain ⟨a0, M, h⟩ := bns h;refine to (wO (aF rfl) eL.of rfl rfl rfl (aEj aK M)) ?_;refine to (xV (aF rfl) rfl rfl) ?_;obtain ⟨z, N, h⟩ := bns h;refine to (sc call148 (tE _ _ 149 [.cp [.j t.Player, .j t.Nation, .k t.Qualified]] call149 (fun _ _ h => aGw _ _ h) N) (.cons (.same _) (.cons (aGu (.cons (jG 1 rfl rfl (dvc (.same _) (dvc (.same _) (dvc (.same _) dvn)))) .nil)) .nil))) (ta (.b z) (aB (aC (aA (tm (.b z) (tm (.b z) ?_))))));obtain ⟨A, p, h⟩ := bns h;refine aW 5 [1, 4, 5, 53, 54, 55] 72 A ?_ ?_
        ·refine bch p (fun m p => ?_) (fun m p => ?_)
         ·refine tp m (tp m (tp m (tp m (to (spt Z18 m) ?_))));obtain rfl := sIn p;refine aB (aI rfl ⟨rfl, rfl, rfl, rfl, rfl, rfl, trivial⟩ rfl)
         ·refine tkl 1 m rfl rfl iJ rfl aP ?_;obtain ⟨O, P, p⟩ := bns p;refine tk m (scr call92 (oY _ _ _ P)) (tk m (sn rfl) (to (spf (.b (!O)) m) ?_));obtain rfl := sIn p;refine aB (aI rfl ⟨rfl, rfl, rfl, rfl, rfl, rfl, trivial⟩ rfl)
        ·refine tm (.b A) ?_;obtain ⟨B, q, h⟩ := bns h;refine aW 5 [1, 4, 5, 53, 54, 55] 78 B ?_ ?_
         ·refine bch q (fun n q => ?_) (fun n q => ?_)
          ·refine tp n (tp n (tp n (tp n (to (spt Z18 n) ?_))));obtain rfl := sIn q;refine aB (aI rfl ⟨rfl, rfl, rfl, rfl, rfl, rfl, trivial⟩ rfl)
          ·refine tkl 1 n rfl rfl mX rfl aP ?_;obtain ⟨Q, T, q⟩ := bns q;refine tk n (scr call92 (oY _ _ _ T)) (tk n (sn rfl) (to (spf (.b (!Q)) n) ?_));obtain rfl := sIn q;refine aB (aI rfl ⟨rfl, rfl, rfl, rfl, rfl, rfl, trivial⟩ rfl)
         ·refine tm (.b B) ?_;obtain ⟨U, s, h⟩ := bns h;refine aW 9 [1, 53, 54, 55] 88 U ?_ ?_
          ·refine bch s (fun f s => ?_) (fun f s => ?_)
           ·refine tp f (tp f (tp f (tp f (tp f (tq (tq (tp f (to (spt Z18 f) ?_))))))));obtain rfl := sIn s;refine aB (aI rfl ⟨rfl, rfl, rfl, rfl, trivial⟩ rfl)
           ·refine tk f (sm (.i a)) (tkl 0 f rfl rfl iT rfl aP (tk f (scm rfl rfl rfl) (tk f (sm (.b (decide (a < d.Seeds)))) ?_)));obtain ⟨C, x, s⟩ := bns s;refine aW 3 [1, 53, 54, 55, 79, 80, 81, 82, 83, 84] 87 C ?_ ?_
            ·refine bch x (fun u x => ?_) (fun u x => ?_)
             ·refine tkl 1 u rfl rfl rL rfl nZ (tk f (spt (.b t.Qualified) u) ?_);obtain rfl := sIn x;refine aB (aI rfl ⟨rfl, rfl, rfl, rfl, rfl, rfl, rfl, rfl, rfl, rfl, trivial⟩ rfl)
             ·refine tp u (tp u (tk f (spf Z4 u) ?_));obtain rfl := sIn x;refine aB (aI rfl ⟨rfl, rfl, rfl, rfl, rfl, rfl, rfl, rfl, rfl, rfl, trivial⟩ rfl)
            ·refine to (spf (.b C) f) ?_;obtain rfl := sIn s;refine aB (aI rfl ⟨rfl, rfl, rfl, rfl, trivial⟩ rfl)
          ·refine aB ?_;refine tih h (fun V h => ?_) (fun V h => ?_)
           ·refine aC (aA (ta (.i 60) (aB ?_)));obtain rfl := sIn h;refine bM (bE (bG (l := [2]) ⟨rfl, trivial⟩)) ?_;exact rt
           ·refine cS ?_;refine aA (to (sar rfl rfl rfl) (tm (.i (w64 (a + 1))) (aB ?_)));exact ⟨(w64 (a + 1)), h, aU [0] rfl rfl (aM rfl (aT ⟨rfl, rfl, rfl, trivial⟩))⟩
       ·refine cG ?_;refine .inl ⟨rfl, ?_⟩;simp only [rR] at h;refine aC (aC (aA (tfl 0 rfl rfl sW rfl dB ?_)));obtain ⟨a1, W, h⟩ := bns h;refine to (scr call130 (wQ _ _ 150 [] call150 (fun _ _ h => aGx _ h) W)) (aB ?_);refine tih h (fun X h => ?_) (fun X h => ?_)
        ·refine aC (aA (ta (.i 60) (aB ?_)));obtain rfl := sIn h;refine bM (bE (bG (l := [2]) ⟨rfl, trivial⟩)) ?_;exact rt
        ·refine bA (aC (aA (ta (.i 0) (aB ?_))));obtain rfl := sIn h;refine bM (bE (bG (l := [2]) ⟨rfl, trivial⟩)) ?_;exact rt

theorem zW (x : List Int) (cmp : Int → Int → Option Int) {r : List Int} {x_v : Value} {e : TypeId} (f : Nat) (v : List AV) (he : ∀ args w, (callFunc f args).run Tryz.prog w = .ok (.enter f args) w) (hh : ∀ x0 x1 r, cmp x0 x1 = some r → Fn Tryz.prog f ([.i x0, .i x1] ++ v) (.i r)) (h : nD x cmp = some r) : dN Tryz.prog 167 [.d (.lit x_v), .fn f v] [.arr x_v e 1 (x.map aG)] (fun r' o' => r' = .tup [] ∧ o' = [.arr x_v e 1 (r.map aG)]) := aRs (fun enc h1 cf hO g cb blk off cap d w => Tryz.slices_SortFunc_total enc h1 cf hO g cb blk off cap d w) (fun p cap fv w => Tryz.slices_SortFunc_none (α := Int) p cap fv w) he hh h

theorem aGy (b : Int) (c : Int) (a : aR) {r : Int} (h : fH b c a = some r) : Fn Tryz.prog 168 [.i b, .i c, .cp (aL a)] (.i r) := by
 unfold fH at h;refine oT [.tmp 5] func168 results168 ntmps168 ?_;refine aC (aA (ta (.i 0) (aB (aC ?_))));obtain ⟨x1, h2, h⟩ := bns h;obtain ⟨x3, h4, h⟩ := bns h;refine dJ mix 12 [] [(11, .i x1.Player), (17, .i x3.Player)] ?_ ?_
 ·refine ⟨[(6, 0, .cp [.sl 3 (Z11 a)]), (7, 1, .d (Z56 a)), (8, 2, .i b), (9, 3, .cp [.j x1.Player, .j x1.Nation, .k x1.Qualified]), (10, 4, .cp [.j x1.Player]), (11, 5, .i x1.Player), (12, 6, .cp [.sl 3 (Z11 a)]), (13, 7, .d (Z56 a)), (14, 8, .i c), (15, 9, .cp [.j x3.Player, .j x3.Nation, .k x3.Qualified]), (16, 10, .cp [.j x3.Player]), (17, 11, .i x3.Player)], ?_, ?_⟩
  · exact dk [0, 1, 0, 203, 4, 5, 0, 7, 0, 809, 10, 11] ⟨go (zfc [.sl 3 (Z11 a)] rfl cW),
 go (zlc rfl dY),
 go (zm (.i b)),
 go (zix rfl rfl eL.of (bN aK h2)),
 go (zfc [.j x1.Player] rfl iJ),
 go (zlc rfl aP),
 go (zfc [.sl 3 (Z11 a)] rfl cW),
 go (zlc rfl dY),
 go (zm (.i c)),
 go (zix rfl rfl eL.of (bN aK h4)),
 go (zfc [.j x3.Player] rfl iJ),
 go (zlc rfl aP), trivial⟩
  · exact cA (aM rfl (aM rfl (aT trivial)))
 ·refine to (sar rfl rfl rfl) (ta (.i (w64 (x1.Player - x3.Player))) (aB ?_));obtain rfl := sIn h;exact rt

theorem aBs (a : aR) {r : List Int} (h : jA a = some r) : Fn Tryz.prog 109 [.agg (aL a)] (.fn 169 [.cp [.j a.Size, .j a.Seeds, .sl 3 (Z11 a), .sl 1 (Z36 a)], .cp (Z38 r)]) := by
 unfold jA at h;refine jE func109 rfl (rs := [.tmp 2]) results109 ntmps109 (Nat.le_of_ble_eq_true rfl) ?_;refine aC (aA ?_);refine bB rfl (cQ (v := .agg (aL a)) (aF rfl) rfl rfl rfl) ?_;rintro _ ⟨b1, rfl⟩;refine ta (.d (.lit .nilFunc)) (aB (aC (aA ?_)));refine bB rfl (cD (zs := Z60) (aF rfl) zeroValue23 rfl rfl) ?_;rintro _ ⟨b2, rfl⟩;refine fE (wK 3 1) ?_;refine aB (aC (aC (aA (tfl 0 rfl rfl cW rfl dY (to (sle rfl eL.of) (tm (.i 0) (aB (bS ?_))))))));refine cR (S := Int × (List Int) × Value) [1, 3, 7] (fun s3 => [(8, .i s3.1)]) (fun s3 => [.box b1 0 (aL a), .arr s3.2.2 3 1 (s3.2.1.map aG), .box b2 0 [.lit s3.2.2]]) (fun k s3 => lF (a.Persons.length : Int) a k s3.1 s3.2.1) (fun _ => rfl) (0, ([] : List Int), (.slice none 0 0)) h (aU [0, 2, 1] rfl rfl (aM rfl (aT ⟨rfl, rfl, rfl, trivial⟩))) ?_;rintro k5 ⟨b, c, w4⟩ h;simp only [lF] at h;refine aC (aA (to (scm rfl rfl rfl) (aB (aC ?_))));refine tih h (fun c6 h => ?_) (fun c6 h => ?_)
 ·refine bA (aC (bS (aC (aA (tm (.i b) (ta (.i b) (aB (aA (to (sl 2 rfl rfl rfl dB) (tm (.i b) (to (fB (aF rfl) bF rfl rfl (rows := ([b]).map aG) rfl (bO (f := aG) fun _ => rfl) rfl (by decide)) ?_)))))))))));obtain ⟨x7, h8, h⟩ := bns h;refine bB rfl (gM (i := 1) (aF rfl) bF rfl rfl rfl (fun _ => rfl) h8 rfl) ?_;rintro _ ⟨v9, rfl⟩;refine to (sst 2 rfl rfl sizeOf23 [.lit v9]) ?_;refine iZ ?_;refine aA (to (sar rfl rfl rfl) (tm (.i (w64 (b + 1))) (aB ?_)));exact ⟨(w64 (b + 1), x7, v9), h, aU [0, 1, 2] rfl rfl (aM rfl (aT ⟨rfl, rfl, rfl, trivial⟩))⟩
 ·refine cG ?_;refine .inl ⟨rfl, ?_⟩;simp only [lE] at h;refine aC (aA (to (sl 2 rfl rfl rfl dB) (to (xV (aF rfl) rfl rfl) ?_)));refine fE (aU [1, 2, 0] rfl rfl (le_refl _)) ?_;apply aOm [.arr w4 3 1 (c.map aG), .box b2 0 [.lit w4]] [.box b1 0 (aL a)] rfl;exact oR (k := 17) (v := .fn 168 [.cp [.j a.Size, .j a.Seeds, .sl 3 (Z11 a), .sl 1 (Z36 a)]]) (aGu (.cons (jG 0 rfl rfl (dvc (.same _) (dvc (.same _) (dvc (.same _) (dvc (.same _) dvn))))) .nil)) (oR (k := 1) (v := .cp [.j a.Size, .j a.Seeds, .sl 3 (Z11 a), .sl 1 (Z36 a)]) (jG 0 rfl rfl (dvc (.same _) (dvc (.same _) (dvc (.same _) (dvc (.same _) dvn))))) (sR _ _));obtain ⟨g, j, h⟩ := bns h;refine bB rfl (iY (passed := [.arr w4 3 1 (c.map aG)]) (aF rfl) rfl (.func _ _ call167) rfl rfl (zW c (fun l m => fH l m a) 168 [.cp [.j a.Size, .j a.Seeds, .sl 3 (Z11 a), .sl 1 (Z36 a)]] call168 (fun _ _ _ h => aGy _ _ _ h) j)) ?_;rintro _ ⟨_, _, ⟨rfl, rfl⟩, rfl⟩;refine aB (aC (aA ?_));refine bB rfl (yS (aF rfl) bF rfl rfl (rows := ([(-1)]).map aG) rfl (bO (f := aG) fun _ => rfl) rfl (by decide)) ?_;rintro _ ⟨n, rfl⟩;refine fE (aU [1, 2, 0] rfl rfl (le_refl _)) ?_;refine fE (aOy (ds' := [.sl 1 (g.map aG)]) [.arr n 3 1 (([(-1)]).map aG)] [.arr w4 3 1 (g.map aG)] rfl (dvc (cK 0 rfl (bO (f := aG) fun _ => rfl)) dvn) (oR (k := 16) (v := .any) (.any _) (sR _ _))) ?_;refine to (sl 0 rfl rfl rfl dB) ?_;obtain ⟨o, p, h⟩ := bns h;refine bB rfl (gM (i := 1) (aF rfl) bF rfl rfl rfl (fun _ => rfl) p rfl) ?_;rintro _ ⟨e, rfl⟩;refine to (sst 0 rfl rfl sizeOf23 [.lit e]) (aB (aC (aA (to (xV (aF rfl) rfl rfl) ?_))));refine ta (.fn 169 [.cp [.j a.Size, .j a.Seeds, .sl 3 (Z11 a), .sl 1 (Z36 a)], .bp b2 0 0]) (aB ?_);obtain rfl := sIn h;exact bZ ⟨rfl, _, [.box b2 0 [.lit e], .arr e 3 1 (o.map aG)], .one (.tmp 2 (v := .fn 169 [.cp [.j a.Size, .j a.Seeds, .sl 3 (Z11 a), .sl 1 (Z36 a)], .bp b2 0 0]) rfl), .refl _, (aGu (.cons (.same _) (.cons (jG 0 rfl rfl (dvc (cK 1 rfl (bO (f := aG) fun _ => rfl)) dvn)) .nil)))⟩

theorem qQ (a : List Int) {r : (List Int)} (h : gE a = some r) : dN Tryz.prog 93 [.d (Z5 a)] [] (fun r' o' => ∃ (w0 : Value), r' = .d (.lit w0) ∧ o' = [.arr w0 3 1 (r.map aG)]) := by
 unfold gE at h;refine gY func93 rfl (rs := [.tmp 2]) results93 ntmps93 (Nat.le_of_ble_eq_true rfl) ?_;refine aC (aA (to (pC 3 1 (.inl rfl) (aF rfl)) ?_));refine aB (aC (aC (aA (tm (Z43 a) ?_))));refine bB rfl (aPp (aF rfl) rfl rfl underlying23) ?_;rintro _ ⟨b2, h3, rfl⟩;refine aB ?_;refine yV rfl (fun c4 => ?_) (fun c4 => ?_)
 ·obtain rfl := aPf (h3 c4)
  simp [app] at h
  subst h;refine aC (aA (to (pC 3 1 (.inl rfl) (aF rfl)) ?_));refine aB ?_;refine bM (aU [1, 0] rfl rfl (le_refl _)) ?_;exact bZ ⟨rfl, _, Z52, Z52, _, .one (.tmp 2 (v := .d Z61) rfl), .refl _, .same _, (.slice none 0 0), rfl, rfl⟩
 ·refine bA (aC (aA ?_));refine bB rfl (yS (aF rfl) bF rfl rfl (rows := (([] : List Int)).map aG) rfl (bO (f := aG) fun _ => rfl) rfl (by decide)) ?_;rintro _ ⟨v5, rfl⟩;refine tm (Z43 a) ?_;obtain ⟨x6, h7, h⟩ := bns h;refine bB rfl (gM (i := 1) (aF rfl) bF rfl rfl rfl (fun _ => rfl) h7 rfl) ?_;rintro _ ⟨v8, rfl⟩;refine ta (.d (.lit v8)) (aB ?_);obtain rfl := sIn h;refine bM (aU [1, 0] rfl rfl (le_refl _)) ?_;exact bZ ⟨rfl, _, [.arr v8 3 1 (x6.map aG)], Z52, _, .one (.tmp 2 (v := .d (.lit v8)) rfl), .refl _, .same _, v8, rfl, rfl⟩

theorem rO (b : List Int) (c : Int) {r : Int} (h : fC b c = some r) : Fn Tryz.prog 117 [.d (Z5 b), .i c] (.i r) := by
 unfold fC at h;refine oT [.tmp 4] func117 results117 ntmps117 ?_;refine aC (aA (ta (.i 0) (aB (aC (aC (aA (tm (Z43 b) (to (sle rfl bF.of) (tm (.i 0) (aB (bS ?_)))))))))));refine cR (S := Int) [0, 1, 7] (fun s1 => [(8, .i s1)]) (fun s1 => []) (fun k s1 => gW b c (b.length : Int) k s1) (fun _ => rfl) (0) h (aU [] rfl rfl (aM rfl (aT ⟨rfl, rfl, rfl, trivial⟩))) ?_;rintro k2 a h;simp only [gW] at h;refine aC (aA (to (scm rfl rfl rfl) (aB (aC ?_))));refine tih h (fun c3 h => ?_) (fun c3 h => ?_)
 ·refine bA (aC (bS (aC (aA (tm (.i a) (ta (.i a) (aB (aC (aA (tm (.i c) (tm (Z43 b) (tm (.i a) ?_))))))))))));obtain ⟨x4, h5, h⟩ := bns h;refine to (six rfl rfl bF.of (bN aG h5)) (to (slc rfl aP) (to (scm rfl rfl rfl) (aB ?_)));refine tih h (fun c6 h => ?_) (fun c6 h => ?_)
  ·refine aC (aA (tm (.i a) (ta (.i a) (aB ?_))));obtain rfl := sIn h;exact rt
  ·refine cS ?_;refine aA (to (sar rfl rfl rfl) (tm (.i (w64 (a + 1))) (aB ?_)));exact ⟨(w64 (a + 1)), h, aU [] rfl rfl (aM rfl (aT ⟨rfl, rfl, rfl, trivial⟩))⟩
 ·refine cG ?_;refine .inl ⟨rfl, ?_⟩;simp only [qR] at h;refine aC (aA (ta (.i (-1)) (aB ?_)));obtain rfl := sIn h;exact rt

theorem fM (a : List Int) (c : Int) {r : Bool} (h : dV a c = some r) : Fn Tryz.prog 91 [.d (Z5 a), .i c] (.b r) := by
 unfold dV at h;refine oT [.tmp 4] func91 results91 ntmps91 ?_;refine aC (aA (ta Z4 (aB (aC (aA (tm (Z43 a) (tm (.i c) ?_)))))));obtain ⟨r1, h2, h⟩ := bns h;refine to (scr call117 (rO _ _ h2)) (to (scm rfl rfl rfl) (ta (.b (decide (0 ≤ r1))) (aB ?_)));obtain rfl := sIn h;exact rt

theorem oX (a : aR) (c : Int) (e : Int) {r : Bool} (h : tY a c e = some r) : Fn Tryz.prog 171 [.agg (aL a), .i c, .i e] (.b r) := by
 unfold tY at h;refine oT [.tmp 6] func171 results171 ntmps171 ?_;refine aC (aA ?_);refine bB rfl (cQ (v := .agg (aL a)) (aF rfl) rfl rfl rfl) ?_;rintro _ ⟨b1, rfl⟩;refine ta Z4 (aB (aC (aA (tfl 0 rfl rfl cL rfl aP (to (pY (aF rfl) rfl rfl (by decide)) ?_)))));refine tfl 0 rfl rfl cL rfl aP (to (sar rfl rfl rfl) (tfl 0 rfl rfl cL rfl aP (to (pY (aF rfl) rfl rfl (by decide)) ?_)));refine to (sar rfl rfl rfl) (to (fB (aF rfl) bF rfl rfl (rows := (Z57 a).map aG) rfl (bO (f := aG) fun _ => rfl) rfl (by decide)) ?_);refine ta (.d (.sl 1 (((Z57 a)).map aG))) (aB (aC (bS (aC (aA (tm (.i c) (to (scm rfl rfl rfl) (tm (.b (decide (c = 0))) ?_))))))));obtain ⟨b2, h3, h⟩ := bns h;refine aW 4 [1, 2, 3, 7] 26 b2 ?_ ?_
 ·refine bch h3 (fun k h3 => ?_) (fun k h3 => ?_)
  ·refine tkl 0 k rfl rfl iT rfl aP (tk k (scm rfl rfl rfl) (to (spt (.b (decide (0 < a.Seeds))) k) ?_));obtain rfl := sIn h3;refine aB (aI rfl ⟨rfl, rfl, rfl, rfl, trivial⟩ rfl)
  ·refine tp k (tp k (tp k (to (spf Z4 k) ?_)));obtain rfl := sIn h3;refine aB (aI rfl ⟨rfl, rfl, rfl, rfl, trivial⟩ rfl)
 ·refine ta (.b b2) (aB ?_);refine tih h (fun c4 h => ?_) (fun c4 h => ?_)
  ·refine aC (aA (tm (.i e) (to (scm rfl rfl rfl) (ta (.b (decide (e = 0))) (aB ?_)))));obtain rfl := sIn h;refine bM (bE (bG (l := [6]) ⟨rfl, trivial⟩)) ?_;exact rt
  ·refine aC (aA (tm (.i c) (tfl 0 rfl rfl cL rfl aP (to (sar rfl rfl rfl) (to (scm rfl rfl rfl) (tm (.b (decide (c = (w64 (a.Size - 1))))) ?_))))));obtain ⟨b5, h6, h⟩ := bns h;refine aW 4 [1, 2, 3, 7] 39 b5 ?_ ?_
   ·refine bch h6 (fun m h6 => ?_) (fun m h6 => ?_)
    ·refine tkl 0 m rfl rfl iT rfl aP (tk m (scm rfl rfl rfl) (to (spt (.b (decide (1 < a.Seeds))) m) ?_));obtain rfl := sIn h6;refine aB (aI rfl ⟨rfl, rfl, rfl, rfl, trivial⟩ rfl)
    ·refine tp m (tp m (tp m (to (spf Z4 m) ?_)));obtain rfl := sIn h6;refine aB (aI rfl ⟨rfl, rfl, rfl, rfl, trivial⟩ rfl)
   ·refine ta (.b b5) (aB ?_);refine tih h (fun c7 h => ?_) (fun c7 h => ?_)
    ·refine aC (aA (tm (.i e) (to (scm rfl rfl rfl) (ta (.b (decide (e = 1))) (aB ?_)))));obtain rfl := sIn h;refine bM (bE (bG (l := [6]) ⟨rfl, trivial⟩)) ?_;exact rt
    ·refine aC (aA (tm (.i e) (to (scm rfl rfl rfl) (tm (Z28 e) ?_))));obtain ⟨b8, h9, h⟩ := bns h;refine aW 5 [1, 2, 7] 50 b8 ?_ ?_
     ·refine bch h9 (fun g h9 => ?_) (fun g h9 => ?_)
      ·refine tp g (tp g (tp g (tp g (to (spt Z18 g) ?_))));obtain rfl := sIn h9;refine aB (aI rfl ⟨rfl, rfl, rfl, trivial⟩ rfl)
      ·refine tk g (sm (.i e)) (tkl 0 g rfl rfl iT rfl aP (tk g (scm rfl rfl rfl) (to (spf (.b (decide (a.Seeds ≤ e))) g) ?_)));obtain rfl := sIn h9;refine aB (aI rfl ⟨rfl, rfl, rfl, trivial⟩ rfl)
     ·refine ta (.b b8) (aB ?_);refine tih h (fun p h => ?_) (fun p h => ?_)
      ·refine aC (aA (ta Z18 (aB ?_)));obtain rfl := sIn h;refine bM (bE (bG (l := [6]) ⟨rfl, trivial⟩)) ?_;exact rt
      ·refine cS ?_;refine aC (aA (tm (.i e) (to (scm rfl rfl rfl) (tm (.b (decide (1 < e))) ?_))));obtain ⟨o, n, h⟩ := bns h;refine aW 4 [] 57 o ?_ ?_
       ·refine bch n (fun j n => ?_) (fun j n => ?_)
        ·refine tk j (sm (.d (.sl 1 (((Z57 a)).map aG)))) (tk j (sm (.i c)) ?_);obtain ⟨q, s, n⟩ := bns n;refine tk j (scr call91 (fM _ _ s)) (to (spt (.b q) j) ?_);obtain rfl := sIn n;refine aB (aI rfl trivial rfl)
        ·refine tp j (tp j (tp j (to (spf Z4 j) ?_)));obtain rfl := sIn n;refine aB (aI rfl trivial rfl)
       ·refine ta (.b o) (aB ?_);obtain rfl := sIn h;refine bM (bE (bG (l := [6]) ⟨rfl, trivial⟩)) ?_;exact rt

theorem aKc (g : aR) (c : Int) (e : Int) {r : Bool} (h : sI g c e = some r) : Fn Tryz.prog 219 [.agg (aL g), .i c, .i e] (.b r) := by
 unfold sI at h;refine oT [.tmp 6] func219 results219 ntmps219 ?_;refine aC (aA ?_);refine bB rfl (cQ (v := .agg (aL g)) (aF rfl) rfl rfl rfl) ?_;rintro _ ⟨b1, rfl⟩;refine ta Z4 (aB (aC (aC (aA (tm (.i c) (to (scm rfl rfl rfl) (tm (Z28 c) ?_)))))));obtain ⟨b2, h3, h⟩ := bns h;refine aW 3 [1, 2, 3] 14 b2 ?_ ?_
 ·refine bch h3 (fun j h3 => ?_) (fun j h3 => ?_)
  ·refine tp j (tp j (to (spt Z18 j) ?_));obtain rfl := sIn h3;refine aB (aI rfl ⟨rfl, rfl, rfl, trivial⟩ rfl)
  ·refine tk j (sm (.i e)) (tk j (scm rfl rfl rfl) (to (spf (Z28 e) j) ?_));obtain rfl := sIn h3;refine aB (aI rfl ⟨rfl, rfl, rfl, trivial⟩ rfl)
 ·refine aB ?_;refine tih h (fun c4 h => ?_) (fun c4 h => ?_)
  ·refine aC (aA (tm (.i c) (tm (.i e) (to (scm rfl rfl rfl) (ta (.b (!decide (c = e))) (aB ?_))))));obtain rfl := sIn h;refine bM (bE (bG (l := [6]) ⟨rfl, trivial⟩)) ?_;exact rt
  ·refine bA (aC ?_);obtain ⟨x6, h7, h⟩ := bns h;obtain ⟨x8, h9, h⟩ := bns h;refine iN mix 13 [] (fun X5 => [(7, .bp (X5 10).b 0 0), (8, .bp (X5 11).b 0 0), (27, .agg (aK x8))]) (fun X5 => [.box b1 0 (aL g), .box (X5 10).b 0 (aK x6), .box (X5 11).b 0 Z25]) ?_ ?_
   ·refine ⟨2, fun X5 => [(18, 0, .bp b1 0 2), (19, 1, .d (Z56 g)), (20, 2, .i c), (21, 3, .cp [.j x6.Player, .j x6.Nation, .k x6.Qualified]), (22, 4, .agg (aK x6)), (23, 5, .bp b1 0 2), (24, 6, .d (Z56 g)), (25, 7, .i e), (26, 8, .cp [.j x8.Player, .j x8.Nation, .k x8.Qualified]), (27, 9, .agg (aK x8)), (7, 10, .bp (X5 10).b 0 0), (8, 11, .bp (X5 11).b 0 0)], fun X5 => [([], .box b1 0 (aL g)), ([(12, .box (X5 10).b 0 (aK x6)), (10, .box (X5 10).b 0 Z25)], nob), ([(11, .box (X5 11).b 0 Z25)], nob)], ?_, ?_⟩
    · exact xok [(0, 13), (1, 13), (0, 13), (203, 13), (4, 13), (0, 0), (6, 0), (0, 0), (708, 0), (9, 0), (0, 13), (0, 13), (51112, 0)] ⟨fun _ _ w _ k => xp w (yf k rfl cW),
 fun _ _ w _ k => xp w (yl k 0 rfl (og k rfl rfl) rfl dY),
 fun _ _ w _ k => xp w (ym k (.i c)),
 fun _ _ w _ k => xp w (yix k rfl rfl eL.of (bN aK h7)),
 fun _ _ w _ k => xp w (aQa k (aK x6) rfl tQ),
 fun _ _ w _ k => xp w (yf k rfl cW),
 fun _ _ w _ k => xp w (yl k 0 rfl (og k rfl rfl) rfl dY),
 fun _ _ w _ k => xp w (ym k (.i e)),
 fun _ _ w _ k => xp w (yix k rfl rfl eL.of (bN aK h9)),
 fun _ _ w _ k => xp w (aQa k (aK x8) rfl tQ),
 fun X5 S hw hi hS => oA (X := X5) (p := 1) (v := fun x => .bp x.b 0 0) (mo := fun x => .box x.b 0 Z25) hS hi rfl rfl (fun _ => rfl) hw (fun _ => rfl) (fun _ => rfl) (fun _ => rfl) (fun _ => ⟨rfl, rfl, .inr rfl, ⟨rfl, rfl, .inr rfl, ⟨rfl, rfl, .inr rfl, ⟨rfl, rfl, .inr rfl, ⟨rfl, rfl, .inr rfl, ⟨rfl, rfl, .inr rfl, ⟨rfl, rfl, .inr rfl, ⟨rfl, rfl, .inr rfl, ⟨rfl, rfl, .inr rfl, ⟨rfl, rfl, .inr rfl, ⟨rfl, rfl, .inl rfl, ⟨rfl, rfl, .inr rfl, trivial⟩⟩⟩⟩⟩⟩⟩⟩⟩⟩⟩⟩) (fun _ => ⟨trivial, rfl, ⟨⟨rfl, .inl rfl, ⟨rfl, .inl rfl, trivial⟩⟩, rfl, ⟨⟨rfl, .inr rfl, trivial⟩, rfl, trivial⟩⟩⟩) (gN (cD (zs := [.j 0, .j 0, .k false]) (aF rfl) zeroValue43 rfl rfl) (by rintro _ ⟨w, rfl⟩; exact ⟨⟨w, undef⟩, aU [0, 3, 2] rfl rfl (le_refl _)⟩)),
 fun X5 S hw hi hS => oA (X := X5) (p := 2) (v := fun x => .bp x.b 0 0) (mo := fun x => .box x.b 0 Z25) hS hi rfl rfl (fun _ => rfl) hw (fun _ => rfl) (fun _ => rfl) (fun _ => rfl) (fun _ => ⟨rfl, rfl, .inr rfl, ⟨rfl, rfl, .inr rfl, ⟨rfl, rfl, .inr rfl, ⟨rfl, rfl, .inr rfl, ⟨rfl, rfl, .inr rfl, ⟨rfl, rfl, .inr rfl, ⟨rfl, rfl, .inr rfl, ⟨rfl, rfl, .inr rfl, ⟨rfl, rfl, .inr rfl, ⟨rfl, rfl, .inr rfl, ⟨rfl, rfl, .inr rfl, ⟨rfl, rfl, .inl rfl, trivial⟩⟩⟩⟩⟩⟩⟩⟩⟩⟩⟩⟩) (fun _ => ⟨trivial, rfl, ⟨⟨rfl, .inr rfl, ⟨rfl, .inr rfl, trivial⟩⟩, rfl, ⟨⟨rfl, .inl rfl, trivial⟩, rfl, trivial⟩⟩⟩) (gN (cD (zs := [.j 0, .j 0, .k false]) (aF rfl) zeroValue43 rfl rfl) (by rintro _ ⟨w, rfl⟩; exact ⟨⟨w, undef⟩, aU [0, 1, 3] rfl rfl (le_refl _)⟩)),
 fun _ _ _ _ k => xs 1 k rfl rfl (rV (i := 1) (aY k rfl) (og k rfl rfl) (aY k rfl) rfl rfl sizeOf43 rfl (aF rfl) (Nat.le_of_ble_eq_true rfl) (ds' := (aK x6)) rfl), trivial⟩
    · exact fun X5 => cA (aM rfl (aM rfl (aM rfl (aT trivial))))
   ·intro X5;refine to (sst 2 rfl rfl sizeOf43 (aK x8)) (aB (aC (aA (tfl 1 rfl rfl mX rfl aP (tfl 2 rfl rfl mX rfl aP (to (scm rfl rfl rfl) (tm (.b (!decide (x6.Nation = x8.Nation))) ?_)))))));obtain ⟨s, o, h⟩ := bns h;refine aW 4 [7, 8] 37 s ?_ ?_
    ·refine bch o (fun f o => ?_) (fun f o => ?_)
     ·refine tp f (tp f (tp f (to (spt Z18 f) ?_)));obtain rfl := sIn o;refine aB (aI rfl ⟨rfl, rfl, trivial⟩ rfl)
     ·refine tkl 1 f rfl rfl mX rfl aP (tk f (scm rfl rfl rfl) (to (spf (.b (decide (x6.Nation = 0))) f) ?_));obtain rfl := sIn o;refine aB (aI rfl ⟨rfl, rfl, trivial⟩ rfl)
    ·refine tm (.b s) ?_;obtain ⟨t, m, h⟩ := bns h;refine aW 8 [] 46 t ?_ ?_
     ·refine bch m (fun a m => ?_) (fun a m => ?_)
      ·refine tkl 1 a rfl rfl rL rfl nZ (tk a (sm (.b x6.Qualified)) ?_);obtain ⟨u, q, m⟩ := bns m;refine aW 3 [38] 44 u ?_ ?_
       ·refine bch q (fun n q => ?_) (fun n q => ?_)
        ·refine tkl 2 n rfl rfl rL rfl nZ (tk a (spt (.b x8.Qualified) n) ?_);obtain rfl := sIn q;refine aB (aI rfl ⟨rfl, trivial⟩ rfl)
        ·refine tp n (tp n (tk a (spf Z4 n) ?_));obtain rfl := sIn q;refine aB (aI rfl ⟨rfl, trivial⟩ rfl)
       ·refine tk a (sn rfl) (to (spt (.b (!u)) a) ?_);obtain rfl := sIn m;refine aB (aI rfl trivial rfl)
      ·refine tp a (tp a (tp a (tq (tq (tp a (tp a (to (spf Z4 a) ?_)))))));obtain rfl := sIn m;refine aB (aI rfl trivial rfl)
     ·refine ta (.b t) (aB ?_);obtain rfl := sIn h;refine bM (bE (bG (l := [6]) ⟨rfl, trivial⟩)) ?_;exact rt

theorem yH (c : Int) (a : Int) (d : aR) (e : Int) {r : Bool} (h : nH c a d e = some r) : Fn Tryz.prog 218 [.i c, .i a, .cp (aL d), .cp [.j e]] (.b r) := by
 unfold nH at h;refine oT [.tmp 6] func218 results218 ntmps218 ?_;refine aC (aA (ta Z4 (aB (aC (aA (tm (.i c) (to (scm rfl rfl rfl) (tm (Z28 c) ?_))))))));obtain ⟨b1, h2, h⟩ := bns h;refine aW 5 [0, 1, 3] 14 b1 ?_ ?_
 ·refine bch h2 (fun c6 h2 => ?_) (fun c6 h2 => ?_)
  ·refine tp c6 (tp c6 (tp c6 (tp c6 (to (spt Z18 c6) ?_))));obtain rfl := sIn h2;refine aB (aI rfl ⟨rfl, rfl, rfl, trivial⟩ rfl)
  ·refine tk c6 (sm (.i c)) (tk c6 (sfc [.j d.Seeds] rfl iT) (tk c6 (slc rfl aP) (tk c6 (scm rfl rfl rfl) (to (spf (.b (decide (d.Seeds ≤ c))) c6) ?_))));obtain rfl := sIn h2;refine aB (aI rfl ⟨rfl, rfl, rfl, trivial⟩ rfl)
 ·refine tm (.b b1) ?_;obtain ⟨b3, h4, h⟩ := bns h;refine aW 7 [] 22 b3 ?_ ?_
  ·refine bch h4 (fun c5 h4 => ?_) (fun c5 h4 => ?_)
   ·refine tp c5 (tp c5 (tp c5 (tp c5 (tp c5 (tp c5 (to (spt Z18 c5) ?_))))));obtain rfl := sIn h4;refine aB (aI rfl trivial rfl)
   ·refine tk c5 (sm (.i a)) (tk c5 (scm rfl rfl rfl) (tk c5 (sm (.i c)) (tk c5 (slc rfl aP) (tk c5 (scm rfl rfl rfl) (tk c5 (aXe (aF rfl) rfl rfl underlying4) ?_)))));refine to (spf (.b (decide ((decide (a = (-1))) = (decide (c < e))))) c5) ?_;obtain rfl := sIn h4;refine aB (aI rfl trivial rfl)
  ·refine ta (.b b3) (aB ?_);obtain rfl := sIn h;exact rt

theorem aBt (d : aR) (k : Int) (m : Int) {r : Bool} (h : qG d k m = some r) : Fn Tryz.prog 172 [.agg (aL d), .i k, .i m] (.b r) := by
 unfold qG at h;refine oT [.tmp 6] func172 results172 ntmps172 ?_;refine aC (aA ?_);refine bB rfl (cQ (v := .agg (aL d)) (aF rfl) rfl rfl rfl) ?_;rintro _ ⟨b1, rfl⟩;refine ta Z4 (aB (aC (aA (tfl 0 rfl rfl cL rfl aP (tfl 0 rfl rfl cW rfl dY (to (sle rfl eL.of) (to (sar rfl rfl rfl) ?_)))))));refine bB rfl (cD (zs := [.j 0]) (aF rfl) zeroValue3 rfl rfl) ?_;rintro _ ⟨b2, rfl⟩;refine to (sst 1 rfl rfl sizeOf3 [.j (Z7 d)]) (aB (aC (aA (to (xV (aF rfl) rfl rfl) ?_))));refine ta (.fn 218 [.bp b1 0 0, .bp b2 0 0]) (aB (aC (aC (aA (to (sl 1 rfl rfl rfl aP) (tfl 0 rfl rfl iT rfl aP (to (scm rfl rfl rfl) (tm (.b (decide ((Z7 d) ≤ d.Seeds))) ?_))))))));obtain ⟨b3, h4, h⟩ := bns h;refine aW 19 [1, 2, 3, 8] 39 b3 ?_ ?_
 ·refine bch h4 (fun a h4 => ?_) (fun a h4 => ?_)
  ·refine tk a (sm (.i k)) (tk a (scm rfl rfl rfl) (tk a (sm (Z28 k)) ?_));obtain ⟨s, p, h4⟩ := bns h4;refine aW 5 [1, 2, 3, 8, 20] 28 s ?_ ?_
   ·refine bch p (fun g p => ?_) (fun g p => ?_)
    ·refine tk g (sm (.i m)) (tkl 0 g rfl rfl iT rfl aP (tk g (scm rfl rfl rfl) (tk a (spt (.b (decide (d.Seeds ≤ m))) g) ?_)));obtain rfl := sIn p;refine aB (aI rfl ⟨rfl, rfl, rfl, rfl, rfl, trivial⟩ rfl)
    ·refine tp g (tp g (tp g (tp g (tk a (spf Z4 g) ?_))));obtain rfl := sIn p;refine aB (aI rfl ⟨rfl, rfl, rfl, rfl, rfl, trivial⟩ rfl)
   ·refine tk a (sm (.b s)) ?_;obtain ⟨t, n, h4⟩ := bns h4;refine aW 9 [1, 2, 3, 8, 20] 38 t ?_ ?_
    ·refine bch n (fun c n => ?_) (fun c n => ?_)
     ·refine tp c (tp c (tp c (tq (tq (tq (tq (tp c (tk a (spt Z18 c) ?_))))))));obtain rfl := sIn n;refine aB (aI rfl ⟨rfl, rfl, rfl, rfl, rfl, trivial⟩ rfl)
     ·refine tk c (sm (.i m)) (tk c (scm rfl rfl rfl) (tk c (sm (Z28 m)) ?_));obtain ⟨u, q, n⟩ := bns n;refine aW 5 [1, 2, 3, 8, 20, 29] 37 u ?_ ?_
      ·refine bch q (fun j q => ?_) (fun j q => ?_)
       ·refine tk j (sm (.i k)) (tkl 0 j rfl rfl iT rfl aP (tk j (scm rfl rfl rfl) (tk c (spt (.b (decide (d.Seeds ≤ k))) j) ?_)));obtain rfl := sIn q;refine aB (aI rfl ⟨rfl, rfl, rfl, rfl, rfl, rfl, trivial⟩ rfl)
       ·refine tp j (tp j (tp j (tp j (tk c (spf Z4 j) ?_))));obtain rfl := sIn q;refine aB (aI rfl ⟨rfl, rfl, rfl, rfl, rfl, rfl, trivial⟩ rfl)
      ·refine tk a (spf (.b u) c) ?_;obtain rfl := sIn n;refine aB (aI rfl ⟨rfl, rfl, rfl, rfl, rfl, trivial⟩ rfl)
    ·refine to (spt (.b t) a) ?_;obtain rfl := sIn h4;refine aB (aI rfl ⟨rfl, rfl, rfl, rfl, trivial⟩ rfl)
  ·refine tp a (tp a (tp a (tq (tq (tq (tq (tp a (tp a (tq (tq (tq (tq (tq ?_)))))))))))));refine tq (tq (tq (tp a (to (spf Z4 a) ?_))));obtain rfl := sIn h4;refine aB (aI rfl ⟨rfl, rfl, rfl, rfl, trivial⟩ rfl)
 ·refine aB ?_;refine tih h (fun c5 h => ?_) (fun c5 h => ?_)
  ·refine aC (aA (ta Z4 (aB ?_)));obtain rfl := sIn h;refine bM (bE (bG (l := [6]) ⟨rfl, trivial⟩)) ?_;exact rt
  ·refine bA (aC (aA (to (sla 0 (aL d) rfl rfl dQ) (tm (.i k) (tm (.i m) ?_)))));obtain ⟨r6, h7, h⟩ := bns h;refine to (scr call219 (aKc _ _ _ h7)) (tm (.b r6) ?_);obtain ⟨b8, h9, h⟩ := bns h;refine aW 5 [1, 2, 8] 49 b8 ?_ ?_
   ·refine bch h9 (fun e h9 => ?_) (fun e h9 => ?_)
    ·refine tk e (sm (.fn 218 [.bp b1 0 0, .bp b2 0 0])) (tk e (sm (.i k)) (tk e (sm (.i m)) ?_));obtain ⟨x, y, h9⟩ := bns h9;refine tk e (cZ (aF rfl) (.clo _ _ _ _ call218 rfl) (aAj rfl) rfl (.cons (.same _) (.cons (.same _) (.cons (jG 0 rfl rfl (dvc (.same _) (dvc (.same _) (dvc (.same _) (dvc (.same _) dvn))))) (.cons (jG 1 rfl rfl (dvc (.same _) dvn)) .nil)))) (yH _ _ _ _ y) rfl) ?_;refine to (spt (.b x) e) ?_;obtain rfl := sIn h9;refine aB (aI rfl ⟨rfl, rfl, rfl, trivial⟩ rfl)
    ·refine tp e (tp e (tp e (tp e (to (spf Z4 e) ?_))));obtain rfl := sIn h9;refine aB (aI rfl ⟨rfl, rfl, rfl, trivial⟩ rfl)
   ·refine tm (.b b8) ?_;obtain ⟨w, o, h⟩ := bns h;refine aW 5 [] 55 w ?_ ?_
    ·refine bch o (fun f o => ?_) (fun f o => ?_)
     ·refine tk f (sm (.fn 218 [.bp b1 0 0, .bp b2 0 0])) (tk f (sm (.i m)) (tk f (sm (.i k)) ?_));obtain ⟨z, A, o⟩ := bns o;refine tk f (cZ (aF rfl) (.clo _ _ _ _ call218 rfl) (aAj rfl) rfl (.cons (.same _) (.cons (.same _) (.cons (jG 0 rfl rfl (dvc (.same _) (dvc (.same _) (dvc (.same _) (dvc (.same _) dvn))))) (.cons (jG 1 rfl rfl (dvc (.same _) dvn)) .nil)))) (yH _ _ _ _ A) rfl) ?_;refine to (spt (.b z) f) ?_;obtain rfl := sIn o;refine aB (aI rfl trivial rfl)
     ·refine tp f (tp f (tp f (tp f (to (spf Z4 f) ?_))));obtain rfl := sIn o;refine aB (aI rfl trivial rfl)
    ·refine ta (.b w) (aB ?_);obtain rfl := sIn h;refine bM (bE (bG (l := [6]) ⟨rfl, trivial⟩)) ?_;exact rt

theorem aCp {S : Type} (J K : S → MO → Prop) (ly : Nat) (V : S → (List Int) → Option (S × Bool)) (hy : ∀ (s : S) (m : MO) (x0 : List Int) (s' : S × Bool), J s m → V s x0 = some s' → uP Tryz.prog ly [.d (.sl 1 (x0.map aG))] m (fun b m' => b = s'.2 ∧ JK J K s' m')) (kr : Nat) : ∀ (a : List Int) (F : Int) (e : aR) (B : List Int) (sy : S) {r : S × Bool} {o j c : Nat} (m0 : MO) (_hj : J sy m0) (_hcap : a.length ≤ c) (_hsz : (c : Int) = e.Size) (_h : fG V kr a F e B sy = some r), dN Tryz.prog 170 [.d (.lit (vw j a.length c)), .i F, .cp [.j e.Size, .j e.Seeds, .sl 3 (e.Persons.map aK), .sl 1 (e.Lots.map aG)], .cp (Z24 ly), .cp [.sl 1 (B.map aG)], .bp o 0 0] [m0, mV o 170 [.cp [.j e.Size, .j e.Seeds, .sl 3 (e.Persons.map aK), .sl 1 (e.Lots.map aG)], .cp (Z24 ly), .cp [.sl 1 (B.map aG)], .bp o 0 0], .arr (vw j a.length c) 3 1 (a.map aG)] (fun r' o' => ∃ m', r' = .b r.2 ∧ JK J K r m' ∧ o' = [m', mV o 170 [.cp [.j e.Size, .j e.Seeds, .sl 3 (e.Persons.map aK), .sl 1 (e.Lots.map aG)], .cp (Z24 ly), .cp [.sl 1 (B.map aG)], .bp o 0 0], .arr (vw j a.length c) 3 1 (a.map aG)]) := by
  induction kr with
  | zero => intros; rename_i h; cases h
  | succ kr ih =>
    intro a F e B sy r o j c m0 hj hcap hsz h;simp only [fG] at h;refine vC func170 rfl (rs := [.tmp 8]) results170 ntmps170 (Nat.le_of_ble_eq_true rfl) ?_;refine aC (aA (ta Z4 (aB (aC (aA (tm (.d (.lit (vw j a.length c))) (to (rU (m := 2) (aF rfl) rfl rfl bF.of) ?_)))))));refine ta (.i (a.length : Int)) (aB (aC (aC (aA (tm (.i (a.length : Int)) (to (sfc [.j e.Size] rfl cL) (to (slc rfl aP) (to (scm rfl rfl rfl) (aB ?_)))))))));refine tih h (fun c1 h => ?_) (fun c1 h => ?_)
    ·refine aC ?_;obtain ⟨r3, h4, h⟩ := bns h;refine iN mix 3 [] (fun X2 => [(19, .d (.lit (yv ly))), (21, .d (.lit (X2 2).v))]) (fun X2 => [m0, mV o 170 [.cp [.j e.Size, .j e.Seeds, .sl 3 (e.Persons.map aK), .sl 1 (e.Lots.map aG)], .cp (Z24 ly), .cp [.sl 1 (B.map aG)], .bp o 0 0], .arr (vw j a.length c) 3 1 (a.map aG), .arr (X2 2).v 3 1 (r3.map aG)]) ?_ ?_
     ·refine ⟨1, fun X2 => [(19, 0, .d (.lit (yv ly))), (20, 1, .d (.lit (vw j a.length c))), (21, 2, .d (.lit (X2 2).v))], fun X2 => [([], m0), ([], mV o 170 [.cp [.j e.Size, .j e.Seeds, .sl 3 (e.Persons.map aK), .sl 1 (e.Lots.map aG)], .cp (Z24 ly), .cp [.sl 1 (B.map aG)], .bp o 0 0]), ([], .arr (vw j a.length c) 3 1 (a.map aG)), ([(2, .arr (X2 2).v 3 1 (r3.map aG))], nob)], ?_, ?_⟩
      · exact xok [(0, 0), (0, 3), (2, 0)] ⟨fun _ _ w _ k => xp w (ylc k rfl aVe),
 fun _ _ w _ k => xp w (ym k (.d (.lit (vw j a.length c)))),
 fun X2 S hw hi hS => oA (X := X2) (p := 3) (v := fun x => .d (.lit x.v)) (mo := fun x => .arr x.v 3 1 (r3.map aG)) hS hi rfl rfl (fun _ => rfl) hw (fun _ => rfl) (fun _ => rfl) (fun _ => rfl) (fun _ => ⟨rfl, rfl, .inr rfl, ⟨rfl, rfl, .inr rfl, ⟨rfl, rfl, .inl rfl, trivial⟩⟩⟩) (fun _ => ⟨trivial, rfl, ⟨trivial, rfl, ⟨trivial, rfl, ⟨⟨rfl, .inl rfl, trivial⟩, rfl, trivial⟩⟩⟩⟩) (gN (aNp (aF rfl) (.func _ _ call93) (ev2 (aY hS rfl) evn) rfl (.cons (.d (cK 2 (og hS rfl rfl) (bO (f := aG) fun _ => rfl))) .nil) (qQ _ h4) (aJk (fun _ => rfl) _)) (by rintro _ ⟨w, rfl⟩; exact ⟨⟨0, w⟩, aU [0, 1, 2, 4] rfl rfl (le_refl _)⟩)), trivial⟩
      · exact fun X2 => cA (aM rfl (aM rfl (aT trivial)))
     ·intro X2;refine fE (zP [m0, mV o 170 [.cp [.j e.Size, .j e.Seeds, .sl 3 (e.Persons.map aK), .sl 1 (e.Lots.map aG)], .cp (Z24 ly), .cp [.sl 1 (B.map aG)], .bp o 0 0], .arr (vw j a.length c) 3 1 (a.map aG)] [.arr (X2 2).v 3 1 (r3.map aG)] rfl (oR (k := 21) (v := .d (.sl 1 (r3.map aG))) (.d (cK 0 rfl (bO (f := aG) fun _ => rfl))) (sR _ _))) ?_;obtain ⟨y5, h6, h⟩ := bns h;refine aRy rfl (aTq (aF rfl) rfl rfl rfl rfl (hy _ _ _ _ hj h6)) ?_;rintro _ ⟨_, m7, ⟨rfl, a4⟩, rfl⟩;refine ta (.b y5.2) (aB ?_);obtain rfl := sIn h;exact bZ ⟨rfl, _, [m7, mV o 170 [.cp [.j e.Size, .j e.Seeds, .sl 3 (e.Persons.map aK), .sl 1 (e.Lots.map aG)], .cp (Z24 ly), .cp [.sl 1 (B.map aG)], .bp o 0 0], .arr (vw j a.length c) 3 1 (a.map aG)], [], _, .one (.tmp 8 (v := .b y5.2) rfl), .refl _, .same _, m7, rfl, a4, rfl⟩
    ·refine bA (aC (aC (aA (to (slc rfl dB) (to (sle rfl bF.of) (tm (.i 0) (aB (bS ?_))))))));refine cR (S := Int × ({x : S × MO // J x.1 x.2})) [0, 1, 2, 5, 9, 23, 24] (fun s9 => [(25, .i s9.1)]) (fun s9 => [.arr (vw j a.length c) 3 1 (a.map aG), s9.2.1.2, mV o 170 [.cp [.j e.Size, .j e.Seeds, .sl 3 (e.Persons.map aK), .sl 1 (e.Lots.map aG)], .cp (Z24 ly), .cp [.sl 1 (B.map aG)], .bp o 0 0]]) (fun k s9 => fS V (fG V kr) F e (a.length : Int) B (B.length : Int) a e B k s9.1 s9.2.1.1) (fun _ => rfl) (0, ⟨(sy, m0), hj⟩) h (aU [2, 0, 1] rfl rfl (aM rfl (aT ⟨rfl, rfl, rfl, rfl, rfl, rfl, rfl, trivial⟩))) ?_;rintro b3 ⟨L, I⟩ h;simp only [fS] at h;refine aC (aA (to (scm rfl rfl rfl) (aB (aC ?_))));refine tih h (fun a5 h => ?_) (fun a5 h => ?_)
     ·refine bA (aC (bS (aC (aA ?_))));obtain ⟨g, a6, h⟩ := bns h;refine to (six rfl rfl bF.of (bN aG a6)) (to (slc rfl aP) (ta (.i g) (aB (aC (aA (tm (.i F) (ta (.i F) (aB (aC (aC (aA (tm (.i g) (to (scm rfl rfl rfl) ?_)))))))))))));refine aB ?_;obtain ⟨q, T, h⟩ := bns h;refine aVx [0, 1, 2, 5, 9, 11, 23, 24, 25] [(12, .i q)] [.arr (vw j a.length c) 3 1 (a.map aG), I.1.2, mV o 170 [.cp [.j e.Size, .j e.Seeds, .sl 3 (e.Persons.map aK), .sl 1 (e.Lots.map aG)], .cp (Z24 ly), .cp [.sl 1 (B.map aG)], .bp o 0 0]] ?_ ?_
      ·refine tih T (fun a7 T => ?_) (fun a7 T => ?_)
       ·refine aA (tm (.i F) (to (sar rfl rfl rfl) (ta (.i (w64 (F - 1))) (aB ?_))));obtain rfl := sIn T;exact aU [0, 1, 2] rfl rfl (aM rfl (aT ⟨rfl, rfl, rfl, rfl, rfl, rfl, rfl, rfl, rfl, trivial⟩))
       ·refine bA ?_;obtain rfl := sIn T;exact aU [0, 1, 2] rfl rfl (aM rfl (aT ⟨rfl, rfl, rfl, rfl, rfl, rfl, rfl, rfl, rfl, trivial⟩))
      ·refine aC (aC ?_);obtain ⟨b4, N, h⟩ := bns h;obtain ⟨b5, G, h⟩ := bns h;obtain ⟨a8, C, h⟩ := bns h;refine dJ mix 34 [0, 1, 2, 5, 9, 11, 12, 23, 24, 25] [(67, .b a8)] ?_ ?_
       ·refine bch N (fun u N => ?_) (fun u N => ?_)
        ·obtain rfl := sIn N;have n : true = true := rfl;have G := uU n G;obtain rfl := sIn G;have l : true = true := rfl;have C := uU l C;obtain rfl := sIn C;refine ⟨[(34, 0, .i q), (35, 1, .b (decide (q < 0))), (36, 2, .b (decide (q < 0))), (37, 3, .tup []), (38, 4, .tup []), (39, 5, .tup []), (40, 6, .tup []), (41, 7, .tup []), (42, 8, .tup []), (43, 9, .tup []), (44, 10, .b true), (45, 11, .b (true)), (46, 12, .tup []), (47, 13, .tup []), (48, 14, .tup []), (49, 15, .tup []), (50, 16, .tup []), (51, 17, .b true), (52, 18, .b (true)), (53, 19, .tup []), (54, 20, .tup []), (55, 21, .tup []), (56, 22, .tup []), (57, 23, .tup []), (58, 24, .tup []), (59, 25, .tup []), (60, 26, .tup []), (61, 27, .tup []), (62, 28, .tup []), (63, 29, .tup []), (64, 30, .tup []), (65, 31, .tup []), (66, 32, .tup []), (67, 33, .b true)], ?_, ?_⟩
         · exact dk [0, 1, 2, 3, 304, 305, 6, 6, 60708, 30609, 310, 11, 12, 12, 12, 12131415, 1216, 1217, 18, 19, 1920, 1921, 1922, 23, 23, 23, 2326, 232527, 2328, 23, 23242930, 2331, 192332, 1933] ⟨go (zm (.i q)),
 go (zcm rfl rfl rfl),
 go (zm (.b (decide (q < 0)))),
 gp u,
 gp u,
 gp u,
 gq,
 gq,
 gq,
 gp u,
 go (zpt Z18 u),
 go (zm (.b (true))),
 gp n,
 gp n,
 gp n,
 gp n,
 gp n,
 go (zpt Z18 n),
 go (zm (.b (true))),
 gp l,
 gp l,
 gp l,
 gp l,
 gq,
 gq,
 gq,
 gq,
 gq,
 gq,
 gq,
 gq,
 gq,
 gp l,
 go (zpt Z18 l), trivial⟩
         · exact cA (aM rfl (aT ⟨rfl, rfl, rfl, rfl, rfl, rfl, rfl, rfl, rfl, rfl, trivial⟩))
        ·obtain ⟨b6, P, N⟩ := bns N;refine bch P (fun z P => ?_) (fun z P => ?_)
         ·obtain ⟨A, W, P⟩ := bns P;obtain rfl := sIn P;obtain rfl := sIn N;refine bch G (fun n G => ?_) (fun n G => ?_)
          ·obtain rfl := sIn G;have l : true = true := rfl;have C := uU l C;obtain rfl := sIn C;refine ⟨[(34, 0, .i q), (35, 1, .b (decide (q < 0))), (36, 2, .b (decide (q < 0))), (37, 3, .i g), (38, 4, .b (!decide (g = (-1)))), (39, 5, .b (!decide (g = (-1)))), (40, 6, .d (.lit (vw j a.length c))), (41, 7, .i g), (42, 8, .b A), (43, 9, .b A), (44, 10, .b (A)), (45, 11, .b (A)), (46, 12, .tup []), (47, 13, .tup []), (48, 14, .tup []), (49, 15, .tup []), (50, 16, .tup []), (51, 17, .b true), (52, 18, .b (true)), (53, 19, .tup []), (54, 20, .tup []), (55, 21, .tup []), (56, 22, .tup []), (57, 23, .tup []), (58, 24, .tup []), (59, 25, .tup []), (60, 26, .tup []), (61, 27, .tup []), (62, 28, .tup []), (63, 29, .tup []), (64, 30, .tup []), (65, 31, .tup []), (66, 32, .tup []), (67, 33, .b true)], ?_, ?_⟩
           · exact dk [0, 1, 2, 3, 304, 305, 6, 6, 60708, 30609, 310, 11, 12, 12, 12, 12131415, 1216, 1217, 18, 19, 1920, 1921, 1922, 23, 23, 23, 2326, 232527, 2328, 23, 23242930, 2331, 192332, 1933] ⟨go (zm (.i q)),
 go (zcm rfl rfl rfl),
 go (zm (.b (decide (q < 0)))),
 gt u (zm (.i g)),
 gt u (zcm rfl rfl rfl),
 gt u (zm (.b (!decide (g = (-1))))),
 gt z (zm (.d (.lit (vw j a.length c)))),
 gt z (zm (.i g)),
 gt z fun S hS => cZ (aF rfl) (.func _ _ call91) (ev2 (aY hS rfl) (ev2 (aY hS rfl) evn)) rfl (.cons (.d (cK 0 rfl (bO (f := aG) fun _ => rfl))) (.cons (.same _) .nil)) (fM _ _ W) rfl,
 gt u (zpt (.b A) z),
 go (zpf (.b (A)) u),
 go (zm (.b (A))),
 gp n,
 gp n,
 gp n,
 gp n,
 gp n,
 go (zpt Z18 n),
 go (zm (.b (true))),
 gp l,
 gp l,
 gp l,
 gp l,
 gq,
 gq,
 gq,
 gq,
 gq,
 gq,
 gq,
 gq,
 gq,
 gp l,
 go (zpt Z18 l), trivial⟩
           · exact cA (aM rfl (aT ⟨rfl, rfl, rfl, rfl, rfl, rfl, rfl, rfl, rfl, rfl, trivial⟩))
          ·obtain ⟨y, Q, G⟩ := bns G;obtain rfl := sIn G;refine bch C (fun l C => ?_) (fun l C => ?_)
           ·obtain rfl := sIn C;refine ⟨[(34, 0, .i q), (35, 1, .b (decide (q < 0))), (36, 2, .b (decide (q < 0))), (37, 3, .i g), (38, 4, .b (!decide (g = (-1)))), (39, 5, .b (!decide (g = (-1)))), (40, 6, .d (.lit (vw j a.length c))), (41, 7, .i g), (42, 8, .b A), (43, 9, .b A), (44, 10, .b (A)), (45, 11, .b (A)), (46, 12, .agg (aL e)), (47, 13, .i (a.length : Int)), (48, 14, .i g), (49, 15, .b y), (50, 16, .b (!y)), (51, 17, .b (!y)), (52, 18, .b (!y)), (53, 19, .tup []), (54, 20, .tup []), (55, 21, .tup []), (56, 22, .tup []), (57, 23, .tup []), (58, 24, .tup []), (59, 25, .tup []), (60, 26, .tup []), (61, 27, .tup []), (62, 28, .tup []), (63, 29, .tup []), (64, 30, .tup []), (65, 31, .tup []), (66, 32, .tup []), (67, 33, .b true)], ?_, ?_⟩
            · exact dk [0, 1, 2, 3, 304, 305, 6, 6, 60708, 30609, 310, 11, 12, 12, 12, 12131415, 1216, 1217, 18, 19, 1920, 1921, 1922, 23, 23, 23, 2326, 232527, 2328, 23, 23242930, 2331, 192332, 1933] ⟨go (zm (.i q)),
 go (zcm rfl rfl rfl),
 go (zm (.b (decide (q < 0)))),
 gt u (zm (.i g)),
 gt u (zcm rfl rfl rfl),
 gt u (zm (.b (!decide (g = (-1))))),
 gt z (zm (.d (.lit (vw j a.length c)))),
 gt z (zm (.i g)),
 gt z fun S hS => cZ (aF rfl) (.func _ _ call91) (ev2 (aY hS rfl) (ev2 (aY hS rfl) evn)) rfl (.cons (.d (cK 0 rfl (bO (f := aG) fun _ => rfl))) (.cons (.same _) .nil)) (fM _ _ W) rfl,
 gt u (zpt (.b A) z),
 go (zpf (.b (A)) u),
 go (zm (.b (A))),
 gt n (aDy (aL e) rfl dQ),
 gt n (zm (.i (a.length : Int))),
 gt n (zm (.i g)),
 gt n fun S hS => cZ (aF rfl) (.func _ _ call171) (ev2 (aY hS rfl) (ev2 (aY hS rfl) (ev2 (aY hS rfl) evn))) rfl (BVs.refl _ _) (oX _ _ _ Q) rfl,
 gt n (zn rfl),
 go (zpf (.b (!y)) n),
 go (zm (.b (!y))),
 gp l,
 gp l,
 gp l,
 gp l,
 gq,
 gq,
 gq,
 gq,
 gq,
 gq,
 gq,
 gq,
 gq,
 gp l,
 go (zpt Z18 l), trivial⟩
            · exact cA (aM rfl (aT ⟨rfl, rfl, rfl, rfl, rfl, rfl, rfl, rfl, rfl, rfl, trivial⟩))
           ·obtain ⟨a9, E, C⟩ := bns C;refine bch E (fun t E => ?_) (fun t E => ?_)
            ·obtain ⟨Y, U, E⟩ := bns E;obtain ⟨H, Z, E⟩ := bns E;obtain rfl := sIn E;obtain rfl := sIn C;refine ⟨[(34, 0, .i q), (35, 1, .b (decide (q < 0))), (36, 2, .b (decide (q < 0))), (37, 3, .i g), (38, 4, .b (!decide (g = (-1)))), (39, 5, .b (!decide (g = (-1)))), (40, 6, .d (.lit (vw j a.length c))), (41, 7, .i g), (42, 8, .b A), (43, 9, .b A), (44, 10, .b (A)), (45, 11, .b (A)), (46, 12, .agg (aL e)), (47, 13, .i (a.length : Int)), (48, 14, .i g), (49, 15, .b y), (50, 16, .b (!y)), (51, 17, .b (!y)), (52, 18, .b (!y)), (53, 19, .i (a.length : Int)), (54, 20, .i ((a.length : Int).tmod 2)), (55, 21, .b (decide (((a.length : Int).tmod 2) = 1))), (56, 22, .b (decide (((a.length : Int).tmod 2) = 1))), (57, 23, .agg (aL e)), (58, 24, .d (.lit (vw j a.length c))), (59, 25, .i (a.length : Int)), (60, 26, .i (w64 ((a.length : Int) - 1))), (61, 27, .ep (vw j a.length c) 1 (w64 ((a.length : Int) - 1)).toNat 0), (62, 28, .i Y), (63, 29, .i g), (64, 30, .b H), (65, 31, .b (!H)), (66, 32, .b (!H)), (67, 33, .b (!H))], ?_, ?_⟩
             · exact dk [0, 1, 2, 3, 304, 305, 6, 6, 60708, 30609, 310, 11, 12, 12, 12, 12131415, 1216, 1217, 18, 19, 1920, 1921, 1922, 23, 23, 23, 2326, 232527, 2328, 23, 23242930, 2331, 192332, 1933] ⟨go (zm (.i q)),
 go (zcm rfl rfl rfl),
 go (zm (.b (decide (q < 0)))),
 gt u (zm (.i g)),
 gt u (zcm rfl rfl rfl),
 gt u (zm (.b (!decide (g = (-1))))),
 gt z (zm (.d (.lit (vw j a.length c)))),
 gt z (zm (.i g)),
 gt z fun S hS => cZ (aF rfl) (.func _ _ call91) (ev2 (aY hS rfl) (ev2 (aY hS rfl) evn)) rfl (.cons (.d (cK 0 rfl (bO (f := aG) fun _ => rfl))) (.cons (.same _) .nil)) (fM _ _ W) rfl,
 gt u (zpt (.b A) z),
 go (zpf (.b (A)) u),
 go (zm (.b (A))),
 gt n (aDy (aL e) rfl dQ),
 gt n (zm (.i (a.length : Int))),
 gt n (zm (.i g)),
 gt n fun S hS => cZ (aF rfl) (.func _ _ call171) (ev2 (aY hS rfl) (ev2 (aY hS rfl) (ev2 (aY hS rfl) evn))) rfl (BVs.refl _ _) (oX _ _ _ Q) rfl,
 gt n (zn rfl),
 go (zpf (.b (!y)) n),
 go (zm (.b (!y))),
 gt l (zm (.i (a.length : Int))),
 gt l fun S hS => mK (aF rfl) (aY hS rfl) rfl (by decide),
 gt l (zcm rfl rfl rfl),
 gt l (zm (.b (decide (((a.length : Int).tmod 2) = 1)))),
 gt t (aDy (aL e) rfl dQ),
 gt t (zm (.d (.lit (vw j a.length c)))),
 gt t (zm (.i (a.length : Int))),
 gt t (zar rfl rfl rfl),
 gt t (zia 0 rfl rfl rfl bF.of (bN aG U)),
 gt t fun S hS => rN (aF rfl) (aY hS rfl) (m := 0) rfl (vT aG U) rfl aP,
 gt t (zm (.i g)),
 gt t fun S hS => cZ (aF rfl) (.func _ _ call172) (ev2 (aY hS rfl) (ev2 (aY hS rfl) (ev2 (aY hS rfl) evn))) rfl (BVs.refl _ _) (aBt _ _ _ Z) rfl,
 gt t (zn rfl),
 gt l (zpt (.b (!H)) t),
 go (zpf (.b (!H)) l), trivial⟩
             · exact cA (aM rfl (aT ⟨rfl, rfl, rfl, rfl, rfl, rfl, rfl, rfl, rfl, rfl, trivial⟩))
            ·obtain rfl := sIn E;obtain rfl := sIn C;refine ⟨[(34, 0, .i q), (35, 1, .b (decide (q < 0))), (36, 2, .b (decide (q < 0))), (37, 3, .i g), (38, 4, .b (!decide (g = (-1)))), (39, 5, .b (!decide (g = (-1)))), (40, 6, .d (.lit (vw j a.length c))), (41, 7, .i g), (42, 8, .b A), (43, 9, .b A), (44, 10, .b (A)), (45, 11, .b (A)), (46, 12, .agg (aL e)), (47, 13, .i (a.length : Int)), (48, 14, .i g), (49, 15, .b y), (50, 16, .b (!y)), (51, 17, .b (!y)), (52, 18, .b (!y)), (53, 19, .i (a.length : Int)), (54, 20, .i ((a.length : Int).tmod 2)), (55, 21, .b (decide (((a.length : Int).tmod 2) = 1))), (56, 22, .b (decide (((a.length : Int).tmod 2) = 1))), (57, 23, .tup []), (58, 24, .tup []), (59, 25, .tup []), (60, 26, .tup []), (61, 27, .tup []), (62, 28, .tup []), (63, 29, .tup []), (64, 30, .tup []), (65, 31, .tup []), (66, 32, .b false), (67, 33, .b (false))], ?_, ?_⟩
             · exact dk [0, 1, 2, 3, 304, 305, 6, 6, 60708, 30609, 310, 11, 12, 12, 12, 12131415, 1216, 1217, 18, 19, 1920, 1921, 1922, 23, 23, 23, 2326, 232527, 2328, 23, 23242930, 2331, 192332, 1933] ⟨go (zm (.i q)),
 go (zcm rfl rfl rfl),
 go (zm (.b (decide (q < 0)))),
 gt u (zm (.i g)),
 gt u (zcm rfl rfl rfl),
 gt u (zm (.b (!decide (g = (-1))))),
 gt z (zm (.d (.lit (vw j a.length c)))),
 gt z (zm (.i g)),
 gt z fun S hS => cZ (aF rfl) (.func _ _ call91) (ev2 (aY hS rfl) (ev2 (aY hS rfl) evn)) rfl (.cons (.d (cK 0 rfl (bO (f := aG) fun _ => rfl))) (.cons (.same _) .nil)) (fM _ _ W) rfl,
 gt u (zpt (.b A) z),
 go (zpf (.b (A)) u),
 go (zm (.b (A))),
 gt n (aDy (aL e) rfl dQ),
 gt n (zm (.i (a.length : Int))),
 gt n (zm (.i g)),
 gt n fun S hS => cZ (aF rfl) (.func _ _ call171) (ev2 (aY hS rfl) (ev2 (aY hS rfl) (ev2 (aY hS rfl) evn))) rfl (BVs.refl _ _) (oX _ _ _ Q) rfl,
 gt n (zn rfl),
 go (zpf (.b (!y)) n),
 go (zm (.b (!y))),
 gt l (zm (.i (a.length : Int))),
 gt l fun S hS => mK (aF rfl) (aY hS rfl) rfl (by decide),
 gt l (zcm rfl rfl rfl),
 gt l (zm (.b (decide (((a.length : Int).tmod 2) = 1)))),
 gp t,
 gp t,
 gp t,
 gp t,
 gp t,
 gp t,
 gp t,
 gp t,
 gp t,
 gt l (zpf Z4 t),
 go (zpf Z44 l), trivial⟩
             · exact cA (aM rfl (aT ⟨rfl, rfl, rfl, rfl, rfl, rfl, rfl, rfl, rfl, rfl, trivial⟩))
         ·obtain rfl := sIn P;obtain rfl := sIn N;have n : false = false := rfl;have G := uT n G;obtain ⟨y, Q, G⟩ := bns G;obtain rfl := sIn G;refine bch C (fun l C => ?_) (fun l C => ?_)
          ·obtain rfl := sIn C;refine ⟨[(34, 0, .i q), (35, 1, .b (decide (q < 0))), (36, 2, .b (decide (q < 0))), (37, 3, .i g), (38, 4, .b (!decide (g = (-1)))), (39, 5, .b (!decide (g = (-1)))), (40, 6, .tup []), (41, 7, .tup []), (42, 8, .tup []), (43, 9, .b false), (44, 10, .b (false)), (45, 11, .b (false)), (46, 12, .agg (aL e)), (47, 13, .i (a.length : Int)), (48, 14, .i g), (49, 15, .b y), (50, 16, .b (!y)), (51, 17, .b (!y)), (52, 18, .b (!y)), (53, 19, .tup []), (54, 20, .tup []), (55, 21, .tup []), (56, 22, .tup []), (57, 23, .tup []), (58, 24, .tup []), (59, 25, .tup []), (60, 26, .tup []), (61, 27, .tup []), (62, 28, .tup []), (63, 29, .tup []), (64, 30, .tup []), (65, 31, .tup []), (66, 32, .tup []), (67, 33, .b true)], ?_, ?_⟩
           · exact dk [0, 1, 2, 3, 304, 305, 6, 6, 60708, 30609, 310, 11, 12, 12, 12, 12131415, 1216, 1217, 18, 19, 1920, 1921, 1922, 23, 23, 23, 2326, 232527, 2328, 23, 23242930, 2331, 192332, 1933] ⟨go (zm (.i q)),
 go (zcm rfl rfl rfl),
 go (zm (.b (decide (q < 0)))),
 gt u (zm (.i g)),
 gt u (zcm rfl rfl rfl),
 gt u (zm (.b (!decide (g = (-1))))),
 gp z,
 gp z,
 gp z,
 gt u (zpf Z4 z),
 go (zpf Z44 u),
 go (zm Z44),
 gt n (aDy (aL e) rfl dQ),
 gt n (zm (.i (a.length : Int))),
 gt n (zm (.i g)),
 gt n fun S hS => cZ (aF rfl) (.func _ _ call171) (ev2 (aY hS rfl) (ev2 (aY hS rfl) (ev2 (aY hS rfl) evn))) rfl (BVs.refl _ _) (oX _ _ _ Q) rfl,
 gt n (zn rfl),
 go (zpf (.b (!y)) n),
 go (zm (.b (!y))),
 gp l,
 gp l,
 gp l,
 gp l,
 gq,
 gq,
 gq,
 gq,
 gq,
 gq,
 gq,
 gq,
 gq,
 gp l,
 go (zpt Z18 l), trivial⟩
           · exact cA (aM rfl (aT ⟨rfl, rfl, rfl, rfl, rfl, rfl, rfl, rfl, rfl, rfl, trivial⟩))
          ·obtain ⟨a9, E, C⟩ := bns C;refine bch E (fun t E => ?_) (fun t E => ?_)
           ·obtain ⟨Y, U, E⟩ := bns E;obtain ⟨H, Z, E⟩ := bns E;obtain rfl := sIn E;obtain rfl := sIn C;refine ⟨[(34, 0, .i q), (35, 1, .b (decide (q < 0))), (36, 2, .b (decide (q < 0))), (37, 3, .i g), (38, 4, .b (!decide (g = (-1)))), (39, 5, .b (!decide (g = (-1)))), (40, 6, .tup []), (41, 7, .tup []), (42, 8, .tup []), (43, 9, .b false), (44, 10, .b (false)), (45, 11, .b (false)), (46, 12, .agg (aL e)), (47, 13, .i (a.length : Int)), (48, 14, .i g), (49, 15, .b y), (50, 16, .b (!y)), (51, 17, .b (!y)), (52, 18, .b (!y)), (53, 19, .i (a.length : Int)), (54, 20, .i ((a.length : Int).tmod 2)), (55, 21, .b (decide (((a.length : Int).tmod 2) = 1))), (56, 22, .b (decide (((a.length : Int).tmod 2) = 1))), (57, 23, .agg (aL e)), (58, 24, .d (.lit (vw j a.length c))), (59, 25, .i (a.length : Int)), (60, 26, .i (w64 ((a.length : Int) - 1))), (61, 27, .ep (vw j a.length c) 1 (w64 ((a.length : Int) - 1)).toNat 0), (62, 28, .i Y), (63, 29, .i g), (64, 30, .b H), (65, 31, .b (!H)), (66, 32, .b (!H)), (67, 33, .b (!H))], ?_, ?_⟩
            · exact dk [0, 1, 2, 3, 304, 305, 6, 6, 60708, 30609, 310, 11, 12, 12, 12, 12131415, 1216, 1217, 18, 19, 1920, 1921, 1922, 23, 23, 23, 2326, 232527, 2328, 23, 23242930, 2331, 192332, 1933] ⟨go (zm (.i q)),
 go (zcm rfl rfl rfl),
 go (zm (.b (decide (q < 0)))),
 gt u (zm (.i g)),
 gt u (zcm rfl rfl rfl),
 gt u (zm (.b (!decide (g = (-1))))),
 gp z,
 gp z,
 gp z,
 gt u (zpf Z4 z),
 go (zpf Z44 u),
 go (zm Z44),
 gt n (aDy (aL e) rfl dQ),
 gt n (zm (.i (a.length : Int))),
 gt n (zm (.i g)),
 gt n fun S hS => cZ (aF rfl) (.func _ _ call171) (ev2 (aY hS rfl) (ev2 (aY hS rfl) (ev2 (aY hS rfl) evn))) rfl (BVs.refl _ _) (oX _ _ _ Q) rfl,
 gt n (zn rfl),
 go (zpf (.b (!y)) n),
 go (zm (.b (!y))),
 gt l (zm (.i (a.length : Int))),
 gt l fun S hS => mK (aF rfl) (aY hS rfl) rfl (by decide),
 gt l (zcm rfl rfl rfl),
 gt l (zm (.b (decide (((a.length : Int).tmod 2) = 1)))),
 gt t (aDy (aL e) rfl dQ),
 gt t (zm (.d (.lit (vw j a.length c)))),
 gt t (zm (.i (a.length : Int))),
 gt t (zar rfl rfl rfl),
 gt t (zia 0 rfl rfl rfl bF.of (bN aG U)),
 gt t fun S hS => rN (aF rfl) (aY hS rfl) (m := 0) rfl (vT aG U) rfl aP,
 gt t (zm (.i g)),
 gt t fun S hS => cZ (aF rfl) (.func _ _ call172) (ev2 (aY hS rfl) (ev2 (aY hS rfl) (ev2 (aY hS rfl) evn))) rfl (BVs.refl _ _) (aBt _ _ _ Z) rfl,
 gt t (zn rfl),
 gt l (zpt (.b (!H)) t),
 go (zpf (.b (!H)) l), trivial⟩
            · exact cA (aM rfl (aT ⟨rfl, rfl, rfl, rfl, rfl, rfl, rfl, rfl, rfl, rfl, trivial⟩))
           ·obtain rfl := sIn E;obtain rfl := sIn C;refine ⟨[(34, 0, .i q), (35, 1, .b (decide (q < 0))), (36, 2, .b (decide (q < 0))), (37, 3, .i g), (38, 4, .b (!decide (g = (-1)))), (39, 5, .b (!decide (g = (-1)))), (40, 6, .tup []), (41, 7, .tup []), (42, 8, .tup []), (43, 9, .b false), (44, 10, .b (false)), (45, 11, .b (false)), (46, 12, .agg (aL e)), (47, 13, .i (a.length : Int)), (48, 14, .i g), (49, 15, .b y), (50, 16, .b (!y)), (51, 17, .b (!y)), (52, 18, .b (!y)), (53, 19, .i (a.length : Int)), (54, 20, .i ((a.length : Int).tmod 2)), (55, 21, .b (decide (((a.length : Int).tmod 2) = 1))), (56, 22, .b (decide (((a.length : Int).tmod 2) = 1))), (57, 23, .tup []), (58, 24, .tup []), (59, 25, .tup []), (60, 26, .tup []), (61, 27, .tup []), (62, 28, .tup []), (63, 29, .tup []), (64, 30, .tup []), (65, 31, .tup []), (66, 32, .b false), (67, 33, .b (false))], ?_, ?_⟩
            · exact dk [0, 1, 2, 3, 304, 305, 6, 6, 60708, 30609, 310, 11, 12, 12, 12, 12131415, 1216, 1217, 18, 19, 1920, 1921, 1922, 23, 23, 23, 2326, 232527, 2328, 23, 23242930, 2331, 192332, 1933] ⟨go (zm (.i q)),
 go (zcm rfl rfl rfl),
 go (zm (.b (decide (q < 0)))),
 gt u (zm (.i g)),
 gt u (zcm rfl rfl rfl),
 gt u (zm (.b (!decide (g = (-1))))),
 gp z,
 gp z,
 gp z,
 gt u (zpf Z4 z),
 go (zpf Z44 u),
 go (zm Z44),
 gt n (aDy (aL e) rfl dQ),
 gt n (zm (.i (a.length : Int))),
 gt n (zm (.i g)),
 gt n fun S hS => cZ (aF rfl) (.func _ _ call171) (ev2 (aY hS rfl) (ev2 (aY hS rfl) (ev2 (aY hS rfl) evn))) rfl (BVs.refl _ _) (oX _ _ _ Q) rfl,
 gt n (zn rfl),
 go (zpf (.b (!y)) n),
 go (zm (.b (!y))),
 gt l (zm (.i (a.length : Int))),
 gt l fun S hS => mK (aF rfl) (aY hS rfl) rfl (by decide),
 gt l (zcm rfl rfl rfl),
 gt l (zm (.b (decide (((a.length : Int).tmod 2) = 1)))),
 gp t,
 gp t,
 gp t,
 gp t,
 gp t,
 gp t,
 gp t,
 gp t,
 gp t,
 gt l (zpf Z4 t),
 go (zpf Z44 l), trivial⟩
            · exact cA (aM rfl (aT ⟨rfl, rfl, rfl, rfl, rfl, rfl, rfl, rfl, rfl, rfl, trivial⟩))
       ·refine aB ?_;refine tih h (fun b0 h => ?_) (fun b0 h => ?_)
        ·refine cG ?_;refine .inl ⟨rfl, ?_⟩;refine aA (to (sar rfl rfl rfl) (tm (.i (w64 (L + 1))) (aB ?_)));exact ⟨(w64 (L + 1), ⟨(I.1.1, I.1.2), I.2⟩), h, aU [0, 1, 2] rfl rfl (aM rfl (aT ⟨rfl, rfl, rfl, rfl, rfl, rfl, rfl, trivial⟩))⟩
        ·refine bA (aC ?_);obtain ⟨M, a0, h⟩ := bns h;refine iN mix 6 [0, 1, 2, 5, 9, 23, 24, 25] (fun O => [(68, .fn 170 [.cp [.j e.Size, .j e.Seeds, .sl 3 (e.Persons.map aK), .sl 1 (e.Lots.map aG)], .cp (Z24 ly), .cp [.sl 1 (B.map aG)], .bp o 0 0]), (72, .d (.lit (vw j M.length c))), (73, .i q)]) (fun O => [.arr (vw j M.length c) 3 1 (M.map aG), I.1.2, mV o 170 [.cp [.j e.Size, .j e.Seeds, .sl 3 (e.Persons.map aK), .sl 1 (e.Lots.map aG)], .cp (Z24 ly), .cp [.sl 1 (B.map aG)], .bp o 0 0]]) ?_ ?_
         ·refine ⟨0, fun O => [(68, 0, .fn 170 [.cp [.j e.Size, .j e.Seeds, .sl 3 (e.Persons.map aK), .sl 1 (e.Lots.map aG)], .cp (Z24 ly), .cp [.sl 1 (B.map aG)], .bp o 0 0]), (69, 1, .d (.lit (vw j a.length c))), (70, 2, .i g), (71, 3, .d (.sl 1 (([g]).map aG))), (72, 4, .d (.lit (vw j M.length c))), (73, 5, .i q)], fun O => [([(4, .arr (vw j M.length c) 3 1 (M.map aG))], .arr (vw j a.length c) 3 1 (a.map aG)), ([], I.1.2), ([], mV o 170 [.cp [.j e.Size, .j e.Seeds, .sl 3 (e.Persons.map aK), .sl 1 (e.Lots.map aG)], .cp (Z24 ly), .cp [.sl 1 (B.map aG)], .bp o 0 0])], ?_, ?_⟩
          · exact xok [(0, 0), (0, 5), (0, 5), (3, 5), (204, 0), (0, 0)] ⟨fun _ _ w _ k => xp w (aFc (i := 2) (aF rfl) (aY k rfl) (og k rfl rfl) aOg),
 fun _ _ w _ k => xp w (ym k (.d (.lit (vw j a.length c)))),
 fun _ _ w _ k => xp w (ym k (.i g)),
 fun _ _ w _ k => xp w (fB (aF rfl) bF rfl (pa2 (aY k rfl) pan) (rows := ([g]).map aG) rfl (bO (f := aG) fun _ => rfl) rfl (by decide)),
 fun O S hw hi hS => aSa (X := O) (p := 0) hS rfl rfl rfl (hw O) rfl rfl rfl (gN (aRk (i := 0) (f := aG) (aF rfl) bF (aY hS rfl) (og hS rfl rfl) (aY hS rfl) (fun _ => rfl) hsz a0 (List.cons_ne_nil _ _)) (by rintro _ rfl; exact Ent.refl _)),
 fun _ _ w _ k => xp w (ym k (.i q)), trivial⟩
          · exact fun O => cA (aM rfl (aM rfl (aM rfl (aT ⟨rfl, rfl, rfl, rfl, rfl, rfl, rfl, rfl, trivial⟩))))
         ·intro O;obtain ⟨b1, b2, h⟩ := bns h;refine fE (aU [1, 2, 0] rfl rfl (le_refl _)) ?_;refine bB rfl (iY (passed := [I.1.2, mV o 170 [.cp [.j e.Size, .j e.Seeds, .sl 3 (e.Persons.map aK), .sl 1 (e.Lots.map aG)], .cp (Z24 ly), .cp [.sl 1 (B.map aG)], .bp o 0 0], .arr (vw j M.length c) 3 1 (M.map aG)]) (aF rfl) rfl (.clo _ _ _ _ call170 rfl) (aAj rfl) rfl (ih M q e B I.1.1 _ I.2 (aRz hsz a0) hsz b2)) ?_;rintro _ ⟨_, _, ⟨a1, rfl, a2, rfl⟩, rfl⟩;refine fE (aNe 2 a0 rfl) ?_;refine to (sn rfl) (aB ?_);refine tih h (fun a3 h => ?_) (fun a3 h => ?_)
          ·refine aC (aA (ta Z4 (aB ?_)));obtain rfl := sIn h;exact bZ ⟨rfl, _, [a1, mV o 170 [.cp [.j e.Size, .j e.Seeds, .sl 3 (e.Persons.map aK), .sl 1 (e.Lots.map aG)], .cp (Z24 ly), .cp [.sl 1 (B.map aG)], .bp o 0 0], .arr (vw j a.length c) 3 1 (a.map aG)], [], _, .one (.tmp 8 (v := .b false) rfl), .refl _, .same _, a1, rfl, (aXa a2 a3), rfl⟩
          ·refine cS ?_;refine aA (to (sar rfl rfl rfl) (tm (.i (w64 (L + 1))) (aB ?_)));exact ⟨(w64 (L + 1), ⟨(b1.1, a1), (aXh a2 (bnf a3))⟩), h, aU [2, 0, 1] rfl rfl (aM rfl (aT ⟨rfl, rfl, rfl, rfl, rfl, rfl, rfl, trivial⟩))⟩
     ·refine cG ?_;refine .inl ⟨rfl, ?_⟩;simp only [rH] at h;refine aC (aA (ta Z18 (aB ?_)));obtain rfl := sIn h;refine bM (aU [1, 2, 0] rfl rfl (le_refl _)) ?_;exact bZ ⟨rfl, _, [I.1.2, mV o 170 [.cp [.j e.Size, .j e.Seeds, .sl 3 (e.Persons.map aK), .sl 1 (e.Lots.map aG)], .cp (Z24 ly), .cp [.sl 1 (B.map aG)], .bp o 0 0], .arr (vw j a.length c) 3 1 (a.map aG)], [], _, .one (.tmp 8 (v := .b true) rfl), .refl _, .same _, I.1.2, rfl, I.2, rfl⟩
theorem aEr {S : Type} (J K : S → MO → Prop) (ly : Nat) (l : S → (List Int) → Option (S × Bool)) (hy : ∀ (s : S) (m : MO) (x0 : List Int) (s' : S × Bool), J s m → l s x0 = some s' → uP Tryz.prog ly [.d (.sl 1 (x0.map aG))] m (fun b m' => b = s'.2 ∧ JK J K s' m')) (f : List Int) (g : Int) (a : aR) (k : List Int) (sy : S) {r : S × Bool} {e j c : Nat} (m0 : MO) (hj : J sy m0) (hcap : f.length ≤ c) (hsz : (c : Int) = a.Size) (h : tX l f g a k sy = some r) : dN Tryz.prog 170 [.d (.lit (vw j f.length c)), .i g, .cp [.j a.Size, .j a.Seeds, .sl 3 (Z11 a), .sl 1 (Z36 a)], .cp (Z24 ly), .cp (Z38 k), .bp e 0 0] [m0, mV e 170 [.cp [.j a.Size, .j a.Seeds, .sl 3 (Z11 a), .sl 1 (Z36 a)], .cp (Z24 ly), .cp (Z38 k), .bp e 0 0], .arr (vw j f.length c) 3 1 (f.map aG)] (fun r' o' => ∃ m', r' = .b r.2 ∧ JK J K r m' ∧ o' = [m', mV e 170 [.cp [.j a.Size, .j a.Seeds, .sl 3 (Z11 a), .sl 1 (Z36 a)], .cp (Z24 ly), .cp (Z38 k), .bp e 0 0], .arr (vw j f.length c) 3 1 (f.map aG)]) := aCp J K ly l hy BIG f g a k sy m0 hj hcap hsz h

theorem yG {S : Type} (J K : S → MO → Prop) (ly : Nat) (e : S → (List Int) → Option (S × Bool)) (hy : ∀ (s : S) (m : MO) (x0 : List Int) (s' : S × Bool), J s m → e s x0 = some s' → uP Tryz.prog ly [.d (.sl 1 (x0.map aG))] m (fun b m' => b = s'.2 ∧ JK J K s' m')) (a : aR) (c : List Int) (sy : S) (m0 : MO) (hj : J sy m0) {r : S × Bool} (h : nG e a c sy = some r) : dN Tryz.prog 169 [.d (.lit (yv ly)), .cp (aL a), .cp (Z38 c)] [m0] (fun _ o' => ∃ m', JK J K r m' ∧ o' = [m']) := by
 unfold nG at h;refine vC func169 rfl (rs := []) results169 ntmps169 (Nat.le_of_ble_eq_true rfl) ?_;refine aC (aA ?_);refine bB rfl (cQ (v := .d (.lit (yv ly))) (aF rfl) rfl rfl rfl) ?_;rintro _ ⟨b1, rfl⟩;refine aB (aC (aA ?_));refine bB rfl (cD (zs := [.lit .nilFunc]) (aF rfl) zeroValue180 rfl rfl) ?_;rintro _ ⟨b2, rfl⟩;refine aB (aC (aA (to (xV (aF rfl) rfl rfl) ?_)));refine fE (aU [0, 2, 1] rfl rfl (le_refl _)) ?_;apply aOm [m0, .box b2 0 [.lit .nilFunc]] [.box b1 0 (Z24 ly)] rfl;exact oR (k := 5) (v := .fn 170 [.cp [.j a.Size, .j a.Seeds, .sl 3 (Z11 a), .sl 1 (Z36 a)], .cp (Z24 ly), .cp (Z38 c), .bp b2 0 0]) (aGu (.cons (.same _) (.cons (jG 0 rfl rfl (dvc (.same _) dvn)) (.cons (.same _) (.cons (.same _) .nil))))) (oR (k := 3) (v := .cp (Z24 ly)) (jG 0 rfl rfl (dvc (.same _) dvn)) (sR _ _));refine to (aMq (i := 1) rfl rfl rfl rfl sizeOf180) ?_;refine aB ?_;obtain ⟨x4, h5, h⟩ := bns h;refine iN mix 10 [] (fun X3 => [(6, .fn 170 [.cp [.j a.Size, .j a.Seeds, .sl 3 (Z11 a), .sl 1 (Z36 a)], .cp (Z24 ly), .cp (Z38 c), .bp b2 0 0]), (9, .d (.lit (vw (X3 3).b ([] : List Int).length x4))), (15, .i (Z7 a))]) (fun X3 => [m0, mV b2 170 [.cp [.j a.Size, .j a.Seeds, .sl 3 (Z11 a), .sl 1 (Z36 a)], .cp (Z24 ly), .cp (Z38 c), .bp b2 0 0], .arr (vw (X3 3).b ([] : List Int).length x4) 3 1 Z21]) ?_ ?_
 ·refine ⟨1, fun X3 => [(6, 0, .fn 170 [.cp [.j a.Size, .j a.Seeds, .sl 3 (Z11 a), .sl 1 (Z36 a)], .cp (Z24 ly), .cp (Z38 c), .bp b2 0 0]), (7, 1, .cp [.j a.Size]), (8, 2, .i a.Size), (9, 3, .d (.lit (vw (X3 3).b ([] : List Int).length x4))), (10, 4, .cp [.j a.Size]), (11, 5, .i a.Size), (12, 6, .cp [.sl 3 (Z11 a)]), (13, 7, .d (Z56 a)), (14, 8, .i (a.Persons.length : Int)), (15, 9, .i (Z7 a))], fun X3 => [([], m0), ([], mV b2 170 [.cp [.j a.Size, .j a.Seeds, .sl 3 (Z11 a), .sl 1 (Z36 a)], .cp (Z24 ly), .cp (Z38 c), .bp b2 0 0]), ([(3, .arr (vw (X3 3).b ([] : List Int).length x4) 3 1 Z21)], nob)], ?_, ?_⟩
  · exact xok [(0, 0), (0, 4), (2, 4), (3, 0), (0, 0), (5, 0), (0, 0), (7, 0), (8, 0), (609, 0)] ⟨fun _ _ w _ k => xp w (aFc (i := 1) (aF rfl) (aY k rfl) (og k rfl rfl) aOg),
 fun _ _ w _ k => xp w (yfc k [.j a.Size] rfl cL),
 fun _ _ w _ k => xp w (ylc k rfl aP),
 fun X3 S hw hi hS => oA (X := X3) (p := 2) (v := fun x => .d (.lit (vw x.b ([] : List Int).length x4))) (mo := fun x => .arr (vw x.b ([] : List Int).length x4) 3 1 Z21) hS hi rfl rfl (fun _ => rfl) hw (fun _ => rfl) (fun _ => rfl) (fun _ => rfl) (fun _ => ⟨rfl, rfl, .inr rfl, ⟨rfl, rfl, .inr rfl, ⟨rfl, rfl, .inr rfl, ⟨rfl, rfl, .inl rfl, ⟨rfl, rfl, .inr rfl, ⟨rfl, rfl, .inr rfl, ⟨rfl, rfl, .inr rfl, ⟨rfl, rfl, .inr rfl, ⟨rfl, rfl, .inr rfl, ⟨rfl, rfl, .inr rfl, trivial⟩⟩⟩⟩⟩⟩⟩⟩⟩⟩) (fun _ => ⟨trivial, rfl, ⟨trivial, rfl, ⟨⟨rfl, .inl rfl, trivial⟩, rfl, trivial⟩⟩⟩) (gN (aVm aG (aF rfl) bF rfl (aY hS rfl) h5 (aF rfl)) (by rintro _ ⟨w, rfl⟩; exact ⟨⟨w, undef⟩, aU [0, 1, 3] rfl rfl (le_refl _)⟩)),
 fun _ _ w _ k => xp w (yfc k [.j a.Size] rfl cL),
 fun _ _ w _ k => xp w (ylc k rfl aP),
 fun _ _ w _ k => xp w (yfc k [.sl 3 (Z11 a)] rfl cW),
 fun _ _ w _ k => xp w (ylc k rfl dY),
 fun _ _ w _ k => xp w (yle k rfl eL.of),
 fun _ _ w _ k => xp w (yar k rfl rfl rfl), trivial⟩
  · exact fun X3 => cA (aM rfl (aM rfl (aM rfl (aT trivial))))
 ·intro X3;obtain ⟨y6, h7, h⟩ := bns h;refine bB rfl (iY (passed := [m0, mV b2 170 [.cp [.j a.Size, .j a.Seeds, .sl 3 (Z11 a), .sl 1 (Z36 a)], .cp (Z24 ly), .cp (Z38 c), .bp b2 0 0], .arr (vw (X3 3).b ([] : List Int).length x4) 3 1 Z21]) (aF rfl) rfl (.clo _ _ _ _ call170 rfl) (aAj rfl) rfl (aEr J K ly e hy ([] : List Int) (Z7 a) a c sy _ hj (Nat.zero_le _) (aUy h5) h7)) ?_;rintro _ ⟨_, _, ⟨m8, rfl, f, rfl⟩, rfl⟩;refine aB ?_;obtain rfl := sIn h;exact ⟨_, [m8], [mV b2 170 [.cp [.j a.Size, .j a.Seeds, .sl 3 (Z11 a), .sl 1 (Z36 a)], .cp (Z24 ly), .cp (Z38 c), .bp b2 0 0], .arr (vw (X3 3).b ([] : List Int).length x4) 3 1 Z21], _, .none, .refl _, .same _, m8, f, rfl⟩

theorem aKb (a : aR) {r : Int × Int} (h : oC a = some r) : Fn Tryz.prog 51 [.agg (aL a)] (.tup [.i r.1, .i r.2]) := by
 unfold oC at h;refine oT [.tmp 2, .tmp 3] func51 results51 ntmps51 ?_;refine aC (aA ?_);refine bB rfl (cQ (v := .agg (aL a)) (aF rfl) rfl rfl rfl) ?_;rintro _ ⟨b1, rfl⟩;refine ta (.i 0) (ta (.i 0) (aB (aC (aC (aA (to (sla 0 (aL a) rfl rfl dQ) ?_))))));obtain ⟨r2, h3, h⟩ := bns h;refine to (scr call95 (aKa _ h3)) (ta (.i r2) (aB (aC (aA (tm (.i r2) (to (scm rfl rfl rfl) (aB ?_)))))));refine tih h (fun c4 h => ?_) (fun c4 h => ?_)
 ·refine aC (aA (tm (.i r2) (ta (.i 0) (ta (.i r2) (aB ?_)))));obtain rfl := sIn h;refine bM (bE (bG (l := [2, 3]) ⟨rfl, rfl, trivial⟩)) ?_;exact bZ ⟨rfl, _, .two _ _, rfl, rfl⟩
 ·refine bA (aC (aA ?_));refine bB rfl (cD (zs := [.j 0]) (aF rfl) zeroValue3 rfl rfl) ?_;rintro _ ⟨b5, rfl⟩;refine to (sst 1 rfl rfl sizeOf3 [.j 0]) (aB (aC (aC (aA (to (sla 0 (aL a) rfl rfl dQ) ?_)))));obtain ⟨x6, h7, h⟩ := bns h;refine to (dT (aF rfl) (.func _ _ call109) rfl rfl (aBs _ h7)) ?_;refine aB (bS ?_);obtain ⟨⟨s8, k⟩, h9, h⟩ := bns h;refine aJw (S := Int) (S0 := Int) (f := 169) (ps := [13]) (fun c => c) (fun c => [.box b1 0 (aL a), .box b5 0 [.j c]]) (aSb (fun j : List Int => .d (.sl 1 (j.map aG))) _) 0 0 (s8, k) (aU [0, 1] rfl rfl (le_refl _)) rfl call169 rfl (by decide) rfl rfl (fun l J K hy m0 h0 => yG (S := Int) J K l _ (fun _ _ _ _ hJ hq => hy _ _ _ _ hJ ⟨_, rfl, hq⟩) a x6 _ m0 h0 h9) ?_ ?_ ?_
  ·rintro b _ _ ⟨j, rfl, h⟩;refine ⟨rfl, ?_⟩;refine bA (bS (aA (to (sl 1 rfl rfl rfl aP) (to (sar rfl rfl rfl) (to (sst 1 rfl rfl sizeOf3 [.j (w64 (b + 1))]) ?_)))));refine iZ ?_;obtain rfl := sIn h;exact ⟨rfl, (w64 (b + 1)), rfl, aU [0, 1] rfl rfl aLq⟩
  ·rintro b e g;subst g;have h := uU e h;refine aTz ?_;refine aC (aA (to (sl 1 rfl rfl rfl aP) (ta (.i b) (ta (.i 0) (aB ?_)))));obtain rfl := sIn h;refine bM (bE (bG (l := [2, 3]) ⟨rfl, rfl, trivial⟩)) ?_;exact bZ ⟨rfl, _, .two _ _, rfl, rfl⟩
  ·rintro b e g;subst g;have h := uT e h;cases h

theorem aKd (b : aR) (c : List Int) {r : (List Int)} (h : oD b c = some r) : Fn Tryz.prog 110 [.agg (aL b), .d (Z5 c)] (.d (.sl 1 (r.map aG))) := by
 unfold oD at h;refine oT [.tmp 4] func110 results110 ntmps110 ?_;refine aC (aA ?_);refine bB rfl (cQ (v := .agg (aL b)) (aF rfl) rfl rfl rfl) ?_;rintro _ ⟨b1, rfl⟩;refine to (sN 1 (aF rfl)) ?_;refine aB (aC (aA (to (pC 3 1 (.inl rfl) (aF rfl)) ?_)));refine aB (aC (aC (aA (tm (Z43 c) (to (sle rfl bF.of) (tm (.i 0) (aB (bS ?_))))))));refine cR (S := Int × (List Int) × Value) [2, 8, 9] (fun s3 => [(5, .d (.lit s3.2.2)), (10, .i s3.1)]) (fun s3 => [.box b1 0 (aL b), .arr s3.2.2 3 1 (s3.2.1.map aG)]) (fun k s3 => jV c (c.length : Int) b k s3.1 s3.2.1) (fun _ => rfl) (0, ([] : List Int), (.slice none 0 0)) h (aU [0, 1] rfl rfl (aM rfl (aM rfl (aT ⟨rfl, rfl, rfl, trivial⟩)))) ?_;rintro k5 ⟨a, e, w4⟩ h;simp only [jV] at h;refine aC (aA (to (scm rfl rfl rfl) (aB (aC ?_))));refine tih h (fun c6 h => ?_) (fun c6 h => ?_)
 ·refine bA (aC (bS (aC (aA ?_))));obtain ⟨x7, h8, h⟩ := bns h;refine to (six rfl rfl bF.of (bN aG h8)) (to (slc rfl aP) (ta (.i x7) (aB (aC (aA (tm (.i x7) (to (scm rfl rfl rfl) (aB ?_))))))));refine tih h (fun c9 h => ?_) (fun c9 h => ?_)
  ·refine aA (tm (.d (.lit w4)) (to (fB (aF rfl) bF rfl rfl (rows := ([(-1)]).map aG) rfl (bO (f := aG) fun _ => rfl) rfl (by decide)) ?_));obtain ⟨m, n, h⟩ := bns h;refine bB rfl (gM (i := 1) (aF rfl) bF rfl rfl rfl (fun _ => rfl) n rfl) ?_;rintro _ ⟨g, rfl⟩;refine ta (.d (.lit g)) ?_;refine iZ ?_;refine aA (to (sar rfl rfl rfl) (tm (.i (w64 (a + 1))) (aB ?_)));exact ⟨(w64 (a + 1), m, g), h, aU [0, 1] rfl rfl (aM rfl (aM rfl (aT ⟨rfl, rfl, rfl, trivial⟩)))⟩
  ·refine aA (tm (.d (.lit w4)) (tfl 0 rfl rfl cW rfl dY (tm (.i x7) ?_)));obtain ⟨j, o, h⟩ := bns h;refine to (six rfl rfl eL.of (bN aK o)) (to (sfc [.j j.Player] rfl iJ) (to (slc rfl aP) (to (fB (aF rfl) bF rfl rfl (rows := ([j.Player]).map aG) rfl (bO (f := aG) fun _ => rfl) rfl (by decide)) ?_)));obtain ⟨p, q, h⟩ := bns h;refine bB rfl (gM (i := 1) (aF rfl) bF rfl rfl rfl (fun _ => rfl) q rfl) ?_;rintro _ ⟨l, rfl⟩;refine ta (.d (.lit l)) ?_;refine iZ ?_;refine aA (to (sar rfl rfl rfl) (tm (.i (w64 (a + 1))) (aB ?_)));exact ⟨(w64 (a + 1), p, l), h, aU [0, 1] rfl rfl (aM rfl (aM rfl (aT ⟨rfl, rfl, rfl, trivial⟩)))⟩
 ·refine cG ?_;refine .inl ⟨rfl, ?_⟩;simp only [uV] at h;refine aC (aA (tm (.d (.lit w4)) (ta (.d (.lit w4)) (aB ?_))));obtain rfl := sIn h;refine bM (bE (oR (k := 4) (v := .d (.sl 1 (e.map aG))) (.d (cK 1 rfl (bO (f := aG) fun _ => rfl))) (aNu))) ?_;exact rt

theorem aLe (a : aR) (e : Int) {r : (List Int) × Bool} (h : pU a e = some r) : Fn Tryz.prog 52 [.agg (aL a), .i e] (.tup [.d (.sl 1 (r.1.map aG)), .b r.2]) := by
 unfold pU at h;refine jE func52 rfl (rs := [.cell 4 23, .cell 5 4]) results52 ntmps52 (Nat.le_of_ble_eq_true rfl) ?_;refine aC (aA ?_);refine bB rfl (cQ (v := .agg (aL a)) (aF rfl) rfl rfl rfl) ?_;rintro _ ⟨b1, rfl⟩;refine bB rfl (cQ (v := .i e) (aF rfl) rfl rfl rfl) ?_;rintro _ ⟨b2, rfl⟩;refine bB rfl (cD (zs := [.sl 1 Z15]) (aF rfl) zeroValue23 rfl rfl) ?_;rintro _ ⟨b3, rfl⟩;refine bB rfl (cD (zs := [.k false]) (aF rfl) zeroValue4 rfl rfl) ?_;rintro _ ⟨b4, rfl⟩;refine aB (aC (aC (aA (to (sla 0 (aL a) rfl rfl dQ) ?_))));obtain ⟨x5, h6, h⟩ := bns h;refine to (dT (aF rfl) (.func _ _ call109) rfl rfl (aBs _ h6)) ?_;refine aB (bS ?_);obtain ⟨⟨s7, p⟩, h8, h⟩ := bns h;refine aJw (S := Int × (List Int) × Bool) (S0 := Int × (List Int) × Bool) (f := 169) (ps := [9]) (fun c => (c.1, c.2.1, c.2.2)) (fun c => [.box b1 0 (aL a), .box b2 0 [.j c.1], .box b3 0 [.sl 1 (c.2.1.map aG)], .box b4 0 [.k c.2.2]]) (aSb (fun g : List Int => .d (.sl 1 (g.map aG))) _) (e, ([] : List Int), false) (e, ([] : List Int), false) (s7, p) (aU [0, 1, 2, 3] rfl rfl (le_refl _)) rfl call169 rfl (by decide) rfl rfl (fun l J K hy m0 h0 => yG (S := Int × (List Int) × Bool) J K l _ (fun _ _ _ _ hJ hq => hy _ _ _ _ hJ ⟨_, rfl, hq⟩) a x5 _ m0 h0 h8) ?_ ?_ ?_
 ·rintro ⟨e9, j, k⟩ _ _ ⟨g, rfl, h⟩;refine ⟨rfl, ?_⟩;refine aA (ta (.d (.sl 1 (g.map aG))) (aB (bS (aC (aC (aA (to (sl 1 rfl rfl rfl aP) (to (scm rfl rfl rfl) (aB ?_)))))))));refine tih h (fun q h => ?_) (fun q h => ?_)
  ·refine aC (aA (to (sla 0 (aL a) rfl rfl dQ) (tm (.d (.sl 1 (g.map aG))) ?_)));obtain ⟨o, s, h⟩ := bns h;refine to (dT (aF rfl) (.func _ _ call110) rfl rfl (aKd _ _ s)) ?_;refine to (sst 2 rfl rfl sizeOf23 [.sl 1 (o.map aG)]) (to (sst 3 rfl rfl sizeOf4 [.k true]) (aB ?_));obtain rfl := sIn h;exact bZ ⟨rfl, rfl, (e9, o, true), rfl, aU [0, 1, 2, 3] rfl rfl aLq⟩
  ·refine bA (aA (to (sl 1 rfl rfl rfl aP) (to (sar rfl rfl rfl) (to (sst 1 rfl rfl sizeOf3 [.j (w64 (e9 - 1))]) ?_))));refine iZ ?_;obtain rfl := sIn h;exact ⟨rfl, (w64 (e9 - 1), j, k), rfl, aU [0, 1, 2, 3] rfl rfl aLq⟩
 ·rintro ⟨e9, j, k⟩ m n;subst n;have h := uU m h;refine aTz ?_;refine aC (aA (to (sst 2 rfl rfl sizeOf23 Z60) (to (sst 3 rfl rfl sizeOf4 [.k false]) (aB ?_))));obtain rfl := sIn h;exact bZ ⟨rfl, _, [.box b1 0 (aL a), .box b2 0 [.j e9], .box b3 0 Z60, .box b4 0 [.k false]], .two (.cell1 4 23 rfl (i := 2) rfl dB rfl) (.cell1 5 4 rfl (i := 3) rfl nZ rfl), .refl _, zO (.cons (.d (.nil 1)) (.cons (.same _) .nil))⟩
 ·rintro ⟨e9, j, k⟩ m n;subst n;have h := uT m h;obtain rfl := sIn h;exact bZ ⟨rfl, _, [.box b1 0 (aL a), .box b2 0 [.j e9], .box b3 0 [.sl 1 (j.map aG)], .box b4 0 [.k k]], .two (.cell1 4 23 rfl (i := 2) rfl dB rfl) (.cell1 5 4 rfl (i := 3) rfl nZ rfl), .refl _, .same _⟩

theorem aCo (e : aR) {r : (List Int) × Int} (h : lI e = some r) : Fn Tryz.prog 12 [.agg (aL e)] (.tup [.d (.sl 1 (r.1.map aG)), .i r.2]) := by
 unfold lI at h;refine oT [.tmp 2, .tmp 3] func12 results12 ntmps12 ?_;refine aC (aA ?_);refine bB rfl (cQ (v := .agg (aL e)) (aF rfl) rfl rfl rfl) ?_;rintro _ ⟨b1, rfl⟩;refine to (sN 1 (aF rfl)) ?_;refine ta (.i 0) (aB (aC (aA (to (sla 0 (aL e) rfl rfl dQ) ?_))));obtain ⟨r2, h3, h⟩ := bns h;refine to (scr call51 (aKb _ h3)) (tm (.tup [.i r2.1, .i r2.2]) (to (sex rfl rfl) (to (sex rfl rfl) (ta (.i r2.1) (ta (.i r2.2) (aB (aC (aC (aA (tm (.i r2.2) (to (scm rfl rfl rfl) (aB ?_))))))))))));refine tih h (fun c4 h => ?_) (fun c4 h => ?_)
 ·refine aC (aA (tm (.i r2.2) (to (sN 1 (aF rfl)) ?_)));refine ta (.i r2.2) (aB ?_);obtain rfl := sIn h;refine bM (bE (bG (l := [2, 3]) ⟨rfl, rfl, trivial⟩)) ?_;exact bZ ⟨rfl, _, .two _ _, rfl, rfl⟩
 ·refine bA (aC (aC (aA (tm (.i r2.1) (to (scm rfl rfl rfl) (aB ?_))))));refine tih h (fun c5 h => ?_) (fun c5 h => ?_)
  ·refine aC (aA (to (sN 1 (aF rfl)) ?_));refine ta (.i 3) (aB ?_);obtain rfl := sIn h;refine bM (bE (bG (l := [2, 3]) ⟨rfl, rfl, trivial⟩)) ?_;exact bZ ⟨rfl, _, .two _ _, rfl, rfl⟩
  ·refine bA (aC (aA (ta (.i 0) (aB (aC (aC (aA (tfl 0 rfl rfl sW rfl dB (to (sle rfl bF.of) (tm (.i 0) (aB (bS ?_))))))))))));refine cR (S := Int × Int) [1, 4, 22, 23] (fun s6 => [(6, .i s6.1), (24, .i s6.2)]) (fun s6 => [.box b1 0 (aL e)]) (fun k s6 => iO r2.1 e.Lots (e.Lots.length : Int) e k s6.1 s6.2) (fun _ => rfl) (0, 0) h (aU [0] rfl rfl (aM rfl (aM rfl (aT ⟨rfl, rfl, rfl, rfl, trivial⟩)))) ?_;rintro k7 ⟨a, f⟩ h;simp only [iO] at h;refine aC (aA (to (scm rfl rfl rfl) (aB (aC ?_))));refine tih h (fun c8 h => ?_) (fun c8 h => ?_)
   ·refine bA (aC (bS (aC (aA ?_))));obtain ⟨x9, g, h⟩ := bns h;refine to (six rfl rfl bF.of (bN aG g)) (to (slc rfl aP) (ta (.i x9) (aB (aA (tm (.i a) (tm (.i x9) (to (sar rfl rfl rfl) (ta (.i (w64 (a + x9))) ?_))))))));refine iZ ?_;refine aA (to (sar rfl rfl rfl) (tm (.i (w64 (f + 1))) (aB ?_)));exact ⟨(w64 (a + x9), w64 (f + 1)), h, aU [0] rfl rfl (aM rfl (aM rfl (aT ⟨rfl, rfl, rfl, rfl, trivial⟩)))⟩
   ·refine cG ?_;refine .inl ⟨rfl, ?_⟩;simp only [mD] at h;refine aC ?_;obtain ⟨n, j, h⟩ := bns h;obtain ⟨c, m, h⟩ := bns h;refine dJ mix 9 [] [(9, .d (.sl 1 (c.1.map aG))), (39, .b c.2)] ?_ ?_
    ·refine ⟨[(33, 0, .agg (aL e)), (34, 1, .i a), (35, 2, .i r2.1), (36, 3, .i (a.tmod r2.1)), (37, 4, .tup [.d (.sl 1 (c.1.map aG)), .b c.2]), (32, 5, .tup [.d (.sl 1 (c.1.map aG)), .b c.2]), (38, 6, .d (.sl 1 (c.1.map aG))), (39, 7, .b c.2), (9, 8, .d (.sl 1 (c.1.map aG)))], ?_, ?_⟩
     · exact dk [0, 0, 0, 203, 104, 5, 6, 6, 7] ⟨go (zla 0 (aL e) rfl rfl dQ),
 go (zm (.i a)),
 go (zm (.i r2.1)),
 go fun S hS => mK (aF rfl) (aY hS rfl) (aY hS rfl) (aUc j),
 go fun S hS => dT (aF rfl) (.func _ _ call52) (ev2 (aY hS rfl) (ev2 (aY hS rfl) evn)) rfl (aLe _ _ m),
 go (zm (.tup [.d (.sl 1 (c.1.map aG)), .b c.2])),
 go (zex rfl rfl),
 go (zex rfl rfl),
 go (za (.d (.sl 1 (c.1.map aG)))), trivial⟩
     · exact cA (aM rfl (aM rfl (aT trivial)))
    ·refine ta (.b c.2) (aB (aC (aA (tm (.d (.sl 1 (c.1.map aG))) (ta (.d (.sl 1 (c.1.map aG))) (ta (.i 0) (aB ?_)))))));obtain rfl := sIn h;refine bM (bE (bG (l := [2, 3]) ⟨rfl, rfl, trivial⟩)) ?_;exact bZ ⟨rfl, _, .two _ _, rfl, rfl⟩

theorem aAg {r : aJ × (List aE)} (h : rA = some r) : Fn Tryz.prog 48 [] (.tup [.agg (aZ r.1), .d (.sl 5 (r.2.map aO))]) := by
 unfold rA at h;refine jE func48 rfl (rs := [.cell 0 38, .tmp 1]) results48 ntmps48 (Nat.le_of_ble_eq_true rfl) ?_;refine aC (aA ?_);refine bB rfl (cD (zs := [.j 0, .sl 1 Z15]) (aF rfl) zeroValue38 rfl rfl) ?_;rintro _ ⟨b1, rfl⟩;refine to (sN 5 (aF rfl)) ?_;refine aB (aC (aA (to (fB (aF rfl) bF rfl rfl (rows := ([1, (-1), 2, 3, 4, 5, 6, 7]).map aG) rfl (bO (f := aG) fun _ => rfl) rfl (by decide)) ?_)));refine to (dL (aF rfl) aRv (zs := [.j 0, .sl 1 Z15]) rfl rfl rfl rfl (es := [.j 3, .sl 1 ((([1, (-1), 2, 3, 4, 5, 6, 7])).map aG)]) rfl) ?_;refine bB rfl (cD (zs := [.j 0, .sl 1 Z15]) (aF rfl) zeroValue38 rfl rfl) ?_;rintro _ ⟨b2, rfl⟩;refine to (sst 1 rfl rfl sizeOf38 Z19) (aB (aC (aA (to (sla 1 Z19 rfl rfl kA) (to (dL (aF rfl) aIb (zs := [.j 0, .j 0, .j 0, .j 0, .j 0]) rfl rfl rfl rfl (es := [.j 1, .j 1, .j 0, .j 2, .j 0]) rfl) ?_)))));refine to (dL (aF rfl) aIb (zs := [.j 0, .j 0, .j 0, .j 0, .j 0]) rfl rfl rfl rfl (es := [.j 3, .j 0, .j 3, .j 7, .j 0]) rfl) ?_;refine to (dL (aF rfl) aIb (zs := [.j 0, .j 0, .j 0, .j 0, .j 0]) rfl rfl rfl rfl (es := [.j 5, .j 0, .j 4, .j 8, .j 4]) rfl) ?_;refine to (fB (aF rfl) aEg rfl rfl (rows := Z31.map aO) rfl (bO (f := aO) fun _ => rfl) rfl (by decide)) ?_;refine to (sst 0 rfl rfl sizeOf38 Z19) (ta (.d (.sl 5 ((Z31).map aO))) (aB ?_));obtain rfl := sIn h;exact bZ ⟨rfl, _, [.box b1 0 Z19, .box b2 0 Z19], .two (.cell 0 38 rfl (i := 0) rfl kA (es := Z19) rfl rfl) (.tmp 1 (v := .d (.sl 5 ((Z31).map aO))) rfl), .refl _, .same _⟩

theorem eM (d : Int) (c : Int) (a : Int) {r : Bool} (h : eH d c a = some r) : Fn Tryz.prog 116 [.i d, .i c, .i a] (.b r) := by
 unfold eH at h;refine oT [.tmp 6] func116 results116 ntmps116 ?_;refine aC (aA (ta Z4 (aB (aC (aA (tm (.i c) (tm (.i d) (to (scm rfl rfl rfl) (tm (Z46 c d) ?_)))))))));obtain ⟨b1, h2, h⟩ := bns h;refine aW 4 [] 14 b1 ?_ ?_
 ·refine bch h2 (fun c3 h2 => ?_) (fun c3 h2 => ?_)
  ·refine tk c3 (sm (.i d)) (tk c3 (sm (.i a)) (tk c3 (scm rfl rfl rfl) (to (spt (Z46 d a) c3) ?_)));obtain rfl := sIn h2;refine aB (aI rfl trivial rfl)
  ·refine tp c3 (tp c3 (tp c3 (to (spf Z4 c3) ?_)));obtain rfl := sIn h2;refine aB (aI rfl trivial rfl)
 ·refine ta (.b b1) (aB ?_);obtain rfl := sIn h;exact rt

theorem aFn (g : aJ) {r : Bool} (h : mP g = some r) : Fn Tryz.prog 111 [.agg (aZ g)] (.b r) := by
 unfold mP at h;refine oT [.tmp 2] func111 results111 ntmps111 ?_;refine aC (aA ?_);refine bB rfl (cQ (v := .agg (aZ g)) (aF rfl) rfl rfl rfl) ?_;rintro _ ⟨b1, rfl⟩;refine ta Z4 (aB (aC (aC ?_)));obtain ⟨r2, h3, h⟩ := bns h;obtain ⟨b4, h5, h⟩ := bns h;refine dJ mix 13 [1] [(18, .b b4)] ?_ ?_
 ·refine bch h5 (fun c6 h5 => ?_) (fun c6 h5 => ?_)
  ·obtain rfl := sIn h5;refine ⟨[(6, 0, .bp b1 0 0), (7, 1, .i g.Rounds), (8, 2, .b r2), (9, 3, .b (!r2)), (10, 4, .b (!r2)), (11, 5, .tup []), (12, 6, .tup []), (13, 7, .tup []), (14, 8, .tup []), (15, 9, .tup []), (16, 10, .tup []), (17, 11, .tup []), (18, 12, .b true)], ?_, ?_⟩
   · exact dk [0, 1, 2, 3, 4, 5, 506, 507, 5, 509, 510, 50811, 512] ⟨go (zf rfl jL),
 go (zl 0 rfl rfl rfl aP),
 go fun S hS => cZ (aF rfl) (.func _ _ call116) (ev2 (aY hS rfl) (ev2 rfl (ev2 rfl evn))) rfl (BVs.refl _ _) (eM _ _ _ h3) rfl,
 go (zn rfl),
 go (zm (.b (!r2))),
 gp c6,
 gp c6,
 gp c6,
 gp c6,
 gp c6,
 gp c6,
 gp c6,
 go (zpt Z18 c6), trivial⟩
   · exact cA (aM rfl (aT ⟨rfl, trivial⟩))
  ·obtain ⟨u7, h8, h5⟩ := bns h5;obtain rfl := sIn h5;refine ⟨[(6, 0, .bp b1 0 0), (7, 1, .i g.Rounds), (8, 2, .b r2), (9, 3, .b (!r2)), (10, 4, .b (!r2)), (11, 5, .bp b1 0 1), (12, 6, .d (.sl 1 (Z12 g))), (13, 7, .i (g.Slots.length : Int)), (14, 8, .bp b1 0 0), (15, 9, .i g.Rounds), (16, 10, .i (Z40 g)), (17, 11, .b (!decide ((g.Slots.length : Int) = (Z40 g)))), (18, 12, .b (!decide ((g.Slots.length : Int) = (Z40 g))))], ?_, ?_⟩
   · exact dk [0, 1, 2, 3, 4, 5, 506, 507, 5, 509, 510, 50811, 512] ⟨go (zf rfl jL),
 go (zl 0 rfl rfl rfl aP),
 go fun S hS => cZ (aF rfl) (.func _ _ call116) (ev2 (aY hS rfl) (ev2 rfl (ev2 rfl evn))) rfl (BVs.refl _ _) (eM _ _ _ h3) rfl,
 go (zn rfl),
 go (zm (.b (!r2))),
 gt c6 (zf rfl gV),
 gt c6 (zl 0 rfl rfl rfl dB),
 gt c6 (zle rfl bF.of),
 gt c6 (zf rfl jL),
 gt c6 (zl 0 rfl rfl rfl aP),
 gt c6 fun S hS => aUf (aF rfl) rfl (aY hS rfl) (aKj h8),
 gt c6 (zcm rfl rfl rfl),
 go (zpf (.b (!decide ((g.Slots.length : Int) = (Z40 g)))) c6), trivial⟩
   · exact cA (aM rfl (aT ⟨rfl, trivial⟩))
 ·refine aB ?_;refine tih h (fun c9 h => ?_) (fun c9 h => ?_)
  ·refine aC (aA (ta Z4 (aB ?_)));obtain rfl := sIn h;refine bM (bE (bG (l := [2]) ⟨rfl, trivial⟩)) ?_;exact rt
  ·refine bA (aC (aA ?_));refine bB rfl (yT (aF rfl)) ?_;rintro _ ⟨t, rfl⟩;refine ta (.d (.lit (.map (some t)))) (aB (aC (aC (aA (tfl 0 rfl rfl gV rfl dB (to (sle rfl bF.of) (tm (.i 0) (aB (bS ?_)))))))));refine cR (S := Int × (List (Int × Int)) × (List Nat) × Nat) [1, 3, 21, 22] (fun o => [(23, .i o.1)]) (fun o => [.box b1 0 (aZ g), .map t (o.2.1.map fun p : Int × Int => (VI p.1, (fun v : Int => AV.i v) p.2)) o.2.2.1 o.2.2.2]) (fun k o => gJ g.Slots (g.Slots.length : Int) g k o.1 o.2.1) (fun _ => rfl) (0, ([] : List (Int × Int)), [], 0) h (aU [0, 1] rfl rfl (aM rfl (aT ⟨rfl, rfl, rfl, rfl, trivial⟩))) ?_;rintro H ⟨f, c, u, s⟩ h;simp only [gJ] at h;refine aC (aA (to (scm rfl rfl rfl) (aB (aC ?_))));refine tih h (fun w h => ?_) (fun w h => ?_)
   ·refine bA (aC (bS (aC (aA (tm (.i f) ?_)))));obtain ⟨e, x, h⟩ := bns h;refine to (six rfl rfl bF.of (bN aG x)) (to (slc rfl aP) (ta (.i f) (ta (.i e) (aB (aC (aC (aA (tm (.i e) (to (scm rfl rfl rfl) (aB ?_))))))))));refine tih h (fun y h => ?_) (fun y h => ?_)
    ·refine aC (aC (aA (tfl 0 rfl rfl gV rfl dB (tm (.i f) (to (aMj (aF rfl) rfl rfl (.inr (.inr ⟨rfl, rfl⟩))) ?_)))));obtain ⟨I, A, h⟩ := bns h;refine to (six rfl rfl bF.of (bN aG A)) (to (slc rfl aP) (to (scm rfl rfl rfl) (aB ?_)));refine tih h (fun B h => ?_) (fun B h => ?_)
     ·refine aC (aA (ta Z4 (aB ?_)));obtain rfl := sIn h;refine bM (bE (bG (l := [2]) ⟨rfl, trivial⟩)) ?_;exact rt
     ·refine bA ?_;refine cG ?_;refine .inl ⟨rfl, ?_⟩;refine aA (to (sar rfl rfl rfl) (tm (.i (w64 (f + 1))) (aB ?_)));exact ⟨(w64 (f + 1), c, u, s), h, aU [0, 1] rfl rfl (aM rfl (aT ⟨rfl, rfl, rfl, rfl, trivial⟩))⟩
    ·refine bA (aC (aA (tm (.d (.lit (.map (some t)))) (tm (.i e) (to (aBk (av := (fun v : Int => AV.i v)) (l := c) (z := 0) (a := e) (m := 1) (aF rfl) aPd underlying258 zeroValue3 (fun _ _ => .d (.lit _ rfl)) rfl rfl rfl rfl (aCu (kv := VI) e)) ?_)))));refine to (sar rfl rfl rfl) (to (zI (av := (fun v : Int => AV.i v)) (l := c) (v := w64 ((cE e 0 c) + 1)) (a := e) (m := 1) aPd underlying258 rfl rfl rfl rfl (aCu (kv := VI) e) rfl rfl) ?_);refine aB (aC (aA (tm (.d (.lit (.map (some t)))) (tm (.i e) (to (aBk (av := (fun v : Int => AV.i v)) (l := (eP e (w64 ((cE e 0 c) + 1)) c)) (z := 0) (a := e) (m := 1) (aF rfl) aPd underlying258 zeroValue3 (fun _ _ => .d (.lit _ rfl)) rfl rfl rfl rfl (aCu (kv := VI) e)) ?_)))));refine to (scm rfl rfl rfl) (tm (.b (decide (1 < (cE e 0 (eP e (w64 ((cE e 0 c) + 1)) c))))) ?_);obtain ⟨C, q, h⟩ := bns h;refine aW 4 [1, 3, 21, 22, 23] 49 C ?_ ?_
     ·refine bch q (fun j q => ?_) (fun j q => ?_)
      ·refine tp j (tp j (tp j (to (spt Z18 j) ?_)));obtain rfl := sIn q;refine aB (aI rfl ⟨rfl, rfl, rfl, rfl, rfl, trivial⟩ rfl)
      ·refine tk j (sm (.i e)) ?_;obtain ⟨E, F, q⟩ := bns q;refine tk j (scr call116 (eM _ _ _ F)) (tk j (sn rfl) (to (spf (.b (!E)) j) ?_));obtain rfl := sIn q;refine aB (aI rfl ⟨rfl, rfl, rfl, rfl, rfl, trivial⟩ rfl)
     ·refine aB ?_;refine tih h (fun G h => ?_) (fun G h => ?_)
      ·refine aC (aA (ta Z4 (aB ?_)));obtain rfl := sIn h;refine bM (bE (bG (l := [2]) ⟨rfl, trivial⟩)) ?_;exact rt
      ·refine cS ?_;refine aA (to (sar rfl rfl rfl) (tm (.i (w64 (f + 1))) (aB ?_)));exact ⟨(w64 (f + 1), (eP e (w64 ((cE e 0 c) + 1)) c), (mbs e c u s), (mck e c s)), h, aU [0, 1] rfl rfl (aM rfl (aT ⟨rfl, rfl, rfl, rfl, trivial⟩))⟩
   ·refine cG ?_;refine .inl ⟨rfl, ?_⟩;simp only [rW] at h;refine aC (aA (ta Z18 (aB ?_)));obtain rfl := sIn h;refine bM (bE (bG (l := [2]) ⟨rfl, trivial⟩)) ?_;exact rt

theorem vX (e : List aE) (g : aE → Option Bool) {r : Int} (c : Nat) (f : List AV) (j : ∀ args w, (callFunc c args).run Tryz.prog w = .ok (.enter c args) w) (l : ∀ (x0 : aE) r, g x0 = some r → Fn Tryz.prog c ([.agg (aO x0)] ++ f) (.b r)) (h : hZ e g = some r) : Fn Tryz.prog 173 [.d (Z16 e), .fn c f] (.i r) := by
 unfold hZ at h;refine oT [.tmp 4] func173 results173 ntmps173 ?_;refine aC (aA (ta (.i 0) (aB (aC (aC (aA (tm (.d (Z16 e)) (to (sle rfl aEg.of) (tm (.i 0) (aB (bS ?_)))))))))));refine cR (S := Int) [0, 1, 7] (fun s1 => [(8, .i s1)]) (fun s1 => []) (fun k s1 => dO e g (e.length : Int) k s1) (fun _ => rfl) (0) h (aU [] rfl rfl (aM rfl (aT ⟨rfl, rfl, rfl, trivial⟩))) ?_;rintro k2 a h;simp only [dO] at h;refine aC (aA (to (scm rfl rfl rfl) (aB (aC ?_))));refine tih h (fun c3 h => ?_) (fun c3 h => ?_)
 ·refine bA (aC (bS (aC (aA (tm (.i a) (ta (.i a) (aB (aC (aA (tm (.fn c f) (tm (.d (Z16 e)) (tm (.i a) ?_))))))))))));obtain ⟨x4, h5, h⟩ := bns h;refine to (six rfl rfl aEg.of (bN aO h5)) (to (xX (aO x4) rfl qB) ?_);obtain ⟨r6, h7, h⟩ := bns h;refine to (cZ (aF rfl) (.clo _ _ _ _ j rfl) (aAj rfl) rfl (BVs.refl _ _) (l _ _  h7) rfl) ?_;refine aB ?_;refine tih h (fun c8 h => ?_) (fun c8 h => ?_)
  ·refine aC (aA (tm (.i a) (ta (.i a) (aB ?_))));obtain rfl := sIn h;exact rt
  ·refine cS ?_;refine aA (to (sar rfl rfl rfl) (tm (.i (w64 (a + 1))) (aB ?_)));exact ⟨(w64 (a + 1)), h, aU [] rfl rfl (aM rfl (aT ⟨rfl, rfl, rfl, trivial⟩))⟩
 ·refine cG ?_;refine .inl ⟨rfl, ?_⟩;simp only [lH] at h;refine aC (aA (ta (.i (-1)) (aB ?_)));obtain rfl := sIn h;exact rt

theorem uG (e : List aE) (i : aE → Option Bool) {r : Bool} (a : Nat) (c : List AV) (f : ∀ args w, (callFunc a args).run Tryz.prog w = .ok (.enter a args) w) (g : ∀ (x0 : aE) r, i x0 = some r → Fn Tryz.prog a ([.agg (aO x0)] ++ c) (.b r)) (h : fL e i = some r) : Fn Tryz.prog 112 [.d (Z16 e), .fn a c] (.b r) := by
 unfold fL at h;refine oT [.tmp 4] func112 results112 ntmps112 ?_;refine aC (aA (ta Z4 (aB (aC (aA (tm (.d (Z16 e)) (tm (.fn a c) ?_)))))));obtain ⟨r1, h2, h⟩ := bns h;refine to (scr call173 (vX _ _ a c f g h2)) (to (scm rfl rfl rfl) (ta (.b (decide (0 ≤ r1))) (aB ?_)));obtain rfl := sIn h;exact rt

theorem vI (c : aD) (a : aJ) {r : Bool} (h : lA c a = some r) : Fn Tryz.prog 146 [.agg (aH c), .agg (aZ a)] (.b r) := by
 unfold lA at h;refine oT [.tmp 4] func146 results146 ntmps146 ?_;refine aC (aA ?_);refine bB rfl (cQ (v := .agg (aH c)) (aF rfl) rfl rfl rfl) ?_;rintro _ ⟨b1, rfl⟩;refine bB rfl (cQ (v := .agg (aZ a)) (aF rfl) rfl rfl rfl) ?_;rintro _ ⟨b2, rfl⟩;refine ta Z4 (aB (aC ?_));obtain ⟨r3, h4, h⟩ := bns h;obtain ⟨b5, h6, h⟩ := bns h;refine dJ mix 19 [] [(23, .b b5)] ?_ ?_
 ·refine bch h6 (fun c7 h6 => ?_) (fun c7 h6 => ?_)
  ·obtain ⟨u8, h9, h6⟩ := bns h6;obtain ⟨e, f, h6⟩ := bns h6;obtain rfl := sIn h6;refine ⟨[(5, 0, .bp b1 0 0), (6, 1, .i c.round), (7, 2, .bp b2 0 0), (8, 3, .i a.Rounds), (9, 4, .i (w64 (a.Rounds - 1))), (10, 5, .b r3), (11, 6, .b r3), (12, 7, .bp b1 0 1), (13, 8, .i c.place), (14, 9, .bp b2 0 1), (15, 10, .d (.sl 1 (Z12 a))), (16, 11, .i (a.Slots.length : Int)), (17, 12, .bp b1 0 0), (18, 13, .i c.round), (19, 14, .i (w64 (c.round + 1))), (20, 15, .i ((a.Slots.length : Int).fdiv (2 ^ (min (w64 (c.round + 1)).toNat 64)))), (21, 16, .i (w64 (((a.Slots.length : Int).fdiv (2 ^ (min (w64 (c.round + 1)).toNat 64))) - 1))), (22, 17, .b e), (23, 18, .b e)], ?_, ?_⟩
   · exact dk [0, 1, 0, 3, 4, 205, 6, 7, 708, 7, 710, 711, 7, 713, 714, 71215, 716, 70917, 718] ⟨go (zf rfl rJ),
 go (zl 0 rfl rfl rfl aP),
 go (zf rfl jL),
 go (zl 1 rfl rfl rfl aP),
 go (zar rfl rfl rfl),
 go fun S hS => cZ (aF rfl) (.func _ _ call116) (ev2 (aY hS rfl) (ev2 rfl (ev2 (aY hS rfl) evn))) rfl (BVs.refl _ _) (eM _ _ _ h4) rfl,
 go (zm (.b r3)),
 gt c7 (zf rfl aQp),
 gt c7 (zl 0 rfl rfl rfl aP),
 gt c7 (zf rfl gV),
 gt c7 (zl 1 rfl rfl rfl dB),
 gt c7 (zle rfl bF.of),
 gt c7 (zf rfl rJ),
 gt c7 (zl 0 rfl rfl rfl aP),
 gt c7 (zar rfl rfl rfl),
 gt c7 fun S hS => aUg (aF rfl) (aY hS rfl) (aY hS rfl) (aKj h9),
 gt c7 (zar rfl rfl rfl),
 gt c7 fun S hS => cZ (aF rfl) (.func _ _ call116) (ev2 (aY hS rfl) (ev2 rfl (ev2 (aY hS rfl) evn))) rfl (BVs.refl _ _) (eM _ _ _ f) rfl,
 go (zpt (.b e) c7), trivial⟩
   · exact cA (aM rfl (aT trivial))
  ·obtain rfl := sIn h6;refine ⟨[(5, 0, .bp b1 0 0), (6, 1, .i c.round), (7, 2, .bp b2 0 0), (8, 3, .i a.Rounds), (9, 4, .i (w64 (a.Rounds - 1))), (10, 5, .b r3), (11, 6, .b r3), (12, 7, .tup []), (13, 8, .tup []), (14, 9, .tup []), (15, 10, .tup []), (16, 11, .tup []), (17, 12, .tup []), (18, 13, .tup []), (19, 14, .tup []), (20, 15, .tup []), (21, 16, .tup []), (22, 17, .tup []), (23, 18, .b false)], ?_, ?_⟩
   · exact dk [0, 1, 0, 3, 4, 205, 6, 7, 708, 7, 710, 711, 7, 713, 714, 71215, 716, 70917, 718] ⟨go (zf rfl rJ),
 go (zl 0 rfl rfl rfl aP),
 go (zf rfl jL),
 go (zl 1 rfl rfl rfl aP),
 go (zar rfl rfl rfl),
 go fun S hS => cZ (aF rfl) (.func _ _ call116) (ev2 (aY hS rfl) (ev2 rfl (ev2 (aY hS rfl) evn))) rfl (BVs.refl _ _) (eM _ _ _ h4) rfl,
 go (zm (.b r3)),
 gp c7,
 gp c7,
 gp c7,
 gp c7,
 gp c7,
 gp c7,
 gp c7,
 gp c7,
 gp c7,
 gp c7,
 gp c7,
 go (zpf Z4 c7), trivial⟩
   · exact cA (aM rfl (aT trivial))
 ·refine ta (.b b5) (aB ?_);obtain rfl := sIn h;refine bM (bE (bG (l := [4]) ⟨rfl, trivial⟩)) ?_;exact rt

theorem aFm (n : aJ) (d : aE) {r : Bool} (h : oS n d = some r) : Fn Tryz.prog 114 [.agg (aZ n), .agg (aO d)] (.b r) := by
 unfold oS at h;refine oT [.tmp 4] func114 results114 ntmps114 ?_;refine aC (aA ?_);refine bB rfl (cQ (v := .agg (aZ n)) (aF rfl) rfl rfl rfl) ?_;rintro _ ⟨b1, rfl⟩;refine bB rfl (cQ (v := .agg (aO d)) (aF rfl) rfl rfl rfl) ?_;rintro _ ⟨b2, rfl⟩;refine ta Z4 (aB (aC (aC (aA (tfl 1 rfl rfl xI rfl aP ?_)))));obtain ⟨r3, h4, h⟩ := bns h;refine to (scr call116 (eM _ _ _ h4)) (to (sn rfl) (aB ?_));refine tih h (fun c5 h => ?_) (fun c5 h => ?_)
 ·refine aC (aA (ta Z4 (aB ?_)));obtain rfl := sIn h;refine bM (bE (bG (l := [4]) ⟨rfl, trivial⟩)) ?_;exact rt
 ·refine bA (aC (aC (aA (tfl 1 rfl rfl aFx rfl aP (to (scm rfl rfl rfl) (aB ?_))))));refine tih h (fun c6 h => ?_) (fun c6 h => ?_)
  ·refine aC (aA (tfl 1 rfl rfl aAo rfl aP (to (scm rfl rfl rfl) (tm (.b (decide (d.Round = 0))) ?_))));obtain ⟨b7, h8, h⟩ := bns h;refine aW 8 [3] 24 b7 ?_ ?_
   ·refine bch h8 (fun c h8 => ?_) (fun c h8 => ?_)
    ·refine tkl 1 c rfl rfl sY rfl aP (tkl 0 c rfl rfl gV rfl dB (tk c (sle rfl bF.of) (tk c (sar rfl rfl rfl) ?_)));obtain ⟨q, s, h8⟩ := bns h8;refine tk c (scr call116 (eM _ _ _ s)) (to (spt (.b q) c) ?_);obtain rfl := sIn h8;refine aB (aI rfl ⟨rfl, trivial⟩ rfl)
    ·refine tp c (tp c (tp c (tp c (tp c (tp c (tp c (to (spf Z4 c) ?_)))))));obtain rfl := sIn h8;refine aB (aI rfl ⟨rfl, trivial⟩ rfl)
   ·refine tm (.b b7) ?_;obtain ⟨b9, j, h⟩ := bns h;refine aW 4 [] 29 b9 ?_ ?_
    ·refine bch j (fun g j => ?_) (fun g j => ?_)
     ·refine tkl 1 g rfl rfl aFy rfl aP ?_;obtain ⟨t, u, j⟩ := bns j;refine tk g (scr call116 (eM _ _ _ u)) (to (spt (.b t) g) ?_);obtain rfl := sIn j;refine aB (aI rfl trivial rfl)
     ·refine tp g (tp g (tp g (to (spf Z4 g) ?_)));obtain rfl := sIn j;refine aB (aI rfl trivial rfl)
    ·refine ta (.b b9) (aB ?_);obtain rfl := sIn h;refine bM (bE (bG (l := [4]) ⟨rfl, trivial⟩)) ?_;exact rt
  ·refine bA (aC (aA (tfl 1 rfl rfl aAo rfl aP (tfl 1 rfl rfl sY rfl aP (to (dL (aF rfl) aEi (zs := [.j 0, .j 0]) rfl rfl rfl rfl (es := [.j d.Round, .j d.Place]) rfl) ?_)))));refine bB rfl (cD (zs := [.j 0, .j 0]) (aF rfl) zeroValue143 rfl rfl) ?_;rintro _ ⟨G, rfl⟩;refine to (sst 2 rfl rfl sizeOf143 (aH (aD.mk d.Round d.Place))) (aB (aC (aC (aA (tfl 1 rfl rfl aFx rfl aP ?_)))));obtain ⟨w, x, h⟩ := bns h;refine to (scr call116 (eM _ _ _ x)) (to (sn rfl) (tm (.b (!w)) ?_));obtain ⟨o, m, h⟩ := bns h;refine aW 4 [2, 3, 5] 43 o ?_ ?_
   ·refine bch m (fun i m => ?_) (fun i m => ?_)
    ·refine tp i (tp i (tp i (to (spt Z18 i) ?_)));obtain rfl := sIn m;refine aB (aI rfl ⟨rfl, rfl, rfl, trivial⟩ rfl)
    ·refine tkl 1 i rfl rfl aFy rfl aP (tk i (scm rfl rfl rfl) (to (spf (.b (!decide (d.Old = 0))) i) ?_));obtain rfl := sIn m;refine aB (aI rfl ⟨rfl, rfl, rfl, trivial⟩ rfl)
   ·refine tm (.b o) ?_;obtain ⟨y, k, h⟩ := bns h;refine aW 5 [2, 3] 49 y ?_ ?_
    ·refine bch k (fun e k => ?_) (fun e k => ?_)
     ·refine tp e (tp e (tp e (tp e (to (spt Z18 e) ?_))));obtain rfl := sIn k;refine aB (aI rfl ⟨rfl, rfl, trivial⟩ rfl)
     ·refine tk e (sla 2 (aH (aD.mk d.Round d.Place)) rfl rfl kZ) (tk e (sla 0 (aZ n) rfl rfl kA) ?_);obtain ⟨z, A, k⟩ := bns k;refine tk e (scr call146 (vI _ _ A)) (tk e (sn rfl) (to (spf (.b (!z)) e) ?_));obtain rfl := sIn k;refine aB (aI rfl ⟨rfl, rfl, trivial⟩ rfl)
    ·refine aB ?_;refine tih h (fun B h => ?_) (fun B h => ?_)
     ·refine aC (aA (ta Z4 (aB ?_)));obtain rfl := sIn h;refine bM (bE (bG (l := [4]) ⟨rfl, trivial⟩)) ?_;exact rt
     ·refine bA (aC (aA (tfl 1 rfl rfl aAo rfl aP (to (scm rfl rfl rfl) (tm (.b (decide (0 < d.Round))) ?_)))));obtain ⟨p, f, h⟩ := bns h;refine aW 13 [] 66 p ?_ ?_
      ·refine bch f (fun a f => ?_) (fun a f => ?_)
       ·refine tp a (tp a (tp a (tp a (tp a (tp a (tp a (tp a (tp a (tp a (tp a (tp a (to (spt Z18 a) ?_))))))))))));obtain rfl := sIn f;refine aB (aI rfl trivial rfl)
       ·refine tkl 0 a rfl rfl gV rfl dB (tkl 1 a rfl rfl sY rfl aP (tk a (sar rfl rfl rfl) (tkl 1 a rfl rfl sY rfl aP (tk a (sar rfl rfl rfl) (tk a (sar rfl rfl rfl) ?_)))));obtain ⟨H, C, f⟩ := bns f;refine tk a (wO (aF rfl) bF.of rfl rfl rfl (aEj aG C)) ?_;obtain ⟨E, F, f⟩ := bns f;refine tk a (scr call91 (fM _ _ F)) (tk a (sn rfl) (to (spf (.b (!E)) a) ?_));obtain rfl := sIn f;refine aB (aI rfl trivial rfl)
      ·refine ta (.b p) (aB ?_);obtain rfl := sIn h;refine bM (bE (bG (l := [4]) ⟨rfl, trivial⟩)) ?_;exact rt

theorem aFo (a : aE) (c : aJ) {r : Bool} (h : mQ a c = some r) : Fn Tryz.prog 113 [.agg (aO a), .cp (aZ c)] (.b r) := by
 unfold mQ at h;refine oT [.tmp 3] func113 results113 ntmps113 ?_;refine aC (aA ?_);refine bB rfl (cQ (v := .agg (aO a)) (aF rfl) rfl rfl rfl) ?_;rintro _ ⟨b1, rfl⟩;refine ta Z4 (aB (aC (aA (to (xX (aZ c) rfl kA) (to (sla 0 (aO a) rfl rfl qB) ?_)))));obtain ⟨r2, h3, h⟩ := bns h;refine to (scr call114 (aFm _ _ h3)) (to (sn rfl) (ta (.b (!r2)) (aB ?_)));obtain rfl := sIn h;refine bM (bE (bG (l := [3]) ⟨rfl, trivial⟩)) ?_;exact rt

theorem uJ (f : aJ) (n : List Int) (o : List (aE × Int)) (g : Int) {Q : (aE × Bool) → Prop} {t u : Nat} {c : Value} {w : Nat} {j : Nat} {s : List Nat} {e : Nat} (h : gI f n o g Q) : dN Tryz.prog 220 [.bp t u 0, .d (Z30 j), .i g] (Z9 t u f c w n j o s e) (fun r' o' => ∃ (r : aE × Bool), Q r ∧ r' = .tup [.agg (aO r.1), .b r.2] ∧ o' = (Z9 t u f c w n j o s e)) := by
 unfold gI at h;refine gY func220 rfl (rs := [.cell 6 95, .tmp 7]) results220 ntmps220 (Nat.le_of_ble_eq_true rfl) ?_;refine aC (aA ?_);refine bB rfl (cD (zs := [.j 0, .j 0, .j 0, .j 0, .j 0]) (aF rfl) zeroValue95 rfl rfl) ?_;rintro _ ⟨b1, rfl⟩;refine ta Z4 (aB (aC (aC (aA (tm (.d (Z30 j)) ?_)))));refine bB rfl (aOj (m := 2) (aF rfl) underlying260 rfl rfl) ?_;rintro _ ⟨q2, h4, rfl⟩;have h := aDd h h4;refine aB (bS ?_);refine qA [0, 2, 6, 10] (fun (s5 : aE × (List Nat)) => []) (fun (s5 : aE × (List Nat)) => [.arr c 3 1 (n.map aG), .box t u [.j f.Rounds, .sl 1 (Z12 f), .lit c, .lit (.map (some w))], .map j (o.map fun p : aE × Int => ((fun a : aE => Value.agg ((aO a).map bL).toArray) p.1, (fun v : Int => AV.i v) p.2)) s e, .box b1 0 (aO s5.1), .iter q2 j e s5.2 e]) (fun (k : Nat) (s5 : aE × (List Nat)) => fW Q g n f o k s5.1 (mB o s s5.2)) (fun _ h => h) (Z54, []) h (aU [1, 0, 2, 3, 4] rfl rfl (aT ⟨rfl, rfl, rfl, rfl, trivial⟩)) ?_;rintro k7 ⟨B, y⟩ h;simp only [fW] at h;refine aC (aA ?_);refine bB rfl (aRn (kv := (fun a : aE => Value.agg ((aO a).map bL).toArray)) (av := (fun v : Int => AV.i v)) (l := o) (mi := 4) (mm := 2) (aF rfl) rfl rfl rfl) ?_;rintro _ (⟨I, rfl⟩ | ⟨j9, C, p8, E, rfl⟩)
 ·have h := h.1 I;refine to (sex rfl rfl) (aB (aC ?_));refine yV rfl (fun F => ?_) (fun F => ?_)
  ·exact absurd F (by decide)
  ·refine cG ?_;refine .inl ⟨rfl, ?_⟩;simp only [mI] at h;refine aC (aA (to (dL (aF rfl) aIb (zs := [.j 0, .j 0, .j 0, .j 0, .j 0]) rfl rfl rfl rfl (es := [.j 0, .j 0, .j 0, .j 0, .j 0]) rfl) ?_));refine to (sst 3 rfl rfl sizeOf95 (aO Z54)) (ta Z4 (aB ?_));refine bM (aU [1, 0, 2, 3, 4] rfl rfl (le_refl _)) ?_;exact bZ ⟨rfl, _, (Z9 t u f c w n j o s e), [.box b1 0 (aO Z54), .iter q2 j e y e], _, .two (.cell 6 95 rfl (i := 3) rfl qB (es := (aO Z54)) rfl rfl) (.tmp 7 (v := .b false) rfl), .refl _, .same _, (Z54, false), h, rfl, rfl⟩
 ·have h := aEx h E;refine to (sex rfl rfl) (aB (aC ?_));refine yV rfl (fun G => ?_) (fun G => ?_)
  ·refine bA (bS (aC (aA (to (aOi (kv := (fun a : aE => Value.agg ((aO a).map bL).toArray)) (av := (fun v : Int => AV.i v)) (l := o) (mi := 4) (mm := 2) (ka := .agg (aO p8.1)) (aF rfl) rfl rfl rfl E (fun _ _ => .agg (aCy rfl))) ?_))));refine to (sex rfl rfl) ?_;refine bB rfl (cD (zs := [.j 0, .j 0, .j 0, .j 0, .j 0]) (aF rfl) zeroValue95 rfl rfl) ?_;rintro _ ⟨z, rfl⟩;refine to (sst 5 rfl rfl sizeOf95 (aO p8.1)) (aB (aC ?_));obtain ⟨J, x, h⟩ := cI h;refine dJ mix 16 [0, 2, 6, 8, 10] [(30, .b J)] ?_ ?_
   ·refine bch x (fun q x => ?_) (fun q x => ?_)
    ·obtain ⟨A, H, x⟩ := bns x;obtain rfl := sIn x;refine ⟨[(15, 0, .bp z 0 2), (16, 1, .i p8.1.Place), (17, 2, .i g), (18, 3, .b (decide (p8.1.Place = g))), (19, 4, .b (decide (p8.1.Place = g))), (20, 5, .bp z 0 4), (21, 6, .i p8.1.Old), (22, 7, .bp t u 0), (23, 8, .bp t u 0), (24, 9, .bp t u 2), (25, 10, .d (.lit c)), (26, 11, .i g), (27, 12, .ep c 1 g.toNat 0), (28, 13, .i A), (29, 14, .b (decide (p8.1.Old = A))), (30, 15, .b (decide (p8.1.Old = A)))], ?_, ?_⟩
     · exact dk [0, 1, 0, 203, 4, 5, 506, 5, 508, 509, 510, 5, 51112, 513, 50714, 515] ⟨go (zf rfl sY),
 go (zl 5 rfl rfl rfl aP),
 go (zm (.i g)),
 go (zcm rfl rfl rfl),
 go (zm (.b (decide (p8.1.Place = g)))),
 gt q (zf rfl aFy),
 gt q (zl 5 rfl rfl rfl aP),
 gt q (zm (Z58 t u)),
 gt q fun S hS => bJ (aF rfl) (aY hS rfl),
 gt q (zf rfl lP),
 gt q (zl 1 rfl rfl rfl dB),
 gt q (zm (.i g)),
 gt q (zia 0 rfl rfl rfl bF.of (bN aG H)),
 gt q fun S hS => rN (aF rfl) (aY hS rfl) (m := 0) rfl (vT aG H) rfl aP,
 gt q (zcm rfl rfl rfl),
 go (zpt (.b (decide (p8.1.Old = A))) q), trivial⟩
     · exact cA (aM rfl (aT ⟨rfl, rfl, rfl, rfl, rfl, trivial⟩))
    ·obtain rfl := sIn x;refine ⟨[(15, 0, .bp z 0 2), (16, 1, .i p8.1.Place), (17, 2, .i g), (18, 3, .b (decide (p8.1.Place = g))), (19, 4, .b (decide (p8.1.Place = g))), (20, 5, .tup []), (21, 6, .tup []), (22, 7, .tup []), (23, 8, .tup []), (24, 9, .tup []), (25, 10, .tup []), (26, 11, .tup []), (27, 12, .tup []), (28, 13, .tup []), (29, 14, .tup []), (30, 15, .b false)], ?_, ?_⟩
     · exact dk [0, 1, 0, 203, 4, 5, 506, 5, 508, 509, 510, 5, 51112, 513, 50714, 515] ⟨go (zf rfl sY),
 go (zl 5 rfl rfl rfl aP),
 go (zm (.i g)),
 go (zcm rfl rfl rfl),
 go (zm (.b (decide (p8.1.Place = g)))),
 gp q,
 gp q,
 gp q,
 gp q,
 gp q,
 gp q,
 gp q,
 gp q,
 gp q,
 gp q,
 go (zpf Z4 q), trivial⟩
     · exact cA (aM rfl (aT ⟨rfl, rfl, rfl, rfl, rfl, trivial⟩))
   ·refine aB ?_;refine tip h (fun K h => ?_) (fun K h => ?_)
    ·refine aC (aA (to (sla 5 (aO p8.1) rfl rfl qB) (to (sst 3 rfl rfl sizeOf95 (aO p8.1)) (ta Z18 (aB ?_)))));refine bM (aU [1, 0, 2, 3, 4, 5] rfl rfl (le_refl _)) ?_;exact bZ ⟨rfl, _, (Z9 t u f c w n j o s e), [.box b1 0 (aO p8.1), .iter q2 j e (y ++ [C]) e, .box z 0 (aO p8.1)], _, .two (.cell 6 95 rfl (i := 3) rfl qB (es := (aO p8.1)) rfl rfl) (.tmp 7 (v := .b true) rfl), .refl _, .same _, (p8.1, true), h, rfl, rfl⟩
    ·refine cS ?_;exact ⟨(B, (y ++ [C])), h, aU [0, 1, 2, 3, 4] rfl rfl (aT ⟨rfl, rfl, rfl, rfl, trivial⟩)⟩
  ·exact absurd G (by decide)

theorem yY (e : aJ) (w : List Int) (C : List (aE × Int)) {Q : (Bool × (List Int) × (List (aE × Int))) → Prop} {q s : Nat} {c : Value} {t : Nat} {g : Nat} {z : List Nat} {A : Nat} (h : kC e w C Q) : dN Tryz.prog 174 [.bp q s 0, .d (Z30 g)] [.box q s [.j e.Rounds, .sl 1 (Z12 e), .lit c, .lit (.map (some t))], .arr c 3 1 (w.map aG), .map g (C.map fun p : aE × Int => ((fun a : aE => Value.agg ((aO a).map bL).toArray) p.1, (fun v : Int => AV.i v) p.2)) z A] (fun r' o' => ∃ (r : Bool × (List Int) × (List (aE × Int))) (U : List Nat) (V : Nat), Q r ∧ r' = .b r.1 ∧ o' = [.box q s [.j e.Rounds, .sl 1 (Z12 e), .lit c, .lit (.map (some t))], .arr c 3 1 (r.2.1.map aG), .map g (r.2.2.map fun p : aE × Int => ((fun a : aE => Value.agg ((aO a).map bL).toArray) p.1, (fun v : Int => AV.i v) p.2)) U V]) := by
 unfold kC at h;refine gY func174 rfl (rs := [.tmp 4]) results174 ntmps174 (Nat.le_of_ble_eq_true rfl) ?_;refine aC (aA (ta Z4 (aB (aC (aA (tm (Z58 q s) (to (bJ (aF rfl) rfl) ?_)))))));refine to (sf rfl tL) (tfl 0 rfl rfl gV rfl dB ?_);obtain ⟨r1, h2, h⟩ := cI h;refine bB rfl (aHv (aF rfl) (.func _ _ call93) rfl rfl (qQ _ h2)) ?_;rintro _ ⟨v3, rfl⟩;refine ta (.d (.lit v3)) (aB (aC (aC (aA (tm (Z58 q s) (to (bJ (aF rfl) rfl) ?_))))));refine tfl 0 rfl rfl lP rfl dB (to (rU (m := 1) (aF rfl) rfl rfl bF.of) ?_);refine tm (.i 0) (aB (bS ?_));refine qA [0, 1, 19] (fun (s4 : Int × (List Int) × (List (aE × Int)) × (List Int) × (List Nat) × Nat × Value) => [(5, .d (.lit s4.2.2.2.2.2.2)), (20, .i s4.1)]) (fun (s4 : Int × (List Int) × (List (aE × Int)) × (List Int) × (List Nat) × Nat × Value) => [.arr c 3 1 (s4.2.1.map aG), .box q s [.j e.Rounds, .sl 1 (Z12 e), .lit c, .lit (.map (some t))], .map g (s4.2.2.1.map fun p : aE × Int => ((fun a : aE => Value.agg ((aO a).map bL).toArray) p.1, (fun v : Int => AV.i v) p.2)) s4.2.2.2.2.1 s4.2.2.2.2.2.1, .arr s4.2.2.2.2.2.2 3 1 (s4.2.2.2.1.map aG)]) (fun (k : Nat) (s4 : Int × (List Int) × (List (aE × Int)) × (List Int) × (List Nat) × Nat × Value) => cH Q (w.length : Int) e k s4.1 s4.2.1 s4.2.2.1 s4.2.2.2.1) (fun _ h => h) (0, w, C, r1, z, A, v3) h (aU [1, 0, 2, 3] rfl rfl (aM rfl (aM rfl (aT ⟨rfl, rfl, rfl, trivial⟩)))) ?_;rintro k8 ⟨j, B, u, H, L, M, w7⟩ h;simp only [cH] at h;refine aC (aA (to (scm rfl rfl rfl) (aB (aC ?_))));refine tip h (fun c9 h => ?_) (fun c9 h => ?_)
 ·refine bA (aC (bS (aC (aA (tm (.i j) (ta (.i j) (aB (aC (aA (tm (Z58 q s) (tm (.d (Z30 g)) (tm (.i j) ?_))))))))))));refine fE (aU [1, 0, 2, 3] rfl rfl (le_refl _)) ?_;refine bB rfl (iY (passed := [.box q s [.j e.Rounds, .sl 1 (Z12 e), .lit c, .lit (.map (some t))], .arr c 3 1 (B.map aG), .map g (u.map fun p : aE × Int => ((fun a : aE => Value.agg ((aO a).map bL).toArray) p.1, (fun v : Int => AV.i v) p.2)) L M]) (aF rfl) rfl (.func _ _ call220) rfl rfl (uJ e B u j h)) ?_;rintro _ ⟨_, _, ⟨I, h, rfl, rfl⟩, rfl⟩;refine tm (.tup [.agg (aO I.1), .b I.2]) (to (sex rfl rfl) (to (sex rfl rfl) ?_));refine bB rfl (cD (zs := [.j 0, .j 0, .j 0, .j 0, .j 0]) (aF rfl) zeroValue95 rfl rfl) ?_;rintro _ ⟨W, rfl⟩;refine to (sst 4 rfl rfl sizeOf95 (aO I.1)) (ta (.b I.2) (aB ?_));refine zX ?_;refine qA [0, 1, 6, 19, 20] (fun (x : Bool × (List Int) × (List (aE × Int)) × aE × (List Int) × (List Nat) × Nat × Nat × Value) => [(5, .d (.lit x.2.2.2.2.2.2.2.2)), (7, .bp x.2.2.2.2.2.2.2.1 0 0), (8, .b x.1)]) (fun (x : Bool × (List Int) × (List (aE × Int)) × aE × (List Int) × (List Nat) × Nat × Nat × Value) => [.arr c 3 1 (x.2.1.map aG), .box q s [.j e.Rounds, .sl 1 (Z12 e), .lit c, .lit (.map (some t))], .map g (x.2.2.1.map fun p : aE × Int => ((fun a : aE => Value.agg ((aO a).map bL).toArray) p.1, (fun v : Int => AV.i v) p.2)) x.2.2.2.2.2.1 x.2.2.2.2.2.2.1, .box x.2.2.2.2.2.2.2.1 0 (aO x.2.2.2.1), .arr x.2.2.2.2.2.2.2.2 3 1 (x.2.2.2.2.1.map aG)]) (fun (k : Nat) (x : Bool × (List Int) × (List (aE × Int)) × aE × (List Int) × (List Nat) × Nat × Nat × Value) => dD Q (cH Q (w.length : Int) e k8) j (w.length : Int) j e k x.1 x.2.1 x.2.2.1 x.2.2.2.1 x.2.2.2.2.1) (fun _ h => h) (I.2, B, u, I.1, H, L, M, W, w7) h (aU [1, 0, 2, 4, 3] rfl rfl (aM rfl (aM rfl (aM rfl (aT ⟨rfl, rfl, rfl, rfl, rfl, trivial⟩))))) ?_;rintro a3 ⟨K, y, o, n, E, F, G, O, N⟩ h;simp only [dD] at h;refine aC (aC (aA (tm (.b K) (aB ?_))));refine tip h (fun X h => ?_) (fun X h => ?_)
  ·refine bA (aC (bS (aC (aC (aA (tm (.d (.lit N)) (tfl 3 rfl rfl xI rfl aP ?_)))))));obtain ⟨a4, Y, h⟩ := cI h;refine to (sc call91 (fM _ _ Y) (.cons (.d (cK 4 rfl (bO (f := aG) fun _ => rfl))) (.cons (.same _) .nil))) (aB ?_);refine tip h (fun Z h => ?_) (fun Z h => ?_)
   ·refine aC (aA (ta Z4 (aB ?_)));refine bM (aU [1, 0, 2, 3, 4] rfl rfl (le_refl _)) ?_;exact bZ ⟨rfl, _, [.box q s [.j e.Rounds, .sl 1 (Z12 e), .lit c, .lit (.map (some t))], .arr c 3 1 (y.map aG), .map g (o.map fun p : aE × Int => ((fun a : aE => Value.agg ((aO a).map bL).toArray) p.1, (fun v : Int => AV.i v) p.2)) F G], [.box O 0 (aO n), .arr N 3 1 (E.map aG)], _, .one (.tmp 4 (v := .b false) rfl), .refl _, .same _, (false, y, o), F, G, h, rfl, rfl⟩
   ·refine bA (aC ?_);refine dJ mix 7 [0, 1, 5, 6, 7, 19, 20] [(45, .d (.lit c)), (46, .i j), (48, .i n.Player)] ?_ ?_
    ·refine ⟨[(42, 0, .bp q s 0), (43, 1, .bp q s 0), (44, 2, .bp q s 2), (45, 3, .d (.lit c)), (46, 4, .i j), (47, 5, .bp O 0 3), (48, 6, .i n.Player)], ?_, ?_⟩
     · exact dk [0, 1, 2, 3, 0, 0, 6] ⟨go (zm (Z58 q s)),
 go fun S hS => bJ (aF rfl) (aY hS rfl),
 go (zf rfl lP),
 go (zl 1 rfl rfl rfl dB),
 go (zm (.i j)),
 go (zf rfl xI),
 go (zl 3 rfl rfl rfl aP), trivial⟩
     · exact cA (aM rfl (aM rfl (aM rfl (aT ⟨rfl, rfl, rfl, rfl, rfl, rfl, rfl, trivial⟩))))
    ·obtain ⟨a5, P, h⟩ := cI h;refine to (sJ (m := 0) (aF rfl) rfl rfl rfl bF.of (bN aG P)) ?_;refine to (aPt (l := 0) rfl rfl (vT aG P) rfl rfl rfl sizeOf3 rfl (aF rfl) (Nat.le_of_ble_eq_true rfl) (rows' := ((y.set j.toNat n.Player)).map aG) (aVo _ _ _ _ rfl)) ?_;refine aB (aC (aA (tm (.d (.lit N)) (tfl 3 rfl rfl xI rfl aP (to (fB (aF rfl) bF rfl rfl (rows := ([n.Player]).map aG) rfl (bO (f := aG) fun _ => rfl) rfl (by decide)) ?_)))));obtain ⟨a0, a1, h⟩ := cI h;refine bB rfl (gM (i := 4) (aF rfl) bF rfl rfl rfl (fun _ => rfl) a1 rfl) ?_;rintro _ ⟨T, rfl⟩;refine ta (.d (.lit T)) (aB (aA (tm (.d (Z30 g)) (to (sla 3 (aO n) rfl rfl qB) (to (aTn (av := (fun v : Int => AV.i v)) (l := o) (a := n) (m := 2) aLp underlying260 rfl rfl rfl rfl (nY (enc := aO) n rfl)) ?_)))));refine iZ ?_;refine aC (aC (aA (to (sla 3 (aO n) rfl rfl qB) (aB (aA ?_)))));refine bB rfl (cD (zs := [.j 0, .j 0, .j 0, .j 0, .j 0]) (aF rfl) zeroValue95 rfl rfl) ?_;rintro _ ⟨a2, rfl⟩;refine to (sst 5 rfl rfl sizeOf95 (aO n)) (aB (aA (tm (Z58 q s) (tm (.d (Z30 g)) (tm (.i j) ?_)))));refine fE (aU [1, 0, 2, 3, 4, 5] rfl rfl (le_refl _)) ?_;refine bB rfl (iY (passed := [.box q s [.j e.Rounds, .sl 1 (Z12 e), .lit c, .lit (.map (some t))], .arr c 3 1 ((y.set j.toNat n.Player).map aG), .map g ((oF n o).map fun p : aE × Int => ((fun a : aE => Value.agg ((aO a).map bL).toArray) p.1, (fun v : Int => AV.i v) p.2)) (zD n o F) G]) (aF rfl) rfl (.func _ _ call220) rfl rfl (uJ e (y.set j.toNat n.Player) (oF n o) j h)) ?_;rintro _ ⟨_, _, ⟨J, h, rfl, rfl⟩, rfl⟩;refine tm (.tup [.agg (aO J.1), .b J.2]) (to (sex rfl rfl) (to (sex rfl rfl) (to (sst 5 rfl rfl sizeOf95 (aO J.1)) (ta (.b J.2) (aB ?_)))));exact ⟨(J.2, (y.set j.toNat n.Player), (oF n o), J.1, a0, (zD n o F), G, a2, T), h, aU [1, 0, 2, 5, 4] rfl rfl (aM rfl (aM rfl (aM rfl (aT ⟨rfl, rfl, rfl, rfl, rfl, trivial⟩))))⟩
  ·refine cG ?_;refine .inl ⟨rfl, ?_⟩;simp only [kU] at h;simp only [kT] at h;refine aA (to (sar rfl rfl rfl) (tm (.i (w64 (j + 1))) (aB ?_)));exact ⟨(w64 (j + 1), y, o, E, F, G, N), h, aU [0, 1, 2, 4] rfl rfl (aM rfl (aM rfl (aT ⟨rfl, rfl, rfl, trivial⟩)))⟩
 ·refine cG ?_;refine .inl ⟨rfl, ?_⟩;simp only [kS] at h;refine aC (aA (tm (.d (Z30 g)) (to (aTp (m := 2) (aF rfl) underlying260 rfl rfl) ?_)));refine to (scm rfl rfl rfl) (ta (.b (decide ((u.length : Int) = 0))) (aB ?_));refine bM (aU [1, 0, 2, 3] rfl rfl (le_refl _)) ?_;exact bZ ⟨rfl, _, [.box q s [.j e.Rounds, .sl 1 (Z12 e), .lit c, .lit (.map (some t))], .arr c 3 1 (B.map aG), .map g (u.map fun p : aE × Int => ((fun a : aE => Value.agg ((aO a).map bL).toArray) p.1, (fun v : Int => AV.i v) p.2)) L M], [.arr w7 3 1 (H.map aG)], _, .one (.tmp 4 (v := .b (decide ((u.length : Int) = 0))) rfl), .refl _, .same _, (decide ((u.length : Int) = 0), B, u), L, M, h, rfl, rfl⟩

theorem kD (a : Int) (b : Int) {r : aD} (h : jF a b = some r) : Fn Tryz.prog 56 [.i a, .i b] (.agg (aH r)) := by
 unfold jF at h;refine jE func56 rfl (rs := [.cell 4 143]) results56 ntmps56 (Nat.le_of_ble_eq_true rfl) ?_;refine aC (aA ?_);refine bB rfl (cD (zs := [.j 0, .j 0]) (aF rfl) zeroValue143 rfl rfl) ?_;rintro _ ⟨b1, rfl⟩;refine aB (aC (aA (tm (.i a) (tm (.i b) (tm (.i a) (to (sar rfl rfl rfl) ?_))))));obtain ⟨u2, h3, h⟩ := bns h;refine to (aUg (aF rfl) rfl rfl (aKj h3)) ?_;refine to (dL (aF rfl) aEi (zs := [.j 0, .j 0]) rfl rfl rfl rfl (es := [.j a, .j (Z47 b a)]) rfl) ?_;refine to (sst 0 rfl rfl sizeOf143 (aH (aD.mk a (Z47 b a)))) (aB ?_);obtain rfl := sIn h;exact bZ ⟨rfl, _, [.box b1 0 (aH (aD.mk a (Z47 b a)))], .one (.cell 4 143 rfl (i := 0) rfl kZ (es := (aH (aD.mk a (Z47 b a)))) rfl rfl), .refl _, .same _⟩

theorem uK (g : aJ) (o : List Int) (y : List (aD × Int)) (s : Int) (u : Int) {r : Bool × (List (aD × Int))} {j n : Nat} {e : Value} {f : Nat} {w : List Nat} {x : Nat} (h : kO g o y s u = some r) : dN Tryz.prog 175 [.bp j n 0, .i s, .i u] [.box j n [.j g.Rounds, .sl 1 (Z12 g), .lit e, .lit (.map (some f))], .arr e 3 1 (o.map aG), .map f (y.map fun p : aD × Int => ((fun a : aD => Value.agg ((aH a).map bL).toArray) p.1, (fun v : Int => AV.i v) p.2)) w x] (fun r' o' => ∃ (A : List Nat) (H : Nat), r' = .b r.1 ∧ o' = [.box j n [.j g.Rounds, .sl 1 (Z12 g), .lit e, .lit (.map (some f))], .arr e 3 1 (o.map aG), .map f (r.2.map fun p : aD × Int => ((fun a : aD => Value.agg ((aH a).map bL).toArray) p.1, (fun v : Int => AV.i v) p.2)) A H]) := by
 unfold kO at h;refine gY func175 rfl (rs := [.tmp 6]) results175 ntmps175 (Nat.le_of_ble_eq_true rfl) ?_;refine aC (aA (ta Z4 (aB (aC (aC (aA (tm (.i u) (to (sar rfl rfl rfl) (tm (.i 0) (aB (bS ?_)))))))))));refine cR (S := Int × (List (aD × Int)) × (List Nat) × Nat) [0, 1, 12] (fun s1 => [(13, .i s1.1)]) (fun s1 => [.arr e 3 1 (o.map aG), .map f (s1.2.1.map fun p : aD × Int => ((fun a : aD => Value.agg ((aH a).map bL).toArray) p.1, (fun v : Int => AV.i v) p.2)) s1.2.2.1 s1.2.2.2, .box j n [.j g.Rounds, .sl 1 (Z12 g), .lit e, .lit (.map (some f))]]) (fun k s1 => fX s (w64 (u + 1)) o g k s1.1 s1.2.1) (fun _ => rfl) (0, y, w, x) h (aU [1, 2, 0] rfl rfl (aM rfl (aT ⟨rfl, rfl, rfl, trivial⟩))) ?_;rintro k4 ⟨t, c, A, C⟩ h;simp only [fX] at h;refine aC (aA (to (scm rfl rfl rfl) (aB (aC ?_))));refine tih h (fun c5 h => ?_) (fun c5 h => ?_)
 ·refine bA (aC (bS (aC (aA (tm (.i t) (ta (.i t) (aB (aC (aA (tm (.i t) (tm (.i s) ?_)))))))))));obtain ⟨r6, h7, h⟩ := bns h;refine to (dT (aF rfl) (.func _ _ call56) rfl rfl (kD _ _ h7)) ?_;refine bB rfl (cD (zs := [.j 0, .j 0]) (aF rfl) zeroValue143 rfl rfl) ?_;rintro _ ⟨b8, rfl⟩;refine to (sst 3 rfl rfl sizeOf143 (aH r6)) (aB (aC (aC ?_)));refine dJ mix 10 [0, 1, 8, 12, 13] [(9, .i (cE r6 0 c)), (27, .b (cX r6 c))] ?_ ?_
  ·refine ⟨[(20, 0, .bp j n 0), (21, 1, .bp j n 0), (22, 2, .bp j n 3), (23, 3, .d (Z30 f)), (24, 4, .agg (aH r6)), (25, 5, .tup [.i (cE r6 0 c), .b (cX r6 c)]), (19, 6, .tup [.i (cE r6 0 c), .b (cX r6 c)]), (26, 7, .i (cE r6 0 c)), (27, 8, .b (cX r6 c)), (9, 9, .i (cE r6 0 c))], ?_, ?_⟩
   · exact dk [0, 1, 2, 3, 0, 405, 6, 7, 7, 8] ⟨go (zm (Z58 j n)),
 go fun S hS => bJ (aF rfl) (aY hS rfl),
 go (zf rfl yJ),
 go (zl 2 rfl rfl rfl aEe),
 go (zla 3 (aH r6) rfl rfl kZ),
 go fun S hS => aHw (av := (fun v : Int => AV.i v)) (l := c) (z := 0) (a := r6) (m := 1) (aF rfl) wX underlying139 zeroValue3 (fun _ _ => .d (.lit _ rfl)) (aY hS rfl) rfl rfl (aY hS rfl) (nY (enc := aH) r6 rfl),
 go (zm (.tup [.i (cE r6 0 c), .b (cX r6 c)])),
 go (zex rfl rfl),
 go (zex rfl rfl),
 go (za (.i (cE r6 0 c))), trivial⟩
   · exact cA (aM rfl (aM rfl (aT ⟨rfl, rfl, rfl, rfl, rfl, trivial⟩)))
  ·refine ta (.b (cX r6 c)) (aB (aC (aA (tm (.b (cX r6 c)) (tm (.b (cX r6 c)) ?_)))));obtain ⟨b9, B, h⟩ := bns h;refine aW 10 [0, 1, 8, 12, 13] 39 b9 ?_ ?_
   ·refine bch B (fun q B => ?_) (fun q B => ?_)
    ·refine tk q (sm (.i (cE r6 0 c))) (tk q (sm (Z58 j n)) (tk q (bJ (aF rfl) rfl) ?_));refine tkl 2 q rfl rfl lP rfl dB (tk q (sm (.i s)) ?_);obtain ⟨I, F, B⟩ := bns B;refine tk q (sJ (m := 0) (aF rfl) rfl rfl rfl bF.of (bN aG F)) ?_;refine tk q (rN (aF rfl) rfl (m := 0) rfl (vT aG F) rfl aP) ?_;refine tk q (scm rfl rfl rfl) (to (spt (.b (!decide ((cE r6 0 c) = I))) q) ?_);obtain rfl := sIn B;refine aB (aI rfl ⟨rfl, rfl, rfl, rfl, rfl, trivial⟩ rfl)
    ·refine tp q (tp q (tp q (tp q (tp q (tp q (tp q (tp q (tp q (to (spf Z4 q) ?_)))))))));obtain rfl := sIn B;refine aB (aI rfl ⟨rfl, rfl, rfl, rfl, rfl, trivial⟩ rfl)
   ·refine aB ?_;refine tih h (fun J h => ?_) (fun J h => ?_)
    ·refine aC (aA (ta Z4 (aB ?_)));obtain rfl := sIn h;refine bM (aU [2, 0, 1, 3] rfl rfl (le_refl _)) ?_;exact bZ ⟨rfl, _, [.box j n [.j g.Rounds, .sl 1 (Z12 g), .lit e, .lit (.map (some f))], .arr e 3 1 (o.map aG), .map f (c.map fun p : aD × Int => ((fun a : aD => Value.agg ((aH a).map bL).toArray) p.1, (fun v : Int => AV.i v) p.2)) A C], [.box b8 0 (aH r6)], _, .one (.tmp 6 (v := .b false) rfl), .refl _, .same _, A, C, rfl, rfl⟩
    ·refine bA ?_;obtain ⟨E, G, h⟩ := bns h;refine dJ mix 12 [0, 1, 12, 13] [(43, .d (Z30 f)), (44, .agg (aH r6)), (51, .i E)] ?_ ?_
     ·refine ⟨[(40, 0, .bp j n 0), (41, 1, .bp j n 0), (42, 2, .bp j n 3), (43, 3, .d (Z30 f)), (44, 4, .agg (aH r6)), (45, 5, .bp j n 0), (46, 6, .bp j n 0), (47, 7, .bp j n 2), (48, 8, .d (.lit e)), (49, 9, .i s), (50, 10, .ep e 1 s.toNat 0), (51, 11, .i E)], ?_, ?_⟩
      · exact dk [0, 1, 2, 3, 0, 0, 6, 7, 8, 0, 910, 11] ⟨go (zm (Z58 j n)),
 go fun S hS => bJ (aF rfl) (aY hS rfl),
 go (zf rfl yJ),
 go (zl 2 rfl rfl rfl aEe),
 go (zla 3 (aH r6) rfl rfl kZ),
 go (zm (Z58 j n)),
 go fun S hS => bJ (aF rfl) (aY hS rfl),
 go (zf rfl lP),
 go (zl 2 rfl rfl rfl dB),
 go (zm (.i s)),
 go (zia 0 rfl rfl rfl bF.of (bN aG G)),
 go fun S hS => rN (aF rfl) (aY hS rfl) (m := 0) rfl (vT aG G) rfl aP, trivial⟩
      · exact cA (aM rfl (aM rfl (aM rfl (aT ⟨rfl, rfl, rfl, rfl, trivial⟩))))
     ·refine to (zI (av := (fun v : Int => AV.i v)) (l := c) (v := E) (a := r6) (m := 1) wX underlying139 rfl rfl rfl rfl (nY (enc := aH) r6 rfl) rfl rfl) ?_;refine iZ ?_;refine aA (to (sar rfl rfl rfl) (tm (.i (w64 (t + 1))) (aB ?_)));exact ⟨(w64 (t + 1), (eP r6 E c), (mbs r6 c A C), (mck r6 c C)), h, aU [0, 1, 2] rfl rfl (aM rfl (aT ⟨rfl, rfl, rfl, trivial⟩))⟩
 ·refine cG ?_;refine .inl ⟨rfl, ?_⟩;simp only [pI] at h;refine aC (aA (ta Z18 (aB ?_)));obtain rfl := sIn h;refine bM (aU [2, 0, 1] rfl rfl (le_refl _)) ?_;exact bZ ⟨rfl, _, [.box j n [.j g.Rounds, .sl 1 (Z12 g), .lit e, .lit (.map (some f))], .arr e 3 1 (o.map aG), .map f (c.map fun p : aD × Int => ((fun a : aD => Value.agg ((aH a).map bL).toArray) p.1, (fun v : Int => AV.i v) p.2)) A C], [], _, .one (.tmp 6 (v := .b true) rfl), .refl _, .same _, A, C, rfl, rfl⟩

end Go.Am
