/- The functions compute what the shallow ones say: printed by program. -/
import Derived.Test.YtiohgpipanopaaaGreatTlSh
import Derived.Test.YtiohgpipanopaaaGreatAmFam2
import Derived.Test.YtiohgpipanopaaaGreatAmRange
import Derived.Test.YtiohgpipanopaaaGreatAmSort
import Derived.Test.YtiohgpipanopaaaGreatTlShelf
import Derived.Test.YtiohgpipanopaaaGreatAmEnt
import Derived.Test.YtiohgpipanopaaaGreatAmSortF
import Derived.Test.YtiohgpipanopaaaGreatAmRangeC
import Derived.Test.YtiohgpipanopaaaGreatAmBox
import Derived.Test.YtiohgpipanopaaaGreatAmPrim
import Derived.Test.YtiohgpipanopaaaGreatAmSub
import Derived.Test.YtiohgpipanopaaaGreatBbDet
import Derived.Test.YtiohgpipanopaaaGreatChecked
import Derived.Test.YtiohgpipanopaaaGreatAmShort
import Derived.KernelRfl
namespace Go.Am
open Go.Proofs
open Go.Proofs.Tryz
set_option maxRecDepth 100000
set_option maxHeartbeats 40000000

abbrev D.j (n : Int) : D := .lit (.int .i64 n)
abbrev D.k (b : Bool) : D := .lit (.bool b)
abbrev VI (n : Int) : Value := .int .i64 n
abbrev Z0 := min (1 : Int).toNat 64
abbrev Z1 (p0 : bJ) : AV := .cp [.j p0.Tree.Rounds, .sl 1 (p0.Tree.Slots.map aF), .sl 1 (p0.players.map aF), .mp false (p0.won.map fun p : aD × Int => ((fun a : aD => Value.agg ((aL a).map bS).toArray) p.1, aF p.2))]
abbrev Z2 : AV := .b false
abbrev Z3 := aT (bA.mk 4 0 ([(aZ.mk 1 1 false), (aZ.mk 2 1 false), (aZ.mk 3 2 false), (aZ.mk 4 0 false)]) ([] : List Int))
abbrev Z4 := bB.mk (aP.mk 0 ([] : List Int)) ([] : List aG) ([] : List Int) 0 ([] : List bR) ([] : List dH) ([] : List cS) ([] : List aN)
abbrev Z5 := aS.mk ([] : List Int) ([] : List (List Int))
abbrev Z6 := (([] : List Int)).map aF
abbrev Z7 := aT (bA.mk 4 1 ([(aZ.mk 10 1 false), (aZ.mk 20 2 false), (aZ.mk 30 1 false)]) ([5, 4]))
abbrev Z8 (p0 : List Int) : D := .sl 1 (p0.map aF)
abbrev Z9 (p0 : List Int) := w64 ((p0.length : Int) - 1)
abbrev Z10 := aY (bB.mk (aP.mk 2 ([1, 2, 3, 4])) ([(aG.mk 1 0 0 1 0)]) ([100, 300, 1001]) 40 ([(bR.mk 1 11 12), (bR.mk 2 21 22), (bR.mk 3 31 (-1)), (bR.mk 4 41 (-1))]) ([(dH.mk 11 250)]) ([(cS.mk 21 3 2), (cS.mk 22 1 3)]) ([(aN.mk 1 1 21 30), (aN.mk 2 2 11 2), (aN.mk 3 1 31 160)]))
abbrev Z11 (p0 : Nat) (p1 : Nat) (p2 : aP) (p3 : Value) (p4 : Nat) (p5 : List Int) (p6 : Nat) (p7 : List (aG × Int)) (p8 : List Nat) (p9 : Nat) : List MO := [.box p0 p1 [.j p2.Rounds, .sl 1 (p2.Slots.map aF), .lit p3, .lit (.map (some p4))], .arr p3 3 1 (p5.map aF), .map p6 (p7.map fun p : aG × Int => ((fun a : aG => Value.agg ((aM a).map bS).toArray) p.1, (fun v : Int => AV.i v) p.2)) p8 p9]
abbrev Z12 (p0 : List aG) : D := .sl 5 (p0.map aM)
abbrev Z13 : List D := [.sl 1 Z6, .sl 1 ((([] : List (List Int))).map gV)]
abbrev Z14 : AV := .b true
abbrev Z15 (p0 : bA) := p0.Persons.map aR
abbrev Z16 (p0 : bA) := w64 (p0.Size - (p0.Persons.length : Int))
abbrev Z17 (p0 : aP) := p0.Slots.map aF
abbrev Z18 (p0 : bA) := (w64 (p0.Size - 1)) - (w64 (p0.Size.tdiv 4))
abbrev Z19 := cB (cH.mk 0 0)
abbrev Z20 := ([] : List Int).map aF
abbrev Z21 (p0 : bA) : AV := .i (p0.Persons.length : Int)
abbrev Z22 := (([] : List aG)).map aM
abbrev Z23 := (([] : List dH)).map cM
abbrev Z24 := (([] : List cS)).map cP
abbrev Z25 := (([] : List aN)).map aI
abbrev Z26 (p0 : Nat) : List D := [.lit (yv p0)]
abbrev Z27 := aR (aZ.mk 0 0 false)
abbrev Z28 : List MO := [.arr (.slice none 0 0) 240 4 (([] : List aN).map aI)]
abbrev Z29 (p0 : Nat) : D := .lit (.map (some p0))
abbrev Z30 (p0 : bB) : D := .sl 1 (p0.Prizes.map aF)
abbrev Z31 (p0 : Value) : AV := .d (.lit p0)
abbrev Z32 := List Int
abbrev Z33 (p0 : Int) : AV := .b (decide (p0 = (-1)))
abbrev Z34 := (([] : List aZ)).map aR
abbrev Z35 (p0 : Int) (p1 : Int) : AV := .b (decide (p0 ≤ p1))
abbrev Z36 (p0 : bA) := p0.Lots.map aF
abbrev Z37 (p0 : aP) (p1 : List aG) : List AV := [.agg (bI p0), .d (Z12 p1)]
abbrev Z38 (p0 : List Int) := decide (((Z9 p0).tmod 2) = 1)
abbrev Z39 (p0 : List Int) : List D := [.sl 1 (p0.map aF)]
abbrev Z40 (p0 : List Int) : AV := .d (Z8 p0)
abbrev Z41 (p0 : Value) (p1 : List aN) : List MO := [.arr p0 240 4 (p1.map aI)]
abbrev Z42 (p0 : aP) := w64 (1 * 2 ^ (min p0.Rounds.toNat 64))
abbrev Z43 : AV := .b (false)
abbrev Z44 : List MO := [.arr (.slice none 0 0) 3 1 Z20]
abbrev Z45 (p0 : bA) := w64 (p0.Size.tdiv 4)
abbrev Z46 (p0 : bJ) := p0.Tree.Slots.map aF
abbrev Z47 := (([] : List bR)).map bQ
abbrev Z48 := [(aZ.mk 1 1 false), (aZ.mk 2 1 false), (aZ.mk 3 2 false), (aZ.mk 4 0 false)]
abbrev Z49 (p0 : bB) := w64 (p0.Tree.Rounds - 1)
abbrev Z50 (p0 : nY) : D := .sl 1 (p0.Prizes.map aF)
abbrev Z51 (p0 : List aG) : AV := .d (Z12 p0)
abbrev Z52 (p0 : Int) (p1 : Int) := p0.fdiv (2 ^ (min (w64 (p1 + 1)).toNat 64))
abbrev Z53 := [(bR.mk 1 11 12), (bR.mk 2 21 22), (bR.mk 3 31 (-1)), (bR.mk 4 41 (-1))]
abbrev Z54 (p0 : bA) : D := .sl 3 (Z15 p0)
abbrev Z55 := [(aZ.mk 10 1 false), (aZ.mk 20 2 false), (aZ.mk 30 1 false)]
abbrev Z56 : D := .lit (.slice none 0 0)
abbrev Z57 (p0 : bB) : D := .sl 2 (p0.Levies.map cM)
abbrev Z58 := [(aN.mk 1 1 21 30), (aN.mk 2 2 11 2), (aN.mk 3 1 31 160)]
abbrev Z59 : List Int := [1, 2, 3, 4]
abbrev Z60 (p0 : bB) : AV := .b (!decide ((p0.Prizes.length : Int) = (w64 (p0.Tree.Rounds + 1))))
abbrev Z61 := aG.mk 0 0 0 0 0
abbrev Z62 (p0 : bA) := [w64 (p0.Size.tdiv 4), w64 (Z18 p0)]
abbrev Z63 (p0 : Value) (p1 : (List aN)) : List MO := [.arr p0 240 4 (p1.map aI)]
abbrev Z64 : List D := [.lit (.slice none 0 0)]
abbrev Z65 (p0 : bJ) := p0.players.map aF
abbrev Z66 := List aN
theorem mix : Tryz.prog.follows .mixedOrders = true := Checked.mixed Tryz.checked

theorem eT : mG Tryz.prog 25 4 := ⟨isAgg25, sizeOf25⟩
theorem bC : SliceTy Tryz.prog 23 3 1 8 (.int .i64 0) := ⟨underlying23, ⟨Tryz.t3, by kernel_rfl, rfl, rfl, rfl⟩, rfl, by decide⟩
theorem dD : cL Tryz.prog 25 0 0 := cF runUnderlying25 rfl rfl sizeOf3
theorem aQ : jC Tryz.prog 3 := ⟨isAgg3, sizeOf3⟩
theorem aVv : mM Tryz.prog 38 (.agg #[.int .i64 0, .slice none 0 0]) [(0, 1), (1, 1)] := ⟨zeroValue38, _, runUnderlying38, fun w => by simp [sizeOf23, sizeOf3]⟩
theorem kD : mG Tryz.prog 38 2 := ⟨isAgg38, sizeOf38⟩
theorem oK : cL Tryz.prog 25 1 1 := cF runUnderlying25 rfl rfl sizeOf3
theorem dN : cL Tryz.prog 25 2 2 := cF runUnderlying25 rfl rfl sizeOf22
theorem fC : jC Tryz.prog 22 := ⟨isAgg22, sizeOf22⟩
theorem fN : SliceTy Tryz.prog 22 43 3 24 (.agg #[.int .i64 0, .int .i64 0, .bool false]) := ⟨underlying22, ⟨Tryz.t43, by kernel_rfl, rfl, rfl, rfl⟩, rfl, by decide⟩
theorem kZ : cL Tryz.prog 43 0 0 := cF runUnderlying43 rfl rfl sizeOf3
theorem iN : cL Tryz.prog 38 0 0 := cF runUnderlying38 rfl rfl sizeOf3
theorem cC : jC Tryz.prog 23 := ⟨isAgg23, sizeOf23⟩
theorem aEj : cL Tryz.prog 63 0 0 := cF runUnderlying63 rfl rfl sizeOf3
theorem aOb : cL Tryz.prog 63 1 1 := cF runUnderlying63 rfl rfl sizeOf3
theorem aBd : cL Tryz.prog 25 3 3 := cF runUnderlying25 rfl rfl sizeOf23
theorem aAn : SliceTy Tryz.prog 73 23 1 24 (.slice none 0 0) := ⟨underlying73, ⟨Tryz.t23, by kernel_rfl, rfl, rfl, rfl⟩, rfl, by decide⟩
theorem aEa : mG Tryz.prog 43 3 := ⟨isAgg43, sizeOf43⟩
theorem wY : cL Tryz.prog 43 1 1 := cF runUnderlying43 rfl rfl sizeOf3
theorem aBe : cL Tryz.prog 43 2 2 := cF runUnderlying43 rfl rfl sizeOf4
theorem aFw : jC Tryz.prog 4 := ⟨isAgg4, sizeOf4⟩
theorem xZ : mG Tryz.prog 63 2 := ⟨isAgg63, sizeOf63⟩
theorem aFc : mM Tryz.prog 43 (.agg #[.int .i64 0, .int .i64 0, .bool false]) [(0, 1), (1, 1), (2, 1)] := ⟨zeroValue43, _, runUnderlying43, fun w => by simp [sizeOf3, sizeOf4]⟩
theorem bCg : mM Tryz.prog 25 (.agg #[.int .i64 0, .int .i64 0, .slice none 0 0, .slice none 0 0]) [(0, 1), (1, 1), (2, 1), (3, 1)] := ⟨zeroValue25, _, runUnderlying25, fun w => by simp [sizeOf22, sizeOf23, sizeOf3]⟩
theorem aXx : jC Tryz.prog 180 := ⟨isAgg180, sizeOf180⟩
theorem bFo : jC Tryz.prog 244 := ⟨isAgg244, sizeOf244⟩
theorem bCh : mM Tryz.prog 95 (.agg #[.int .i64 0, .int .i64 0, .int .i64 0, .int .i64 0, .int .i64 0]) [(0, 1), (1, 1), (2, 1), (3, 1), (4, 1)] := ⟨zeroValue95, _, runUnderlying95, fun w => by simp [sizeOf3]⟩
theorem iT : SliceTy Tryz.prog 88 95 5 40 (.agg #[.int .i64 0, .int .i64 0, .int .i64 0, .int .i64 0, .int .i64 0]) := ⟨underlying88, ⟨Tryz.t95, by kernel_rfl, rfl, rfl, rfl⟩, rfl, by decide⟩
theorem zK : cL Tryz.prog 141 0 0 := cF runUnderlying141 rfl rfl sizeOf38
theorem dW : cL Tryz.prog 38 1 1 := cF runUnderlying38 rfl rfl sizeOf23
theorem aCb : cL Tryz.prog 141 2 3 := cF runUnderlying141 rfl rfl sizeOf139
theorem aHf : jC Tryz.prog 139 := ⟨isAgg139, sizeOf139⟩
theorem aYy : xK Tryz.prog 3 VI := bBc underlying3
theorem mN : mG Tryz.prog 95 5 := ⟨isAgg95, sizeOf95⟩
theorem qD : cL Tryz.prog 95 3 3 := cF runUnderlying95 rfl rfl sizeOf3
theorem qC : cL Tryz.prog 95 0 0 := cF runUnderlying95 rfl rfl sizeOf3
theorem rF : cL Tryz.prog 95 1 1 := cF runUnderlying95 rfl rfl sizeOf3
theorem lQ : cL Tryz.prog 95 2 2 := cF runUnderlying95 rfl rfl sizeOf3
theorem aBf : cL Tryz.prog 95 4 4 := cF runUnderlying95 rfl rfl sizeOf3
theorem aMo : mM Tryz.prog 143 (.agg #[.int .i64 0, .int .i64 0]) [(0, 1), (1, 1)] := ⟨zeroValue143, _, runUnderlying143, fun w => by simp [sizeOf3]⟩
theorem nZ : mG Tryz.prog 143 2 := ⟨isAgg143, sizeOf143⟩
theorem wV : cL Tryz.prog 143 0 0 := cF runUnderlying143 rfl rfl sizeOf3
theorem bAx : cL Tryz.prog 143 1 1 := cF runUnderlying143 rfl rfl sizeOf3
theorem bGb : mM Tryz.prog 141 (.agg #[.int .i64 0, .slice none 0 0, .slice none 0 0, .map none]) [(0, 2), (2, 1), (3, 1)] := ⟨zeroValue141, _, runUnderlying141, fun w => by simp [sizeOf139, sizeOf23, sizeOf38]⟩
theorem aUg : aQv Tryz.prog 95 aM := by
  rintro ⟨a0, a1, a2, a3, a4⟩ ⟨b0, b1, b2, b3, b4⟩ w
  simp [aM, bS, go_sem, Op.eqFields, Program.fieldsOf] <;> (repeat' split) <;> simp_all
theorem bGp (b : Bool) (a : aG) (w : World) : (Instr.checkKey b 10000 95 (.agg ((aM a).map bS).toArray)).run Tryz.prog w = .ok () w := by
  obtain ⟨a1, a2, a3, a4, a5⟩ := a;rw [show (10000 : Nat) = 9990 + 10 from rfl]
  generalize (9990 : Nat) = m
  simp [Instr.checkKey, aM, bS, go_sem, Std.Legacy.Range.forIn_eq_forIn_range', Std.Legacy.Range.size]
theorem aUp : xK Tryz.prog 95 (fun a : aG => Value.agg ((aM a).map bS).toArray) :=
  aKy underlying95 aUg bGp (fun a w => aUn _ rfl _ _) (by
    rintro ⟨a1, a2, a3, a4, a5⟩ ⟨b1, b2, b3, b4, b5⟩ h
    simp [aM] at h ⊢
    simp_all) (fun _ => rfl)
theorem aGy : aQv Tryz.prog 143 aL := by
  rintro ⟨a0, a1⟩ ⟨b0, b1⟩ w
  simp [aL, bS, go_sem, Op.eqFields, Program.fieldsOf] <;> (repeat' split) <;> simp_all
theorem bEw (b : Bool) (a : aD) (w : World) : (Instr.checkKey b 10000 143 (.agg ((aL a).map bS).toArray)).run Tryz.prog w = .ok () w := by
  obtain ⟨a1, a2⟩ := a;rw [show (10000 : Nat) = 9990 + 10 from rfl]
  generalize (9990 : Nat) = m
  simp [Instr.checkKey, aL, bS, go_sem, Std.Legacy.Range.forIn_eq_forIn_range', Std.Legacy.Range.size]
theorem aDw : xK Tryz.prog 143 (fun a : aD => Value.agg ((aL a).map bS).toArray) :=
  aKy underlying143 aGy bEw (fun a w => aUn _ rfl _ _) (by
    rintro ⟨a1, a2⟩ ⟨b1, b2⟩ h
    simp [aL] at h ⊢
    simp_all) (fun _ => rfl)
theorem pH : cL Tryz.prog 141 1 2 := cF runUnderlying141 rfl rfl sizeOf23
theorem aCq : mM Tryz.prog 63 (.agg #[.int .i64 0, .int .i64 0]) [(0, 1), (1, 1)] := ⟨zeroValue63, _, runUnderlying63, fun w => by simp [sizeOf3]⟩
theorem aDt : mG Tryz.prog 201 2 := ⟨isAgg201, sizeOf201⟩
theorem aHo : mM Tryz.prog 201 (.agg #[.slice none 0 0, .slice none 0 0]) [(0, 1), (1, 1)] := ⟨zeroValue201, _, runUnderlying201, fun w => by simp [sizeOf23, sizeOf73]⟩
theorem zL : cL Tryz.prog 201 1 1 := cF runUnderlying201 rfl rfl sizeOf73
theorem aLi : jC Tryz.prog 73 := ⟨isAgg73, sizeOf73⟩
theorem sP : cL Tryz.prog 106 2 2 := cF runUnderlying106 rfl rfl sizeOf23
theorem bAv : cL Tryz.prog 106 0 0 := cF runUnderlying106 rfl rfl sizeOf3
theorem bAw : cL Tryz.prog 106 1 1 := cF runUnderlying106 rfl rfl sizeOf3
theorem fK : mG Tryz.prog 113 9 := ⟨isAgg113, sizeOf113⟩
theorem jU : cL Tryz.prog 113 0 0 := cF runUnderlying113 rfl rfl sizeOf38
theorem aDz : mM Tryz.prog 184 (.agg #[.int .i64 0, .int .i64 0, .int .i64 0]) [(0, 1), (1, 1), (2, 1)] := ⟨zeroValue184, _, runUnderlying184, fun w => by simp [sizeOf3]⟩
theorem kV : SliceTy Tryz.prog 108 184 3 24 (.agg #[.int .i64 0, .int .i64 0, .int .i64 0]) := ⟨underlying108, ⟨Tryz.t184, by kernel_rfl, rfl, rfl, rfl⟩, rfl, by decide⟩
theorem bGc : mM Tryz.prog 236 (.agg #[.int .i64 0, .int .i64 0]) [(0, 1), (1, 1)] := ⟨zeroValue236, _, runUnderlying236, fun w => by simp [sizeOf3]⟩
theorem aAm : SliceTy Tryz.prog 109 236 2 16 (.agg #[.int .i64 0, .int .i64 0]) := ⟨underlying109, ⟨Tryz.t236, by kernel_rfl, rfl, rfl, rfl⟩, rfl, by decide⟩
theorem aYe : mM Tryz.prog 238 (.agg #[.int .i64 0, .int .i64 0, .int .i64 0]) [(0, 1), (1, 1), (2, 1)] := ⟨zeroValue238, _, runUnderlying238, fun w => by simp [sizeOf3]⟩
theorem aHk : SliceTy Tryz.prog 110 238 3 24 (.agg #[.int .i64 0, .int .i64 0, .int .i64 0]) := ⟨underlying110, ⟨Tryz.t238, by kernel_rfl, rfl, rfl, rfl⟩, rfl, by decide⟩
theorem aRo : mM Tryz.prog 240 (.agg #[.int .i64 0, .int .i64 0, .int .i64 0, .int .i64 0]) [(0, 1), (1, 1), (2, 1), (3, 1)] := ⟨zeroValue240, _, runUnderlying240, fun w => by simp [sizeOf3]⟩
theorem cQ : SliceTy Tryz.prog 111 240 4 32 (.agg #[.int .i64 0, .int .i64 0, .int .i64 0, .int .i64 0]) := ⟨underlying111, ⟨Tryz.t240, by kernel_rfl, rfl, rfl, rfl⟩, rfl, by decide⟩
theorem aYd : mM Tryz.prog 113 (.agg #[.int .i64 0, .slice none 0 0, .slice none 0 0, .slice none 0 0, .int .i64 0, .slice none 0 0, .slice none 0 0, .slice none 0 0, .slice none 0 0]) [(0, 2), (2, 1), (3, 1), (4, 1), (5, 1), (6, 1), (7, 1), (8, 1)] := ⟨zeroValue113, _, runUnderlying113, fun w => by simp [sizeOf108, sizeOf109, sizeOf110, sizeOf111, sizeOf23, sizeOf3, sizeOf38, sizeOf88]⟩
theorem iZ : cL Tryz.prog 113 2 3 := cF runUnderlying113 rfl rfl sizeOf23
theorem uI : cL Tryz.prog 113 1 2 := cF runUnderlying113 rfl rfl sizeOf88
theorem aCg : jC Tryz.prog 88 := ⟨isAgg88, sizeOf88⟩
theorem aSc : cL Tryz.prog 113 3 4 := cF runUnderlying113 rfl rfl sizeOf3
theorem iD : cL Tryz.prog 113 4 5 := cF runUnderlying113 rfl rfl sizeOf108
theorem mD : jC Tryz.prog 108 := ⟨isAgg108, sizeOf108⟩
theorem xL : mG Tryz.prog 184 3 := ⟨isAgg184, sizeOf184⟩
theorem wW : cL Tryz.prog 184 0 0 := cF runUnderlying184 rfl rfl sizeOf3
theorem pI : cL Tryz.prog 184 1 1 := cF runUnderlying184 rfl rfl sizeOf3
theorem kM : cL Tryz.prog 184 2 2 := cF runUnderlying184 rfl rfl sizeOf3
theorem wU : cL Tryz.prog 113 5 6 := cF runUnderlying113 rfl rfl sizeOf109
theorem aBk : jC Tryz.prog 109 := ⟨isAgg109, sizeOf109⟩
theorem aFq : cL Tryz.prog 113 6 7 := cF runUnderlying113 rfl rfl sizeOf110
theorem aMi : jC Tryz.prog 110 := ⟨isAgg110, sizeOf110⟩
theorem aXj : mG Tryz.prog 236 2 := ⟨isAgg236, sizeOf236⟩
theorem aCc : cL Tryz.prog 236 0 0 := cF runUnderlying236 rfl rfl sizeOf3
theorem aSd : cL Tryz.prog 236 1 1 := cF runUnderlying236 rfl rfl sizeOf3
theorem aQw : mG Tryz.prog 238 3 := ⟨isAgg238, sizeOf238⟩
theorem aCd : cL Tryz.prog 238 0 0 := cF runUnderlying238 rfl rfl sizeOf3
theorem aKq : cL Tryz.prog 238 1 1 := cF runUnderlying238 rfl rfl sizeOf3
theorem aSe : cL Tryz.prog 238 2 2 := cF runUnderlying238 rfl rfl sizeOf3
theorem sQ : cL Tryz.prog 113 7 8 := cF runUnderlying113 rfl rfl sizeOf111
theorem xP : jC Tryz.prog 111 := ⟨isAgg111, sizeOf111⟩
theorem eU : mG Tryz.prog 240 4 := ⟨isAgg240, sizeOf240⟩
theorem wX : cL Tryz.prog 240 1 1 := cF runUnderlying240 rfl rfl sizeOf3
theorem mC : cL Tryz.prog 240 0 0 := cF runUnderlying240 rfl rfl sizeOf3
theorem aKr : cL Tryz.prog 240 2 2 := cF runUnderlying240 rfl rfl sizeOf3
theorem aFr : cL Tryz.prog 240 3 3 := cF runUnderlying240 rfl rfl sizeOf3
theorem aMd : aQv Tryz.prog 240 aI := by
  rintro ⟨a0, a1, a2, a3⟩ ⟨b0, b1, b2, b3⟩ w
  simp [aI, bS, go_sem, Op.eqFields, Program.fieldsOf] <;> (repeat' split) <;> simp_all

theorem nT (d : Int) (c : Int) (a : Int) {r : Bool} (h : fB d c a = some r) : Fn Tryz.prog 46 [.i d, .i c, .i a] (.b r) := by
 unfold fB at h;refine oT [.tmp 6] func46 results46 ntmps46 ?_;refine aC (aA (ta Z2 (aB (aC (aA (tm (.i d) (tm (.i c) (to (scm rfl rfl rfl) (tm (Z35 c d) ?_)))))))));obtain ⟨b1, h2, h⟩ := bns h;refine aV 4 [] 14 b1 ?_ ?_
 ·refine bch h2 (fun c3 h2 => ?_) (fun c3 h2 => ?_)
  ·refine tk c3 (sm (.i d)) (tk c3 (sm (.i a)) (tk c3 (scm rfl rfl rfl) (to (spt (Z35 d a) c3) ?_)));obtain rfl := sIn h2;refine aB (aJ rfl trivial rfl)
  ·refine tp c3 (tp c3 (tp c3 (to (spf Z2 c3) ?_)));obtain rfl := sIn h2;refine aB (aJ rfl trivial rfl)
 ·refine ta (.b b1) (aB ?_);obtain rfl := sIn h;exact rt

theorem aBw (a : bA) {r : Int} (h : oD a = some r) : Fn Tryz.prog 9 [.agg (aT a)] (.i r) := by
 unfold oD at h;refine oT [.tmp 2] func9 results9 ntmps9 ?_;refine aC (aA ?_);refine bG rfl (cV (v := .agg (aT a)) (aE rfl) rfl rfl rfl) ?_;rintro _ ⟨b1, rfl⟩;refine ta (.i 0) (aB (aC (aA (tfl 0 rfl rfl dN rfl fC (to (sle rfl fN.of) (ta (Z21 a) (aB (aC (aC (aA (tfl 0 rfl rfl dD rfl aQ ?_)))))))))));refine to (scm rfl rfl rfl) (tm (.b (!decide (a.Size = 4))) ?_);obtain ⟨b2, h3, h⟩ := bns h;refine aV 4 [1, 3] 18 b2 ?_ ?_
 ·refine bch h3 (fun q h3 => ?_) (fun q h3 => ?_)
  ·refine tkl 0 q rfl rfl dD rfl aQ (tk q (scm rfl rfl rfl) (to (spt (.b (!decide (a.Size = 8))) q) ?_));obtain rfl := sIn h3;refine aB (aJ rfl (ae rfl) rfl)
  ·refine tp q (tp q (tp q (to (spf Z2 q) ?_)));obtain rfl := sIn h3;refine aB (aJ rfl (ae rfl) rfl)
 ·refine tm (.b b2) ?_;obtain ⟨b4, h5, h⟩ := bns h;refine aV 6 [1, 3] 25 b4 ?_ ?_
  ·refine bch h5 (fun m h5 => ?_) (fun m h5 => ?_)
   ·refine tp m (tp m (tp m (tp m (tp m (to (spt Z14 m) ?_)))));obtain rfl := sIn h5;refine aB (aJ rfl (ae rfl) rfl)
   ·refine tk m (sm (Z21 a)) (tkl 0 m rfl rfl dD rfl aQ ?_);obtain ⟨H, I, h5⟩ := bns h5;refine tk m (scr call46 (nT _ _ _ I)) (tk m (sn rfl) (to (spf (.b (!H)) m) ?_));obtain rfl := sIn h5;refine aB (aJ rfl (ae rfl) rfl)
  ·refine tm (.b b4) ?_;obtain ⟨b6, h7, h⟩ := bns h;refine aV 10 [1, 3] 36 b6 ?_ ?_
   ·refine bch h7 (fun c h7 => ?_) (fun c h7 => ?_)
    ·refine tp c (tp c (tp c (tp c (tp c (tp c (tp c (tp c (tp c (to (spt Z14 c) ?_)))))))));obtain rfl := sIn h7;refine aB (aJ rfl (ae rfl) rfl)
    ·refine tkl 0 c rfl rfl oK rfl aQ (tk c (sm (Z21 a)) (tkl 0 c rfl rfl dD rfl aQ (tk c (yS (aE rfl) rfl rfl (by decide)) ?_)));refine tk c (bEo (aE rfl) rfl rfl) ?_;obtain ⟨J, K, h7⟩ := bns h7;refine tk c (scr call46 (nT _ _ _ K)) (tk c (sn rfl) (to (spf (.b (!J)) c) ?_));obtain rfl := sIn h7;refine aB (aJ rfl (ae rfl) rfl)
   ·refine tm (.b b6) ?_;obtain ⟨b8, h9, h⟩ := bns h;refine aV 9 [1, 3] 46 b8 ?_ ?_
    ·refine bch h9 (fun f h9 => ?_) (fun f h9 => ?_)
     ·refine tp f (tp f (tp f (tp f (tp f (tp f (tp f (tp f (to (spt Z14 f) ?_))))))));obtain rfl := sIn h9;refine aB (aJ rfl (ae rfl) rfl)
     ·refine tkl 0 f rfl rfl dD rfl aQ (tk f (sm (Z21 a)) (tk f (sar rfl rfl rfl) (tkl 0 f rfl rfl dD rfl aQ (tk f (yS (aE rfl) rfl rfl (by decide)) ?_))));refine tk f (scm rfl rfl rfl) (to (spf (.b (decide ((w64 (a.Size.tdiv 2)) < (Z16 a)))) f) ?_);obtain rfl := sIn h9;refine aB (aJ rfl (ae rfl) rfl)
    ·refine tm (.b b8) ?_;obtain ⟨L, y, h⟩ := bns h;refine aV 5 [1, 3] 52 L ?_ ?_
     ·refine bch y (fun o y => ?_) (fun o y => ?_)
      ·refine tp o (tp o (tp o (tp o (to (spt Z14 o) ?_))));obtain rfl := sIn y;refine aB (aJ rfl (ae rfl) rfl)
      ·refine tkl 0 o rfl rfl aBd rfl cC (tk o (sle rfl bC.of) (tk o (scm rfl rfl rfl) (to (spf (.b (decide (10 < (a.Lots.length : Int)))) o) ?_)));obtain rfl := sIn y;refine aB (aJ rfl (ae rfl) rfl)
     ·refine aB ?_;refine tih h (fun M h => ?_) (fun M h => ?_)
      ·refine aC (aA (ta (.i 60) (aB ?_)));obtain rfl := sIn h;refine bK (bE (bH (l := [2]) (ae rfl))) ?_;exact rt
      ·refine aU (aC (aC (aA (ta (.i 0) (aB (bD ?_))))));refine bP (S := Int) [1, 3] (fun A => [(4, .i A)]) (fun A => [.box b1 0 (aT a)]) (fun k A => eY (a.Persons.length : Int) a k A) (fun _ => rfl) (0) h (aO [0] rfl rfl (aH rfl (aK (ae rfl)))) ?_;rintro N e h;simp only [eY] at h;refine aC (aC (aA (tm (.i e) (tm (Z21 a) (to (scm rfl rfl rfl) (aB ?_))))));refine tih h (fun O h => ?_) (fun O h => ?_)
       ·refine aU (aC (bD (aC (aA (tfl 0 rfl rfl dN rfl fC (tm (.i e) ?_))))));obtain ⟨s, P, h⟩ := bns h;refine to (six rfl rfl fN.of (aW aR P)) (to (tG (aR s) rfl aEa) ?_);refine bG rfl (cJ (zs := [.j 0, .j 0, .k false]) (aE rfl) zeroValue43 rfl rfl) ?_;rintro _ ⟨E, rfl⟩;refine to (sst 1 rfl rfl sizeOf43 (aR s)) (aB (aC (aC (aA (tfl 1 rfl rfl kZ rfl aQ ?_)))));obtain ⟨Q, T, h⟩ := bns h;refine to (scr call46 (nT _ _ _ T)) (to (sn rfl) (tm (.b (!Q)) ?_));obtain ⟨F, t, h⟩ := bns h;refine aV 5 [1, 3, 4, 5] 72 F ?_ ?_
        ·refine bch t (fun p t => ?_) (fun p t => ?_)
         ·refine tp p (tp p (tp p (tp p (to (spt Z14 p) ?_))));obtain rfl := sIn t;refine aB (aJ rfl (ae rfl) rfl)
         ·refine tkl 1 p rfl rfl wY rfl aQ ?_;obtain ⟨U, V, t⟩ := bns t;refine tk p (scr call46 (nT _ _ _ V)) (tk p (sn rfl) (to (spf (.b (!U)) p) ?_));obtain rfl := sIn t;refine aB (aJ rfl (ae rfl) rfl)
        ·refine tm (.b F) ?_;obtain ⟨W, u, h⟩ := bns h;refine aV 9 [1, 3, 4, 5] 82 W ?_ ?_
         ·refine bch u (fun g u => ?_) (fun g u => ?_)
          ·refine tp g (tp g (tp g (tp g (tp g (tq (tq (tp g (to (spt Z14 g) ?_))))))));obtain rfl := sIn u;refine aB (aJ rfl (ae rfl) rfl)
          ·refine tk g (sm (.i e)) (tkl 0 g rfl rfl oK rfl aQ (tk g (scm rfl rfl rfl) (tk g (sm (.b (decide (e < a.Seeds)))) ?_)));obtain ⟨G, z, u⟩ := bns u;refine aV 3 [1, 3, 4, 5, 73, 74, 75, 76, 77, 78] 81 G ?_ ?_
           ·refine bch z (fun x z => ?_) (fun x z => ?_)
            ·refine tkl 1 x rfl rfl aBe rfl aFw (tk g (spt (.b s.Qualified) x) ?_);obtain rfl := sIn z;refine aB (aJ rfl (ae rfl) rfl)
            ·refine tp x (tp x (tk g (spf Z2 x) ?_));obtain rfl := sIn z;refine aB (aJ rfl (ae rfl) rfl)
           ·refine to (spf (.b G) g) ?_;obtain rfl := sIn u;refine aB (aJ rfl (ae rfl) rfl)
         ·refine aB ?_;refine tih h (fun X h => ?_) (fun X h => ?_)
          ·refine aC (aA (ta (.i 60) (aB ?_)));obtain rfl := sIn h;refine bK (bE (bH (l := [2]) (ae rfl))) ?_;exact rt
          ·refine aU (aC (aA (ta (.i 0) (aB ?_))));refine vQ ?_;refine bP (S := Int) [1, 3, 4, 5] (fun B => [(6, .i B)]) (fun B => [.box b1 0 (aT a), .box E 0 (aR s)]) (fun k B => jY (eY (a.Persons.length : Int) a N) (a.Persons.length : Int) e a s k B) (fun _ => rfl) (0) h (aO [0, 1] rfl rfl (aH rfl (aK (ae rfl)))) ?_;rintro a5 j h;simp only [jY] at h;refine aC (aC (aA (tm (.i j) (tm (.i e) (to (scm rfl rfl rfl) (aB ?_))))));refine tih h (fun Y h => ?_) (fun Y h => ?_)
           ·refine aU (aC (bD (aC ?_)));obtain ⟨w, Z, h⟩ := bns h;refine cI mix 8 [1, 3, 4, 5, 6] [(93, .i w.Player), (95, .i s.Player)] ?_ ?_
            ·refine ⟨[(88, 0, .bp b1 0 2), (89, 1, .d (Z54 a)), (90, 2, .i j), (91, 3, .cp [.j w.Player, .j w.Nation, .k w.Qualified]), (92, 4, .cp [.j w.Player]), (93, 5, .i w.Player), (94, 6, .bp E 0 0), (95, 7, .i s.Player)], ?_, ?_⟩
             · exact dk [0, 1, 0, 203, 4, 5, 0, 7] ⟨go (zf rfl dN),
 go (zl 0 rfl rfl rfl fC),
 go (zm (.i j)),
 go (zix rfl rfl fN.of (aW aR Z)),
 go (zfc [.j w.Player] rfl kZ),
 go (zlc rfl aQ),
 go (zf rfl kZ),
 go (zl 1 rfl rfl rfl aQ), trivial⟩
             · exact bT (aH rfl (aH rfl (aK (ae rfl))))
            ·refine to (scm rfl rfl rfl) (aB ?_);refine tih h (fun a0 h => ?_) (fun a0 h => ?_)
             ·refine aC (aA (ta (.i 60) (aB ?_)));obtain rfl := sIn h;refine bK (bE (bH (l := [2]) (ae rfl))) ?_;exact rt
             ·refine cA ?_;refine aA (tm (.i j) (to (sar rfl rfl rfl) (ta (.i (w64 (j + 1))) (aB ?_))));exact ⟨(w64 (j + 1)), h, aO [0, 1] rfl rfl (aH rfl (aK (ae rfl)))⟩
           ·refine bO ?_;refine .inl ⟨rfl, ?_⟩;simp only [vU] at h;simp only [vT] at h;refine aA (tm (.i e) (to (sar rfl rfl rfl) (ta (.i (w64 (e + 1))) (aB ?_))));exact ⟨(w64 (e + 1)), h, aO [0] rfl rfl (aH rfl (aK (ae rfl)))⟩
       ·refine bO ?_;refine .inl ⟨rfl, ?_⟩;simp only [rQ] at h;refine aC (aC (aA (ta (.i 0) (aB (bD ?_)))));refine bP (S := Int) [1] (fun C => [(7, .i C)]) (fun C => [.box b1 0 (aT a)]) (fun k C => jZ a k C) (fun _ => rfl) (0) h (aO [0] rfl rfl (aH rfl (aK (ae rfl)))) ?_;rintro a6 n h;simp only [jZ] at h;refine aC (aC (aA (tm (.i n) (tfl 0 rfl rfl aBd rfl cC (to (sle rfl bC.of) (to (scm rfl rfl rfl) (aB ?_)))))));refine tih h (fun a1 h => ?_) (fun a1 h => ?_)
        ·refine aU (aC (bD (aC (aA (tfl 0 rfl rfl aBd rfl cC (tm (.i n) ?_))))));obtain ⟨a7, a2, h⟩ := bns h;refine to (six rfl rfl bC.of (aW aF a2)) (to (slc rfl aQ) ?_);obtain ⟨a8, a3, h⟩ := bns h;refine to (scr call46 (nT _ _ _ a3)) (to (sn rfl) (aB ?_));refine tih h (fun a4 h => ?_) (fun a4 h => ?_)
         ·refine aC (aA (ta (.i 60) (aB ?_)));obtain rfl := sIn h;refine bK (bE (bH (l := [2]) (ae rfl))) ?_;exact rt
         ·refine cA ?_;refine aA (tm (.i n) (to (sar rfl rfl rfl) (ta (.i (w64 (n + 1))) (aB ?_))));exact ⟨(w64 (n + 1)), h, aO [0] rfl rfl (aH rfl (aK (ae rfl)))⟩
        ·refine bO ?_;refine .inl ⟨rfl, ?_⟩;simp only [vV] at h;refine aC (aA (ta (.i 0) (aB ?_)));obtain rfl := sIn h;refine bK (bE (bH (l := [2]) (ae rfl))) ?_;exact rt

theorem zQ (c : List Int) (e : Int) {r : Bool} (h : qA c e = some r) : Fn Tryz.prog 107 [.d (Z8 c), .i e] (.b r) := by
 unfold qA at h;refine oT [.tmp 4] func107 results107 ntmps107 ?_;refine aC (aA (ta Z2 (aB (aC (aC (aA (ta (.i 0) (aB (bD ?_)))))))));refine bP (S := Int) [0, 1] (fun s1 => [(5, .i s1)]) (fun s1 => []) (fun k s1 => lO c e k s1) (fun _ => rfl) (0) h (aO [] rfl rfl (aH rfl (aK (ae rfl)))) ?_;rintro k2 a h;simp only [lO] at h;refine aC (aC (aA (tm (.i a) (tm (Z40 c) (to (sle rfl bC.of) (to (scm rfl rfl rfl) (aB ?_)))))));refine tih h (fun c3 h => ?_) (fun c3 h => ?_)
 ·refine aU (aC (bD (aC (aA (tm (Z40 c) (tm (.i a) ?_))))));obtain ⟨x4, h5, h⟩ := bns h;refine to (six rfl rfl bC.of (aW aF h5)) (to (slc rfl aQ) (tm (.i e) (to (scm rfl rfl rfl) (aB ?_))));refine tih h (fun c6 h => ?_) (fun c6 h => ?_)
  ·refine aC (aA (ta Z14 (aB ?_)));obtain rfl := sIn h;exact rt
  ·refine cA ?_;refine aA (tm (.i a) (to (sar rfl rfl rfl) (ta (.i (w64 (a + 1))) (aB ?_))));exact ⟨(w64 (a + 1)), h, aO [] rfl rfl (aH rfl (aK (ae rfl)))⟩
 ·refine bO ?_;refine .inl ⟨rfl, ?_⟩;simp only [yU] at h;refine aC (aA (ta Z2 (aB ?_)));obtain rfl := sIn h;exact rt

theorem aJy (e : bA) (a : List Int) {r : Bool} (h : qG e a = some r) : Fn Tryz.prog 86 [.agg (aT e), .d (Z8 a)] (.b r) := by
 unfold qG at h;refine oT [.tmp 4] func86 results86 ntmps86 ?_;refine aC (aA ?_);refine bG rfl (cV (v := .agg (aT e)) (aE rfl) rfl rfl rfl) ?_;rintro _ ⟨b1, rfl⟩;refine ta Z2 (aB (aC (aC (aA (ta (.i 0) (aB (bD ?_)))))));refine bP (S := Int) [1, 2] (fun s2 => [(5, .i s2)]) (fun s2 => [.box b1 0 (aT e)]) (fun k s2 => jI a e k s2) (fun _ => rfl) (0) h (aO [0] rfl rfl (aH rfl (aK (ae rfl)))) ?_;rintro k3 c h;simp only [jI] at h;refine aC (aC (aA (tm (.i c) (tfl 0 rfl rfl dN rfl fC (to (sle rfl fN.of) (to (scm rfl rfl rfl) (aB ?_)))))));refine tih h (fun c4 h => ?_) (fun c4 h => ?_)
 ·refine aU (aC (bD (aC (aA (tm (Z40 a) (tfl 0 rfl rfl dN rfl fC (tm (.i c) ?_)))))));obtain ⟨x5, h6, h⟩ := bns h;refine to (six rfl rfl fN.of (aW aR h6)) (to (sfc [.j x5.Player] rfl kZ) (to (slc rfl aQ) ?_));obtain ⟨r7, h8, h⟩ := bns h;refine to (scr call107 (zQ _ _ h8)) (to (sn rfl) (aB ?_));refine tih h (fun c9 h => ?_) (fun c9 h => ?_)
  ·refine aC (aA (ta Z2 (aB ?_)));obtain rfl := sIn h;refine bK (bE (bH (l := [4]) (ae rfl))) ?_;exact rt
  ·refine cA ?_;refine aA (tm (.i c) (to (sar rfl rfl rfl) (ta (.i (w64 (c + 1))) (aB ?_))));exact ⟨(w64 (c + 1)), h, aO [0] rfl rfl (aH rfl (aK (ae rfl)))⟩
 ·refine bO ?_;refine .inl ⟨rfl, ?_⟩;simp only [uS] at h;refine aC (aA (ta Z14 (aB ?_)));obtain rfl := sIn h;refine bK (bE (bH (l := [4]) (ae rfl))) ?_;exact rt

theorem aAu (c : bA) (a : Int) {r : Int} (h : nB c a = some r) : Fn Tryz.prog 35 [.agg (aT c), .i a] (.i r) := by
 unfold nB at h;refine oT [.tmp 4] func35 results35 ntmps35 ?_;refine aC (aA ?_);refine bG rfl (cV (v := .agg (aT c)) (aE rfl) rfl rfl rfl) ?_;rintro _ ⟨b1, rfl⟩;refine ta (.i 0) (aB (aC (aC (aA (ta (.i 0) (aB (bD ?_)))))));refine bP (S := Int) [1, 2] (fun s2 => [(5, .i s2)]) (fun s2 => [.box b1 0 (aT c)]) (fun k s2 => jH a c k s2) (fun _ => rfl) (0) h (aO [0] rfl rfl (aH rfl (aK (ae rfl)))) ?_;rintro k3 b h;simp only [jH] at h;refine aC (aC (aA (tm (.i b) (tfl 0 rfl rfl dN rfl fC (to (sle rfl fN.of) (to (scm rfl rfl rfl) (aB ?_)))))));refine tih h (fun c4 h => ?_) (fun c4 h => ?_)
 ·refine aU (aC (bD (aC (aA (tfl 0 rfl rfl dN rfl fC (tm (.i b) ?_))))));obtain ⟨x5, h6, h⟩ := bns h;refine to (six rfl rfl fN.of (aW aR h6)) (to (sfc [.j x5.Player] rfl kZ) (to (slc rfl aQ) (tm (.i a) (to (scm rfl rfl rfl) (aB ?_)))));refine tih h (fun c7 h => ?_) (fun c7 h => ?_)
  ·refine aC (aA (tm (.i b) (ta (.i b) (aB ?_))));obtain rfl := sIn h;refine bK (bE (bH (l := [4]) (ae rfl))) ?_;exact rt
  ·refine cA ?_;refine aA (tm (.i b) (to (sar rfl rfl rfl) (ta (.i (w64 (b + 1))) (aB ?_))));exact ⟨(w64 (b + 1)), h, aO [0] rfl rfl (aH rfl (aK (ae rfl)))⟩
 ·refine bO ?_;refine .inl ⟨rfl, ?_⟩;simp only [uQ] at h;refine aC (aA (ta (.i (-1)) (aB ?_)));obtain rfl := sIn h;refine bK (bE (bH (l := [4]) (ae rfl))) ?_;exact rt

theorem zS (c : bA) (g : Int) (j : Int) {r : Bool} (h : kI c g j = some r) : Fn Tryz.prog 87 [.agg (aT c), .i g, .i j] (.b r) := by
 unfold kI at h;refine oT [.tmp 6] func87 results87 ntmps87 ?_;refine aC (aA ?_);refine bG rfl (cV (v := .agg (aT c)) (aE rfl) rfl rfl rfl) ?_;rintro _ ⟨b1, rfl⟩;refine ta Z2 (aB (aC (aC (aA (tm (.i g) (to (scm rfl rfl rfl) (tm (Z33 g) ?_)))))));obtain ⟨b2, h3, h⟩ := bns h;refine aV 3 [1, 2, 3] 14 b2 ?_ ?_
 ·refine bch h3 (fun m h3 => ?_) (fun m h3 => ?_)
  ·refine tp m (tp m (to (spt Z14 m) ?_));obtain rfl := sIn h3;refine aB (aJ rfl (ae rfl) rfl)
  ·refine tk m (sm (.i j)) (tk m (scm rfl rfl rfl) (to (spf (Z33 j) m) ?_));obtain rfl := sIn h3;refine aB (aJ rfl (ae rfl) rfl)
 ·refine aB ?_;refine tih h (fun c4 h => ?_) (fun c4 h => ?_)
  ·refine aC (aA (tm (.i g) (tm (.i j) (to (scm rfl rfl rfl) (ta (.b (!decide (g = j))) (aB ?_))))));obtain rfl := sIn h;refine bK (bE (bH (l := [6]) (ae rfl))) ?_;exact rt
  ·refine aU (aC ?_);obtain ⟨r6, h7, h⟩ := bns h;obtain ⟨x8, h9, h⟩ := bns h;obtain ⟨z, A, h⟩ := bns h;obtain ⟨f, B, h⟩ := bns h;refine iE mix 17 [] (fun X5 => [(7, .bp (X5 14).b 0 0), (8, .bp (X5 15).b 0 0), (31, .agg (aR f))]) (fun X5 => [.box b1 0 (aT c), .box (X5 14).b 0 (aR x8), .box (X5 15).b 0 Z27]) ?_ ?_
   ·refine ⟨2, fun X5 => [(18, 0, .bp b1 0 2), (19, 1, .d (Z54 c)), (20, 2, .agg (aT c)), (21, 3, .i g), (22, 4, .i r6), (23, 5, .cp [.j x8.Player, .j x8.Nation, .k x8.Qualified]), (24, 6, .agg (aR x8)), (25, 7, .bp b1 0 2), (26, 8, .d (Z54 c)), (27, 9, .agg (aT c)), (28, 10, .i j), (29, 11, .i z), (30, 12, .cp [.j f.Player, .j f.Nation, .k f.Qualified]), (31, 13, .agg (aR f)), (7, 14, .bp (X5 14).b 0 0), (8, 15, .bp (X5 15).b 0 0)], fun X5 => [([], .box b1 0 (aT c)), ([(16, .box (X5 14).b 0 (aR x8)), (14, .box (X5 14).b 0 Z27)], nob), ([(15, .box (X5 15).b 0 Z27)], nob)], ?_, ?_⟩
    · exact xok [(0, 17), (1, 17), (0, 17), (0, 17), (304, 17), (205, 17), (6, 17), (0, 0), (8, 0), (0, 17), (0, 17), (1011, 17), (912, 0), (13, 0), (0, 17), (0, 17), (71516, 0)] ⟨fun _ _ w _ k => xp w (yf k rfl dN),
 fun _ _ w _ k => xp w (yl k 0 rfl (og k rfl rfl) rfl fC),
 fun _ _ w _ k => xp w (yla k 0 (aT c) rfl (og k rfl rfl) eT),
 fun _ _ w _ k => xp w (ym k (.i g)),
 fun _ _ w _ k => xp w (cT (aE rfl) (.func _ _ call35) (ev2 (aX k rfl) (ev2 (aX k rfl) evn)) rfl (BVs.refl _ _) (aAu _ _ h7) rfl),
 fun _ _ w _ k => xp w (yix k rfl rfl fN.of (aW aR h9)),
 fun _ _ w _ k => xp w (aWc k (aR x8) rfl aEa),
 fun _ _ w _ k => xp w (yf k rfl dN),
 fun _ _ w _ k => xp w (yl k 0 rfl (og k rfl rfl) rfl fC),
 fun _ _ w _ k => xp w (yla k 0 (aT c) rfl (og k rfl rfl) eT),
 fun _ _ w _ k => xp w (ym k (.i j)),
 fun _ _ w _ k => xp w (cT (aE rfl) (.func _ _ call35) (ev2 (aX k rfl) (ev2 (aX k rfl) evn)) rfl (BVs.refl _ _) (aAu _ _ A) rfl),
 fun _ _ w _ k => xp w (yix k rfl rfl fN.of (aW aR B)),
 fun _ _ w _ k => xp w (aWc k (aR f) rfl aEa),
 fun X5 S hw hi hS => uH (X := X5) (p := 1) (v := fun x => .bp x.b 0 0) (mo := fun x => .box x.b 0 Z27) hS hi rfl rfl (fun _ => rfl) hw (fun _ => rfl) (fun _ => rfl) (fun _ => rfl) (fun _ => ⟨rfl, rfl, .inr rfl, ⟨rfl, rfl, .inr rfl, ⟨rfl, rfl, .inr rfl, ⟨rfl, rfl, .inr rfl, ⟨rfl, rfl, .inr rfl, ⟨rfl, rfl, .inr rfl, ⟨rfl, rfl, .inr rfl, ⟨rfl, rfl, .inr rfl, ⟨rfl, rfl, .inr rfl, ⟨rfl, rfl, .inr rfl, ⟨rfl, rfl, .inr rfl, ⟨rfl, rfl, .inr rfl, ⟨rfl, rfl, .inr rfl, ⟨rfl, rfl, .inr rfl, ⟨rfl, rfl, .inl rfl, ⟨rfl, rfl, .inr rfl, trivial⟩⟩⟩⟩⟩⟩⟩⟩⟩⟩⟩⟩⟩⟩⟩⟩) (fun _ => ⟨trivial, rfl, ⟨⟨rfl, .inl rfl, ⟨rfl, .inl rfl, trivial⟩⟩, rfl, ⟨⟨rfl, .inr rfl, trivial⟩, rfl, trivial⟩⟩⟩) (kQ (cJ (zs := [.j 0, .j 0, .k false]) (aE rfl) zeroValue43 rfl rfl) (by rintro _ ⟨w, rfl⟩; exact ⟨⟨w, undef⟩, aO [0, 3, 2] rfl rfl (le_refl _)⟩)),
 fun X5 S hw hi hS => uH (X := X5) (p := 2) (v := fun x => .bp x.b 0 0) (mo := fun x => .box x.b 0 Z27) hS hi rfl rfl (fun _ => rfl) hw (fun _ => rfl) (fun _ => rfl) (fun _ => rfl) (fun _ => ⟨rfl, rfl, .inr rfl, ⟨rfl, rfl, .inr rfl, ⟨rfl, rfl, .inr rfl, ⟨rfl, rfl, .inr rfl, ⟨rfl, rfl, .inr rfl, ⟨rfl, rfl, .inr rfl, ⟨rfl, rfl, .inr rfl, ⟨rfl, rfl, .inr rfl, ⟨rfl, rfl, .inr rfl, ⟨rfl, rfl, .inr rfl, ⟨rfl, rfl, .inr rfl, ⟨rfl, rfl, .inr rfl, ⟨rfl, rfl, .inr rfl, ⟨rfl, rfl, .inr rfl, ⟨rfl, rfl, .inr rfl, ⟨rfl, rfl, .inl rfl, trivial⟩⟩⟩⟩⟩⟩⟩⟩⟩⟩⟩⟩⟩⟩⟩⟩) (fun _ => ⟨trivial, rfl, ⟨⟨rfl, .inr rfl, ⟨rfl, .inr rfl, trivial⟩⟩, rfl, ⟨⟨rfl, .inl rfl, trivial⟩, rfl, trivial⟩⟩⟩) (kQ (cJ (zs := [.j 0, .j 0, .k false]) (aE rfl) zeroValue43 rfl rfl) (by rintro _ ⟨w, rfl⟩; exact ⟨⟨w, undef⟩, aO [0, 1, 3] rfl rfl (le_refl _)⟩)),
 fun _ _ _ _ k => xs 1 k rfl rfl (sW (i := 1) (aX k rfl) (og k rfl rfl) (aX k rfl) rfl rfl sizeOf43 rfl (aE rfl) (Nat.le_of_ble_eq_true rfl) (ds' := (aR x8)) rfl), trivial⟩
    · exact fun X5 => bT (aH rfl (aH rfl (aH rfl (aK trivial))))
   ·intro X5;refine to (sst 2 rfl rfl sizeOf43 (aR f)) (aB (aC (aA (tfl 1 rfl rfl wY rfl aQ (to (scm rfl rfl rfl) (tm (.b (decide (x8.Nation = 0))) ?_))))));obtain ⟨t, q, h⟩ := bns h;refine aV 6 [7, 8] 41 t ?_ ?_
    ·refine bch q (fun e q => ?_) (fun e q => ?_)
     ·refine tp e (tp e (tp e (tp e (tp e (to (spt Z14 e) ?_)))));obtain rfl := sIn q;refine aB (aJ rfl (ae rfl) rfl)
     ·refine tkl 1 e rfl rfl wY rfl aQ (tkl 2 e rfl rfl wY rfl aQ (tk e (scm rfl rfl rfl) (to (spf (.b (!decide (x8.Nation = f.Nation))) e) ?_)));obtain rfl := sIn q;refine aB (aJ rfl (ae rfl) rfl)
    ·refine tm (.b t) ?_;obtain ⟨u, n, h⟩ := bns h;refine aV 8 [] 50 u ?_ ?_
     ·refine bch n (fun a n => ?_) (fun a n => ?_)
      ·refine tkl 1 a rfl rfl aBe rfl aFw (tk a (sm (.b x8.Qualified)) ?_);obtain ⟨y, s, n⟩ := bns n;refine aV 3 [42] 48 y ?_ ?_
       ·refine bch s (fun o s => ?_) (fun o s => ?_)
        ·refine tkl 2 o rfl rfl aBe rfl aFw (tk a (spt (.b f.Qualified) o) ?_);obtain rfl := sIn s;refine aB (aJ rfl (ae rfl) rfl)
        ·refine tp o (tp o (tk a (spf Z2 o) ?_));obtain rfl := sIn s;refine aB (aJ rfl (ae rfl) rfl)
       ·refine tk a (sn rfl) (to (spt (.b (!y)) a) ?_);obtain rfl := sIn n;refine aB (aJ rfl trivial rfl)
      ·refine tp a (tp a (tp a (tq (tq (tp a (tp a (to (spf Z2 a) ?_)))))));obtain rfl := sIn n;refine aB (aJ rfl trivial rfl)
     ·refine ta (.b u) (aB ?_);obtain rfl := sIn h;refine bK (bE (bH (l := [6]) (ae rfl))) ?_;exact rt

theorem aMw (a : List Int) (b : Int) {r : Int} (h : sK a b = some r) : Fn Tryz.prog 88 [.d (Z8 a), .i b] (.i r) := by
 unfold sK at h;refine oT [.tmp 4] func88 results88 ntmps88 ?_;refine aC (aA (ta (.i 0) (aB (aC (aC (aA (ta (.i 0) (aB (bD ?_)))))))));refine bP (S := Int) [0, 1] (fun s1 => [(5, .i s1)]) (fun s1 => []) (fun k s1 => kJ a b k s1) (fun _ => rfl) (0) h (aO [] rfl rfl (aH rfl (aK (ae rfl)))) ?_;rintro k2 c h;simp only [kJ] at h;refine aC (aC (aA (tm (.i c) (tm (Z40 a) (to (sle rfl bC.of) (to (scm rfl rfl rfl) (aB ?_)))))));refine tih h (fun c3 h => ?_) (fun c3 h => ?_)
 ·refine aU (aC (bD (aC (aA (tm (Z40 a) (tm (.i c) ?_))))));obtain ⟨x4, h5, h⟩ := bns h;refine to (six rfl rfl bC.of (aW aF h5)) (to (slc rfl aQ) (tm (.i b) (to (scm rfl rfl rfl) (aB ?_))));refine tih h (fun c6 h => ?_) (fun c6 h => ?_)
  ·refine aC (aA (tm (.i c) (ta (.i c) (aB ?_))));obtain rfl := sIn h;exact rt
  ·refine cA ?_;refine aA (tm (.i c) (to (sar rfl rfl rfl) (ta (.i (w64 (c + 1))) (aB ?_))));exact ⟨(w64 (c + 1)), h, aO [] rfl rfl (aH rfl (aK (ae rfl)))⟩
 ·refine bO ?_;refine .inl ⟨rfl, ?_⟩;simp only [wM] at h;refine aC (aA (ta (.i (-1)) (aB ?_)));obtain rfl := sIn h;exact rt

theorem aKi (a : Int) {r : Int} (h : uR a = some r) : Fn Tryz.prog 89 [.i a] (.i r) := by
 unfold uR at h;refine oT [.tmp 2] func89 results89 ntmps89 ?_;refine aC (aA (ta (.i 0) (aB (aC (aA (tm (.i a) (to (aQo (aE rfl) rfl rfl (.inr (.inr ⟨rfl, rfl⟩))) ?_)))))));refine ta (.i (aHw a 1)) (aB ?_);obtain rfl := sIn h;exact rt

theorem aKh (a : bA) (c : List Int) {r : Bool} (h : rD a c = some r) : Fn Tryz.prog 33 [.agg (aT a), .d (Z8 c)] (.b r) := by
 unfold rD at h;refine oT [.tmp 4] func33 results33 ntmps33 ?_;refine aC (aA ?_);refine bG rfl (cV (v := .agg (aT a)) (aE rfl) rfl rfl rfl) ?_;rintro _ ⟨b1, rfl⟩;refine ta Z2 (aB (aC (aC (aA (to (sla 0 (aT a) rfl rfl eT) (tm (Z40 c) ?_))))));obtain ⟨r2, h3, h⟩ := bns h;refine to (scr call86 (aJy _ _ h3)) (to (sn rfl) (aB ?_));refine tih h (fun c4 h => ?_) (fun c4 h => ?_)
 ·refine aC (aA (ta Z2 (aB ?_)));obtain rfl := sIn h;refine bK (bE (bH (l := [4]) (ae rfl))) ?_;exact rt
 ·refine aU (aC (aC (aA (ta (.i 0) (aB (bD ?_))))));refine bP (S := Int) [1, 2] (fun s5 => [(5, .i s5)]) (fun s5 => [.box b1 0 (aT a)]) (fun k s5 => kA c a k s5) (fun _ => rfl) (0) h (aO [0] rfl rfl (aH rfl (aK (ae rfl)))) ?_;rintro k6 g h;simp only [kA] at h;refine aC (aC (aA (tm (.i g) (tfl 0 rfl rfl dD rfl aQ (to (scm rfl rfl rfl) (aB ?_))))));refine tih h (fun c7 h => ?_) (fun c7 h => ?_)
  ·refine aU (aC (bD (aC ?_)));obtain ⟨x8, h9, h⟩ := bns h;obtain ⟨A, H, h⟩ := bns h;refine cI mix 10 [1, 2, 5] [(21, .agg (aT a)), (25, .i x8), (30, .i A)] ?_ ?_
   ·refine ⟨[(21, 0, .agg (aT a)), (22, 1, .d (Z8 c)), (23, 2, .i g), (24, 3, .cp [.j x8]), (25, 4, .i x8), (26, 5, .d (Z8 c)), (27, 6, .i g), (28, 7, .i (w64 (g + 1))), (29, 8, .cp [.j A]), (30, 9, .i A)], ?_, ?_⟩
    · exact dk [0, 0, 0, 203, 4, 0, 0, 7, 608, 9] ⟨go (zla 0 (aT a) rfl rfl eT),
 go (zm (Z40 c)),
 go (zm (.i g)),
 go (zix rfl rfl bC.of (aW aF h9)),
 go (zlc rfl aQ),
 go (zm (Z40 c)),
 go (zm (.i g)),
 go (zar rfl rfl rfl),
 go (zix rfl rfl bC.of (aW aF H)),
 go (zlc rfl aQ), trivial⟩
    · exact bT (aH rfl (aH rfl (aH rfl (aK (ae rfl)))))
   ·obtain ⟨V, I, h⟩ := bns h;refine to (scr call87 (zS _ _ _ I)) (to (sn rfl) (aB ?_));refine tih h (fun J h => ?_) (fun J h => ?_)
    ·refine aC (aA (ta Z2 (aB ?_)));obtain rfl := sIn h;refine bK (bE (bH (l := [4]) (ae rfl))) ?_;exact rt
    ·refine cA ?_;refine aA (tm (.i g) (to (sar rfl rfl rfl) (ta (.i (w64 (g + 2))) (aB ?_))));exact ⟨(w64 (g + 2)), h, aO [0] rfl rfl (aH rfl (aK (ae rfl)))⟩
  ·refine bO ?_;refine .inl ⟨rfl, ?_⟩;simp only [nS] at h;refine aC (aA (tfl 0 rfl rfl dD rfl aQ (tfl 0 rfl rfl dN rfl fC (to (sle rfl fN.of) (to (sar rfl rfl rfl) (ta (.i (Z16 a)) (aB (aC (aC (aA (ta (.i 0) ?_)))))))))));refine aB (bD ?_);refine bP (S := Int) [1, 2, 6] (fun z => [(7, .i z)]) (fun z => [.box b1 0 (aT a)]) (fun k z => kB c (Z16 a) a k z) (fun _ => rfl) (0) h (aO [0] rfl rfl (aH rfl (aK (ae rfl)))) ?_;rintro W e h;simp only [kB] at h;refine aC (aC (aA (tm (.i e) (tfl 0 rfl rfl oK rfl aQ (to (scm rfl rfl rfl) (aB ?_))))));refine tih h (fun K h => ?_) (fun K h => ?_)
   ·refine aU (aC (bD (aC (aA (tm (Z40 c) (tfl 0 rfl rfl dN rfl fC (tm (.i e) ?_)))))));obtain ⟨L, M, h⟩ := bns h;refine to (six rfl rfl fN.of (aW aR M)) (to (sfc [.j L.Player] rfl kZ) (to (slc rfl aQ) ?_));obtain ⟨n, N, h⟩ := bns h;refine to (scr call88 (aMw _ _ N)) (ta (.i n) (aB (aC ?_)));refine cI mix 11 [1, 2, 6, 7, 8] [(9, .i (Z45 a)), (62, .i (w64 (Z18 a)))] ?_ ?_
    ·refine ⟨[(53, 0, .bp b1 0 0), (54, 1, .i a.Size), (55, 2, .i (Z45 a)), (56, 3, .bp b1 0 0), (57, 4, .i a.Size), (58, 5, .i (w64 (a.Size - 1))), (59, 6, .bp b1 0 0), (60, 7, .i a.Size), (61, 8, .i (Z45 a)), (62, 9, .i (w64 (Z18 a))), (9, 10, .i (Z45 a))], ?_, ?_⟩
     · exact dk [0, 1, 2, 0, 4, 5, 0, 7, 8, 609, 3] ⟨go (zf rfl dD),
 go (zl 0 rfl rfl rfl aQ),
 go fun S hS => yS (aE rfl) (aX hS rfl) rfl (by decide),
 go (zf rfl dD),
 go (zl 0 rfl rfl rfl aQ),
 go (zar rfl rfl rfl),
 go (zf rfl dD),
 go (zl 0 rfl rfl rfl aQ),
 go fun S hS => yS (aE rfl) (aX hS rfl) rfl (by decide),
 go (zar rfl rfl rfl),
 go (za (.i (Z45 a))), trivial⟩
     · exact bT (aH rfl (aH rfl (aK (ae rfl))))
    ·refine ta (.i (w64 (Z18 a))) (aB (aC (aC (aA (tm (.i e) (to (scm rfl rfl rfl) (tm (.b (decide (e = 0))) ?_)))))));obtain ⟨B, u, h⟩ := bns h;refine aV 3 [1, 2, 6, 7, 8, 9, 10] 68 B ?_ ?_
     ·refine bch u (fun s u => ?_) (fun s u => ?_)
      ·refine tk s (sm (.i n)) (tk s (scm rfl rfl rfl) (to (spt (.b (!decide (n = 0))) s) ?_));obtain rfl := sIn u;refine aB (aJ rfl (ae rfl) rfl)
      ·refine tp s (tp s (to (spf Z2 s) ?_));obtain rfl := sIn u;refine aB (aJ rfl (ae rfl) rfl)
     ·refine tm (.b B) ?_;obtain ⟨C, t, h⟩ := bns h;refine aV 10 [1, 2, 6, 7, 8, 9, 10] 79 C ?_ ?_
      ·refine bch t (fun j t => ?_) (fun j t => ?_)
       ·refine tp j (tp j (tp j (tq (tq (tq (tq (tq (tp j (to (spt Z14 j) ?_)))))))));obtain rfl := sIn t;refine aB (aJ rfl (ae rfl) rfl)
       ·refine tk j (sm (.i e)) (tk j (scm rfl rfl rfl) (tk j (sm (.b (decide (e = 1)))) ?_));obtain ⟨E, w, t⟩ := bns t;refine aV 6 [1, 2, 6, 7, 8, 9, 10, 69, 70, 71, 72] 78 E ?_ ?_
        ·refine bch w (fun m w => ?_) (fun m w => ?_)
         ·refine tk m (sm (.i n)) (tkl 0 m rfl rfl dD rfl aQ (tk m (sar rfl rfl rfl) (tk m (scm rfl rfl rfl) (tk j (spt (.b (!decide (n = (w64 (a.Size - 1))))) m) ?_))));obtain rfl := sIn w;refine aB (aJ rfl (ae rfl) rfl)
         ·refine tp m (tp m (tp m (tp m (tp m (tk j (spf Z2 m) ?_)))));obtain rfl := sIn w;refine aB (aJ rfl (ae rfl) rfl)
        ·refine to (spf (.b E) j) ?_;obtain rfl := sIn t;refine aB (aJ rfl (ae rfl) rfl)
      ·refine tm (.b C) ?_;obtain ⟨O, o, h⟩ := bns h;refine aV 13 [1, 2, 6, 7, 8] 93 O ?_ ?_
       ·refine bch o (fun f o => ?_) (fun f o => ?_)
        ·refine tp f (tp f (tp f (tq (tq (tq (tp f (tp f (tq (tq (tq (tp f (to (spt Z14 f) ?_))))))))))));obtain rfl := sIn o;refine aB (aJ rfl (ae rfl) rfl)
        ·refine tk f (sm (.i e)) (tk f (scm rfl rfl rfl) (tk f (sm (.b (decide (2 ≤ e)))) ?_));obtain ⟨F, x, o⟩ := bns o;refine aV 4 [1, 2, 6, 7, 8, 10, 80, 81, 82, 83] 87 F ?_ ?_
         ·refine bch x (fun p x => ?_) (fun p x => ?_)
          ·refine tk p (sm (.i n)) (tk p (sm (.i (Z45 a))) (tk p (scm rfl rfl rfl) (tk f (spt (.b (!decide (n = (Z45 a)))) p) ?_)));obtain rfl := sIn x;refine aB (aJ rfl (ae rfl) rfl)
          ·refine tp p (tp p (tp p (tk f (spf Z2 p) ?_)));obtain rfl := sIn x;refine aB (aJ rfl (ae rfl) rfl)
         ·refine tk f (sm (.b F)) ?_;obtain ⟨G, y, o⟩ := bns o;refine aV 4 [1, 2, 6, 7, 8, 80, 81, 82, 83, 87, 88] 92 G ?_ ?_
          ·refine bch y (fun q y => ?_) (fun q y => ?_)
           ·refine tk q (sm (.i n)) (tk q (sm (.i (w64 (Z18 a)))) (tk q (scm rfl rfl rfl) (tk f (spt (.b (!decide (n = (w64 (Z18 a))))) q) ?_)));obtain rfl := sIn y;refine aB (aJ rfl (ae rfl) rfl)
           ·refine tp q (tp q (tp q (tk f (spf Z2 q) ?_)));obtain rfl := sIn y;refine aB (aJ rfl (ae rfl) rfl)
          ·refine to (spf (.b G) f) ?_;obtain rfl := sIn o;refine aB (aJ rfl (ae rfl) rfl)
       ·refine aB ?_;refine tih h (fun P h => ?_) (fun P h => ?_)
        ·refine aC (aA (ta Z2 (aB ?_)));obtain rfl := sIn h;refine bK (bE (bH (l := [4]) (ae rfl))) ?_;exact rt
        ·refine aU (aC (aA (tm (.i e) (tm (.i (Z16 a)) (to (scm rfl rfl rfl) (tm (Z40 c) (tm (.i n) ?_)))))));obtain ⟨X, Q, h⟩ := bns h;refine to (scr call89 (aKi _ Q)) ?_;obtain ⟨Y, T, h⟩ := bns h;refine to (six rfl rfl bC.of (aW aF T)) (to (slc rfl aQ) (to (scm rfl rfl rfl) (to (aZo (aE rfl) rfl rfl underlying4) ?_)));refine aB ?_;refine tih h (fun U h => ?_) (fun U h => ?_)
         ·refine aC (aA (ta Z2 (aB ?_)));obtain rfl := sIn h;refine bK (bE (bH (l := [4]) (ae rfl))) ?_;exact rt
         ·refine cA ?_;refine aA (tm (.i e) (to (sar rfl rfl rfl) (ta (.i (w64 (e + 1))) (aB ?_))));exact ⟨(w64 (e + 1)), h, aO [0] rfl rfl (aH rfl (aK (ae rfl)))⟩
   ·refine bO ?_;refine .inl ⟨rfl, ?_⟩;simp only [vW] at h;refine aC (aA (ta Z14 (aB ?_)));obtain rfl := sIn h;refine bK (bE (bH (l := [4]) (ae rfl))) ?_;exact rt

theorem aIb (j : bA) {r : (List Int)} (h : pC j = some r) : Fn Tryz.prog 105 [.agg (aT j)] (.d (.sl 1 (r.map aF))) := by
 unfold pC at h;refine oT [.tmp 2] func105 results105 ntmps105 ?_;refine aC (aA ?_);refine bG rfl (cV (v := .agg (aT j)) (aE rfl) rfl rfl rfl) ?_;rintro _ ⟨b1, rfl⟩;refine to (sV 1 (aE rfl)) ?_;refine aB (aC (aA (to (sV 1 (aE rfl)) ?_)));refine aB (aC (aC (aA (ta (.i 0) (aB (bD ?_))))));refine bP (S := Z32 × Int) [1] (fun s2 => [(3, .d (.sl 1 (s2.1.map aF))), (4, .i s2.2)]) (fun s2 => [.box b1 0 (aT j)]) (fun k s2 => dZ j k s2.1 s2.2) (fun _ => rfl) (([] : List Int), 0) h (aO [0] rfl rfl (aH rfl (aH rfl (aK (ae rfl))))) ?_;rintro k3 ⟨a, g⟩ h;simp only [dZ] at h;refine aC (aC (aA (tm (.i g) (tfl 0 rfl rfl dN rfl fC (to (sle rfl fN.of) (to (scm rfl rfl rfl) (aB ?_)))))));refine tih h (fun c4 h => ?_) (fun c4 h => ?_)
 ·refine aU (aC (bD (aC (aA (tfl 0 rfl rfl dN rfl fC (tm (.i g) ?_))))));obtain ⟨x5, h6, h⟩ := bns h;refine to (six rfl rfl fN.of (aW aR h6)) (to (sfc [.j x5.Player] rfl kZ) (to (slc rfl aQ) (ta (.i x5.Player) (aB (aC (aA (ta (.i 0) (aB (aC (bD ?_))))))))));refine bP (S := Int) [1, 3, 4, 5] (fun s7 => [(6, .i s7)]) (fun s7 => [.box b1 0 (aT j)]) (fun k s7 => iL (dZ j k3) a g x5.Player j k s7) (fun _ => rfl) (0) h (aO [0] rfl rfl (aH rfl (aK (ae rfl)))) ?_;rintro k8 c h;simp only [iL] at h;refine aC (aC (aA (tm (.i c) (tm (.d (.sl 1 (a.map aF))) (to (sle rfl bC.of) (to (scm rfl rfl rfl) (tm (.b (decide (c < (a.length : Int)))) ?_)))))));obtain ⟨b9, m, h⟩ := bns h;refine aV 7 [1, 3, 4, 5, 6] 32 b9 ?_ ?_
  ·refine bch m (fun e m => ?_) (fun e m => ?_)
   ·refine tk e (sm (.d (.sl 1 (a.map aF)))) (tk e (sm (.i c)) ?_);obtain ⟨p, q, m⟩ := bns m;refine tk e (six rfl rfl bC.of (aW aF q)) (tk e (slc rfl aQ) (tk e (sm (.i x5.Player)) (tk e (scm rfl rfl rfl) (to (spt (.b (decide (p < x5.Player))) e) ?_))));obtain rfl := sIn m;refine aB (aJ rfl (ae rfl) rfl)
   ·refine tp e (tp e (tp e (tp e (tp e (tp e (to (spf Z2 e) ?_))))));obtain rfl := sIn m;refine aB (aJ rfl (ae rfl) rfl)
  ·refine aB ?_;refine tih h (fun s h => ?_) (fun s h => ?_)
   ·refine aU (bD (aA (tm (.i c) (to (sar rfl rfl rfl) (ta (.i (w64 (c + 1))) ?_)))));refine cN ?_;exact ⟨(w64 (c + 1)), h, aO [0] rfl rfl (aH rfl (aK (ae rfl)))⟩
   ·refine bO ?_;refine .inl ⟨rfl, ?_⟩;simp only [kF] at h;refine aC (aA (tm (.i x5.Player) (to (aVq (aE rfl) bC rfl rfl (rows := ([x5.Player]).map aF) rfl (bY (f := aF) fun _ => rfl) rfl (by decide)) ?_)));refine tm (.d (.sl 1 (a.map aF))) (tm (.i c) ?_);obtain ⟨t, u, h⟩ := bns h;refine to (aDm (aE rfl) bC.of rfl rfl bHt (aMp aF u)) ?_;obtain ⟨o, w, h⟩ := bns h;refine to (bBy (.d (.weak _ _)) (aSt (nn := true) (f := aF) (xs := [x5.Player]) (ys := t) (aE rfl) bC rfl rfl (fun _ => rfl) w rfl)) ?_;refine ta (.d (.sl 1 (o.map aF))) (aB (aA ?_));refine bG rfl (zM (aE rfl) bC rfl rfl (rows := (([] : List Int)).map aF) rfl (bY (f := aF) fun _ => rfl) rfl (by decide)) ?_;rintro _ ⟨B, rfl⟩;refine tm (.d (.sl 1 (a.map aF))) (tm (.i c) ?_);obtain ⟨C, x, h⟩ := bns h;refine to (aDm (aE rfl) bC.of rfl rfl rfl (aMp aF x)) ?_;obtain ⟨E, y, h⟩ := bns h;refine bG rfl (dL (i := 1) (aE rfl) bC rfl rfl rfl (fun _ => rfl) y rfl) ?_;rintro _ ⟨F, rfl⟩;refine tm (.d (.sl 1 (o.map aF))) ?_;obtain ⟨n, z, h⟩ := bns h;refine bG rfl (dL (i := 1) (aE rfl) bC rfl rfl rfl (fun _ => rfl) z rfl) ?_;rintro _ ⟨A, rfl⟩;refine gY (aMc [.box b1 0 (aT j)] [.arr A 3 1 (n.map aF)] rfl (bAg (v' := .d (.sl 1 (n.map aF))) (.d (aXo (bY (f := aF) fun _ => rfl))) (aAx _ _))) ?_;refine ta (.d (.sl 1 (n.map aF))) ?_;refine cN ?_;simp only [pR] at h;refine aA (tm (.i g) (to (sar rfl rfl rfl) (ta (.i (w64 (g + 1))) (aB ?_))));exact ⟨(n, w64 (g + 1)), h, aO [0] rfl rfl (aH rfl (aH rfl (aK (ae rfl))))⟩
 ·refine bO ?_;refine .inl ⟨rfl, ?_⟩;simp only [tR] at h;refine aC (aA (tm (.d (.sl 1 (a.map aF))) (ta (.d (.sl 1 (a.map aF))) (aB ?_))));obtain rfl := sIn h;refine bK (bE (bH (l := [2]) (ae rfl))) ?_;exact rt

theorem xT (c : List Int) (e : Int) {r : Int} (h : sJ c e = some r) : Fn Tryz.prog 106 [.d (Z8 c), .i e] (.i r) := by
 unfold sJ at h;refine oT [.tmp 4] func106 results106 ntmps106 ?_;refine aC (aA (ta (.i 0) (aB (aC (aA (ta (.i 0) (aB (aC (aC (aA (ta (.i 0) (aB (bD ?_)))))))))))));refine bP (S := Int × Int) [0, 1] (fun s1 => [(5, .i s1.1), (6, .i s1.2)]) (fun s1 => []) (fun k s1 => iU c e k s1.1 s1.2) (fun _ => rfl) (0, 0) h (aO [] rfl rfl (aH rfl (aH rfl (aK (ae rfl))))) ?_;rintro k2 ⟨b, a⟩ h;simp only [iU] at h;refine aC (aC (aA (tm (.i a) (tm (Z40 c) (to (sle rfl bC.of) (to (scm rfl rfl rfl) (aB ?_)))))));refine tih h (fun c3 h => ?_) (fun c3 h => ?_)
 ·refine aU (aC (bD (aC (aA (tm (Z40 c) (tm (.i a) ?_))))));obtain ⟨x4, h5, h⟩ := bns h;refine to (six rfl rfl bC.of (aW aF h5)) (to (slc rfl aQ) (tm (.i e) (to (scm rfl rfl rfl) (aB ?_))));refine tih h (fun c6 h => ?_) (fun c6 h => ?_)
  ·refine aA (tm (.i b) (to (sar rfl rfl rfl) (ta (.i (w64 (b + 1))) ?_)));refine cN ?_;refine aA (tm (.i a) (to (sar rfl rfl rfl) (ta (.i (w64 (a + 1))) (aB ?_))));exact ⟨(w64 (b + 1), w64 (a + 1)), h, aO [] rfl rfl (aH rfl (aH rfl (aK (ae rfl))))⟩
  ·refine cA ?_;refine aA (tm (.i a) (to (sar rfl rfl rfl) (ta (.i (w64 (a + 1))) (aB ?_))));exact ⟨(b, w64 (a + 1)), h, aO [] rfl rfl (aH rfl (aH rfl (aK (ae rfl))))⟩
 ·refine bO ?_;refine .inl ⟨rfl, ?_⟩;simp only [wL] at h;refine aC (aA (tm (.i b) (ta (.i b) (aB ?_))));obtain rfl := sIn h;exact rt

theorem aMv (j : bA) (a : List Int) {r : Bool} (h : sI j a = some r) : Fn Tryz.prog 108 [.agg (aT j), .d (Z8 a)] (.b r) := by
 unfold sI at h;refine oT [.tmp 4] func108 results108 ntmps108 ?_;refine aC (aA ?_);refine bG rfl (cV (v := .agg (aT j)) (aE rfl) rfl rfl rfl) ?_;rintro _ ⟨b1, rfl⟩;refine ta Z2 (aB (aC (aA (tm (Z40 a) (to (sle rfl bC.of) (to (sar rfl rfl rfl) (ta (.i (Z9 a)) (aB (aC (aC ?_))))))))));obtain ⟨b2, h3, h⟩ := bns h;refine cI mix 17 [1, 2, 5] [(27, .b b2)] ?_ ?_
 ·refine bch h3 (fun c4 h3 => ?_) (fun c4 h3 => ?_)
  ·obtain ⟨x5, h6, h3⟩ := bns h3;obtain ⟨x7, h8, h3⟩ := bns h3;obtain ⟨r9, s, h3⟩ := bns h3;obtain rfl := sIn h3;refine ⟨[(11, 0, .i (Z9 a)), (12, 1, .i ((Z9 a).tmod 2)), (13, 2, .b (Z38 a)), (14, 3, .b (Z38 a)), (15, 4, .agg (aT j)), (16, 5, .d (Z8 a)), (17, 6, .i (Z9 a)), (18, 7, .i (w64 ((Z9 a) - 1))), (19, 8, .cp [.j x5]), (20, 9, .i x5), (21, 10, .d (Z8 a)), (22, 11, .i (Z9 a)), (23, 12, .cp [.j x7]), (24, 13, .i x7), (25, 14, .b r9), (26, 15, .b (!r9)), (27, 16, .b (!r9))], ?_, ?_⟩
   · exact dk [0, 1, 2, 3, 4, 4, 4, 407, 40608, 409, 4, 4, 41112, 413, 4051014, 415, 416] ⟨go (zm (.i (Z9 a))),
 go fun S hS => aJh (aE rfl) (aX hS rfl) rfl (by decide),
 go (zcm rfl rfl rfl),
 go (zm (.b (Z38 a))),
 gt c4 (zla 0 (aT j) rfl rfl eT),
 gt c4 (zm (Z40 a)),
 gt c4 (zm (.i (Z9 a))),
 gt c4 (zar rfl rfl rfl),
 gt c4 (zix rfl rfl bC.of (aW aF h6)),
 gt c4 (zlc rfl aQ),
 gt c4 (zm (Z40 a)),
 gt c4 (zm (.i (Z9 a))),
 gt c4 (zix rfl rfl bC.of (aW aF h8)),
 gt c4 (zlc rfl aQ),
 gt c4 fun S hS => cT (aE rfl) (.func _ _ call87) (ev2 (aX hS rfl) (ev2 (aX hS rfl) (ev2 (aX hS rfl) evn))) rfl (BVs.refl _ _) (zS _ _ _ s) rfl,
 gt c4 (zn rfl),
 go (zpt (.b (!r9)) c4), trivial⟩
   · exact bT (aH rfl (aK (ae rfl)))
  ·obtain rfl := sIn h3;refine ⟨[(11, 0, .i (Z9 a)), (12, 1, .i ((Z9 a).tmod 2)), (13, 2, .b (Z38 a)), (14, 3, .b (Z38 a)), (15, 4, .tup []), (16, 5, .tup []), (17, 6, .tup []), (18, 7, .tup []), (19, 8, .tup []), (20, 9, .tup []), (21, 10, .tup []), (22, 11, .tup []), (23, 12, .tup []), (24, 13, .tup []), (25, 14, .tup []), (26, 15, .tup []), (27, 16, .b false)], ?_, ?_⟩
   · exact dk [0, 1, 2, 3, 4, 4, 4, 407, 40608, 409, 4, 4, 41112, 413, 4051014, 415, 416] ⟨go (zm (.i (Z9 a))),
 go fun S hS => aJh (aE rfl) (aX hS rfl) rfl (by decide),
 go (zcm rfl rfl rfl),
 go (zm (.b (Z38 a))),
 gp c4,
 gp c4,
 gp c4,
 gp c4,
 gp c4,
 gp c4,
 gp c4,
 gp c4,
 gp c4,
 gp c4,
 gp c4,
 gp c4,
 go (zpf Z2 c4), trivial⟩
   · exact bT (aH rfl (aK (ae rfl)))
 ·refine aB ?_;refine tih h (fun t h => ?_) (fun t h => ?_)
  ·refine aC (aA (ta Z2 (aB ?_)));obtain rfl := sIn h;refine bK (bE (bH (l := [4]) (ae rfl))) ?_;exact rt
  ·refine aU (aC (aC (aA (ta (.i 0) (aB (bD ?_))))));refine bP (S := Int) [1, 2, 5] (fun p => [(6, .i p)]) (fun p => [.box b1 0 (aT j)]) (fun k p => fH a (Z9 a) j k p) (fun _ => rfl) (0) h (aO [0] rfl rfl (aH rfl (aK (ae rfl)))) ?_;rintro F c h;simp only [fH] at h;refine aC (aC (aA (tm (.i c) (tfl 0 rfl rfl oK rfl aQ (to (scm rfl rfl rfl) (aB ?_))))));refine tih h (fun u h => ?_) (fun u h => ?_)
   ·refine aU (aC (bD (aC ?_)));obtain ⟨m, w, h⟩ := bns h;obtain ⟨f, x, h⟩ := bns h;refine cI mix 10 [1, 2, 5, 6] [(37, .i m), (43, .i f.Player)] ?_ ?_
    ·refine ⟨[(34, 0, .d (Z8 a)), (35, 1, .i (Z9 a)), (36, 2, .cp [.j m]), (37, 3, .i m), (38, 4, .bp b1 0 2), (39, 5, .d (Z54 j)), (40, 6, .i c), (41, 7, .cp [.j f.Player, .j f.Nation, .k f.Qualified]), (42, 8, .cp [.j f.Player]), (43, 9, .i f.Player)], ?_, ?_⟩
     · exact dk [0, 0, 102, 3, 0, 5, 0, 607, 8, 9] ⟨go (zm (Z40 a)),
 go (zm (.i (Z9 a))),
 go (zix rfl rfl bC.of (aW aF w)),
 go (zlc rfl aQ),
 go (zf rfl dN),
 go (zl 0 rfl rfl rfl fC),
 go (zm (.i c)),
 go (zix rfl rfl fN.of (aW aR x)),
 go (zfc [.j f.Player] rfl kZ),
 go (zlc rfl aQ), trivial⟩
     · exact bT (aH rfl (aH rfl (aK (ae rfl))))
    ·refine to (scm rfl rfl rfl) (ta (.b (decide (m = f.Player))) (aB (aC (aA (tm (.i c) (aB ?_))))));refine vQ ?_;refine aC (aA (to (scm rfl rfl rfl) (ta (.b (decide (c = 0))) (aB ?_))));refine tih h (fun y h => ?_) (fun y h => ?_)
     ·refine aC (aA (tm (.b (decide (m = f.Player))) (tm (.i (Z9 a)) (to (scm rfl rfl rfl) (to (aZo (aE rfl) rfl rfl underlying4) ?_)))));refine aB ?_;refine tih h (fun z h => ?_) (fun z h => ?_)
      ·refine aC (aA (ta Z2 (aB ?_)));obtain rfl := sIn h;refine bK (bE (bH (l := [4]) (ae rfl))) ?_;exact rt
      ·refine cA ?_;refine aA (tm (.i c) (to (sar rfl rfl rfl) (ta (.i (w64 (c + 1))) (aB ?_))));exact ⟨(w64 (c + 1)), h, aO [0] rfl rfl (aH rfl (aK (ae rfl)))⟩
     ·refine aC (aA (to (scm rfl rfl rfl) (ta (.b (decide (c = 1))) (aB ?_))));refine tih h (fun A h => ?_) (fun A h => ?_)
      ·refine aC (aA (tm (.b (decide (m = f.Player))) (tm (.i (Z9 a)) (tfl 0 rfl rfl dD rfl aQ (to (sar rfl rfl rfl) (to (scm rfl rfl rfl) (to (aZo (aE rfl) rfl rfl underlying4) ?_)))))));refine aB ?_;refine tih h (fun B h => ?_) (fun B h => ?_)
       ·refine aC (aA (ta Z2 (aB ?_)));obtain rfl := sIn h;refine bK (bE (bH (l := [4]) (ae rfl))) ?_;exact rt
       ·refine cA ?_;refine aA (tm (.i c) (to (sar rfl rfl rfl) (ta (.i (w64 (c + 1))) (aB ?_))));exact ⟨(w64 (c + 1)), h, aO [0] rfl rfl (aH rfl (aK (ae rfl)))⟩
      ·refine aC (aA (tm (.b (decide (m = f.Player))) (tm (.b (decide (m = f.Player))) ?_)));obtain ⟨q, n, h⟩ := bns h;refine aV 6 [1, 2, 5, 6] 53 q ?_ ?_
       ·refine bch n (fun g n => ?_) (fun g n => ?_)
        ·refine tk g (sm (.i (Z9 a))) (tkl 0 g rfl rfl dD rfl aQ (tk g (yS (aE rfl) rfl rfl (by decide)) ?_));refine tk g (scm rfl rfl rfl) (to (spt (.b (!decide ((Z9 a) = (Z45 j)))) g) ?_);obtain rfl := sIn n;refine aB (aJ rfl (ae rfl) rfl)
        ·refine tp g (tp g (tp g (tp g (tp g (to (spf Z2 g) ?_)))));obtain rfl := sIn n;refine aB (aJ rfl (ae rfl) rfl)
       ·refine tm (.b q) ?_;obtain ⟨C, o, h⟩ := bns h;refine aV 10 [1, 2, 5, 6] 64 C ?_ ?_
        ·refine bch o (fun e o => ?_) (fun e o => ?_)
         ·refine tk e (sm (.i (Z9 a))) (tkl 0 e rfl rfl dD rfl aQ (tk e (sar rfl rfl rfl) (tkl 0 e rfl rfl dD rfl aQ (tk e (yS (aE rfl) rfl rfl (by decide)) ?_))));refine tk e (sar rfl rfl rfl) (tk e (scm rfl rfl rfl) (to (spt (.b (!decide ((Z9 a) = (w64 (Z18 j))))) e) ?_));obtain rfl := sIn o;refine aB (aJ rfl (ae rfl) rfl)
         ·refine tp e (tp e (tp e (tp e (tp e (tp e (tp e (tp e (tp e (to (spf Z2 e) ?_)))))))));obtain rfl := sIn o;refine aB (aJ rfl (ae rfl) rfl)
        ·refine aB ?_;refine tih h (fun E h => ?_) (fun E h => ?_)
         ·refine aC (aA (ta Z2 (aB ?_)));obtain rfl := sIn h;refine bK (bE (bH (l := [4]) (ae rfl))) ?_;exact rt
         ·refine cA ?_;refine aA (tm (.i c) (to (sar rfl rfl rfl) (ta (.i (w64 (c + 1))) (aB ?_))));exact ⟨(w64 (c + 1)), h, aO [0] rfl rfl (aH rfl (aK (ae rfl)))⟩
   ·refine bO ?_;refine .inl ⟨rfl, ?_⟩;simp only [wK] at h;refine aC (aA (ta Z14 (aB ?_)));obtain rfl := sIn h;refine bK (bE (bH (l := [4]) (ae rfl))) ?_;exact rt

theorem aIa (kr : Nat) : ∀ (c : bA) (g : List Int) (z : Int) {r : (List Z32)} (_h : fV kr c g z = some r), Fn Tryz.prog 45 [.agg (aT c), .d (.sl 1 (g.map aF)), .i z] (.d (.sl 1 (r.map gV))) := by
  induction kr with
  | zero => intros; rename_i h; cases h
  | succ kr ih =>
    intro c g z r h;simp only [fV] at h;refine oT [.tmp 6] func45 results45 ntmps45 ?_;refine aC (aA ?_);refine bG rfl (cV (v := .agg (aT c)) (aE rfl) rfl rfl rfl) ?_;rintro _ ⟨b1, rfl⟩;refine to (sV 1 (aE rfl)) ?_;refine aB (aC (aC (aA (tm (.d (.sl 1 (g.map aF))) (to (sle rfl bC.of) (tfl 0 rfl rfl dD rfl aQ (to (scm rfl rfl rfl) (aB ?_))))))));refine tih h (fun c2 h => ?_) (fun c2 h => ?_)
    ·refine aC (aC (aA (to (sla 0 (aT c) rfl rfl eT) (tm (.d (.sl 1 (g.map aF))) ?_))));obtain ⟨r3, h4, h⟩ := bns h;refine to (scr call33 (aKh _ _ h4)) (aB ?_);refine tih h (fun c5 h => ?_) (fun c5 h => ?_)
     ·refine aC (aA (tm (.d (.sl 1 (g.map aF))) (to (dE (aE rfl) aAn rfl rfl (rows := ([g]).map gV) rfl (bY (f := gV) fun _ => rfl) rfl (by decide)) ?_)));refine ta (.d (.sl 1 (([g]).map gV))) (aB ?_);obtain rfl := sIn h;refine bK (bE (bH (l := [6]) (ae rfl))) ?_;exact rt
     ·refine aU (aC (aA (to (sV 1 (aE rfl)) ?_)));refine aB ?_;obtain rfl := sIn h;refine bK (bE (bH (l := [6]) (ae rfl))) ?_;exact rt
    ·refine aU (aC (aA (to (aVq (aE rfl) bC rfl rfl (rows := ([(-1)]).map aF) rfl (bY (f := aF) fun _ => rfl) rfl (by decide)) ?_)));refine to (sla 0 (aT c) rfl rfl eT) ?_;obtain ⟨r6, h7, h⟩ := bns h;refine to (eO (aE rfl) (.func _ _ call105) rfl rfl (aIb _ h7)) ?_;obtain ⟨x8, h9, h⟩ := bns h;refine to (bBy (.d (.weak _ _)) (aSt (nn := true) (f := aF) (xs := [(-1)]) (ys := r6) (aE rfl) bC rfl rfl (fun _ => rfl) h9 rfl)) ?_;refine ta (.d (.sl 1 (x8.map aF))) (aB (aC (aA (to (fX 23 1 (.inl rfl) (aE rfl)) ?_))));refine aB (aC (aC (aA (ta (.i 0) (aB (bD ?_))))));refine bP (S := Int × (List Z32) × Value) [1, 2, 3, 7] (fun F => [(8, .d (.lit F.2.2)), (9, .i F.1)]) (fun F => [.box b1 0 (aT c), .arr F.2.2 23 1 (F.2.1.map gV)]) (fun k F => fG (fV kr) g z x8 c k F.1 F.2.1) (fun _ => rfl) (0, ([] : List Z32), (.slice none 0 0)) h (aO [0, 1] rfl rfl (aH rfl (aH rfl (aK (ae rfl))))) ?_;rintro a9 ⟨a, s, E⟩ h;simp only [fG] at h;refine aC (aC (aA (tm (.i a) (tm (.d (.sl 1 (x8.map aF))) (to (sle rfl bC.of) (to (scm rfl rfl rfl) (tm (.b (decide (a < (x8.length : Int)))) ?_)))))));obtain ⟨U, H, h⟩ := bns h;refine aV 5 [1, 2, 3, 7, 8, 9] 34 U ?_ ?_
     ·refine bch H (fun B H => ?_) (fun B H => ?_)
      ·refine tk B (sm (.d (.lit E))) (tk B (iH (m := 1) (aE rfl) rfl rfl aAn.of) ?_);refine tk B (sm (.i z)) (tk B (scm rfl rfl rfl) (to (spt (.b (decide ((s.length : Int) ≤ z))) B) ?_));obtain rfl := sIn H;refine aB (aJ rfl (ae rfl) rfl)
      ·refine tp B (tp B (tp B (tp B (to (spf Z2 B) ?_))));obtain rfl := sIn H;refine aB (aJ rfl (ae rfl) rfl)
     ·refine aB ?_;refine tih h (fun V h => ?_) (fun V h => ?_)
      ·refine aU (aC (bD (aC (aC ?_))));obtain ⟨o, I, h⟩ := bns h;obtain ⟨b0, G, h⟩ := bns h;obtain ⟨W, u, h⟩ := bns h;refine cI mix 31 [1, 2, 3, 7, 8, 9] [(67, .b W)] ?_ ?_
       ·refine bch G (fun e G => ?_) (fun e G => ?_)
        ·obtain ⟨y, N, G⟩ := bns G;obtain rfl := sIn G;refine bch u (fun j u => ?_) (fun j u => ?_)
         ·obtain rfl := sIn u;refine ⟨[(37, 0, .d (.sl 1 (x8.map aF))), (38, 1, .i a), (39, 2, .cp [.j o]), (40, 3, .i o), (41, 4, .b (decide (o = (-1)))), (42, 5, .b (decide (o = (-1)))), (43, 6, .d (.sl 1 (g.map aF))), (44, 7, .i y), (45, 8, .bp b1 0 0), (46, 9, .i c.Size), (47, 10, .bp b1 0 2), (48, 11, .d (.sl 3 (c.Persons.map aR))), (49, 12, .i (c.Persons.length : Int)), (50, 13, .i (w64 (c.Size - (c.Persons.length : Int)))), (51, 14, .b (decide (y = (w64 (c.Size - (c.Persons.length : Int)))))), (52, 15, .b (decide (y = (w64 (c.Size - (c.Persons.length : Int)))))), (53, 16, .b (decide (y = (w64 (c.Size - (c.Persons.length : Int)))))), (54, 17, .tup []), (55, 18, .tup []), (56, 19, .tup []), (57, 20, .tup []), (58, 21, .tup []), (59, 22, .tup []), (60, 23, .tup []), (61, 24, .tup []), (62, 25, .tup []), (63, 26, .tup []), (64, 27, .tup []), (65, 28, .tup []), (66, 29, .tup []), (67, 30, .b true)], ?_, ?_⟩
          · exact dk [0, 0, 102, 3, 4, 5, 6, 607, 6, 609, 6, 611, 612, 61013, 60814, 615, 16, 17, 17, 171819, 1720, 1721, 1722, 23, 23, 23, 232526, 2327, 232428, 172329, 1730] ⟨go (zm (.d (.sl 1 (x8.map aF)))),
 go (zm (.i a)),
 go (zix rfl rfl bC.of (aW aF I)),
 go (zlc rfl aQ),
 go (zcm rfl rfl rfl),
 go (zm (.b (decide (o = (-1))))),
 gt e (zm (.d (.sl 1 (g.map aF)))),
 gt e fun S hS => cT (aE rfl) (.func _ _ call106) (ev2 (aX hS rfl) (ev2 rfl evn)) rfl (BVs.refl _ _) (xT _ _ N) rfl,
 gt e (zf rfl dD),
 gt e (zl 0 rfl rfl rfl aQ),
 gt e (zf rfl dN),
 gt e (zl 0 rfl rfl rfl fC),
 gt e (zle rfl fN.of),
 gt e (zar rfl rfl rfl),
 gt e (zcm rfl rfl rfl),
 go (zpt (.b (decide (y = (w64 (c.Size - (c.Persons.length : Int)))))) e),
 go (zm (.b (decide (y = (w64 (c.Size - (c.Persons.length : Int))))))),
 gp j,
 gp j,
 gp j,
 gp j,
 gp j,
 gp j,
 gq,
 gq,
 gq,
 gq,
 gq,
 gq,
 gp j,
 go (zpt Z14 j), trivial⟩
          · exact bT (aH rfl (aK (ae rfl)))
         ·obtain ⟨q, J, u⟩ := bns u;obtain ⟨Y, t, u⟩ := bns u;refine bch t (fun n t => ?_) (fun n t => ?_)
          ·obtain ⟨K, O, t⟩ := bns t;obtain ⟨C, P, t⟩ := bns t;obtain rfl := sIn t;obtain rfl := sIn u;refine ⟨[(37, 0, .d (.sl 1 (x8.map aF))), (38, 1, .i a), (39, 2, .cp [.j o]), (40, 3, .i o), (41, 4, .b (decide (o = (-1)))), (42, 5, .b (decide (o = (-1)))), (43, 6, .d (.sl 1 (g.map aF))), (44, 7, .i y), (45, 8, .bp b1 0 0), (46, 9, .i c.Size), (47, 10, .bp b1 0 2), (48, 11, .d (.sl 3 (c.Persons.map aR))), (49, 12, .i (c.Persons.length : Int)), (50, 13, .i (w64 (c.Size - (c.Persons.length : Int)))), (51, 14, .b (decide (y = (w64 (c.Size - (c.Persons.length : Int)))))), (52, 15, .b (decide (y = (w64 (c.Size - (c.Persons.length : Int)))))), (53, 16, .b (decide (y = (w64 (c.Size - (c.Persons.length : Int)))))), (54, 17, .d (.sl 1 (x8.map aF))), (55, 18, .i a), (56, 19, .cp [.j q]), (57, 20, .i q), (58, 21, .b (!decide (q = (-1)))), (59, 22, .b (!decide (q = (-1)))), (60, 23, .d (.sl 1 (g.map aF))), (61, 24, .d (.sl 1 (x8.map aF))), (62, 25, .i a), (63, 26, .cp [.j K]), (64, 27, .i K), (65, 28, .b C), (66, 29, .b C), (67, 30, .b (C))], ?_, ?_⟩
           · exact dk [0, 0, 102, 3, 4, 5, 6, 607, 6, 609, 6, 611, 612, 61013, 60814, 615, 16, 17, 17, 171819, 1720, 1721, 1722, 23, 23, 23, 232526, 2327, 232428, 172329, 1730] ⟨go (zm (.d (.sl 1 (x8.map aF)))),
 go (zm (.i a)),
 go (zix rfl rfl bC.of (aW aF I)),
 go (zlc rfl aQ),
 go (zcm rfl rfl rfl),
 go (zm (.b (decide (o = (-1))))),
 gt e (zm (.d (.sl 1 (g.map aF)))),
 gt e fun S hS => cT (aE rfl) (.func _ _ call106) (ev2 (aX hS rfl) (ev2 rfl evn)) rfl (BVs.refl _ _) (xT _ _ N) rfl,
 gt e (zf rfl dD),
 gt e (zl 0 rfl rfl rfl aQ),
 gt e (zf rfl dN),
 gt e (zl 0 rfl rfl rfl fC),
 gt e (zle rfl fN.of),
 gt e (zar rfl rfl rfl),
 gt e (zcm rfl rfl rfl),
 go (zpt (.b (decide (y = (w64 (c.Size - (c.Persons.length : Int)))))) e),
 go (zm (.b (decide (y = (w64 (c.Size - (c.Persons.length : Int))))))),
 gt j (zm (.d (.sl 1 (x8.map aF)))),
 gt j (zm (.i a)),
 gt j (zix rfl rfl bC.of (aW aF J)),
 gt j (zlc rfl aQ),
 gt j (zcm rfl rfl rfl),
 gt j (zm (.b (!decide (q = (-1))))),
 gt n (zm (.d (.sl 1 (g.map aF)))),
 gt n (zm (.d (.sl 1 (x8.map aF)))),
 gt n (zm (.i a)),
 gt n (zix rfl rfl bC.of (aW aF O)),
 gt n (zlc rfl aQ),
 gt n fun S hS => cT (aE rfl) (.func _ _ call107) (ev2 (aX hS rfl) (ev2 (aX hS rfl) evn)) rfl (BVs.refl _ _) (zQ _ _ P) rfl,
 gt j (zpt (.b C) n),
 go (zpf (.b (C)) j), trivial⟩
           · exact bT (aH rfl (aK (ae rfl)))
          ·obtain rfl := sIn t;obtain rfl := sIn u;refine ⟨[(37, 0, .d (.sl 1 (x8.map aF))), (38, 1, .i a), (39, 2, .cp [.j o]), (40, 3, .i o), (41, 4, .b (decide (o = (-1)))), (42, 5, .b (decide (o = (-1)))), (43, 6, .d (.sl 1 (g.map aF))), (44, 7, .i y), (45, 8, .bp b1 0 0), (46, 9, .i c.Size), (47, 10, .bp b1 0 2), (48, 11, .d (.sl 3 (c.Persons.map aR))), (49, 12, .i (c.Persons.length : Int)), (50, 13, .i (w64 (c.Size - (c.Persons.length : Int)))), (51, 14, .b (decide (y = (w64 (c.Size - (c.Persons.length : Int)))))), (52, 15, .b (decide (y = (w64 (c.Size - (c.Persons.length : Int)))))), (53, 16, .b (decide (y = (w64 (c.Size - (c.Persons.length : Int)))))), (54, 17, .d (.sl 1 (x8.map aF))), (55, 18, .i a), (56, 19, .cp [.j q]), (57, 20, .i q), (58, 21, .b (!decide (q = (-1)))), (59, 22, .b (!decide (q = (-1)))), (60, 23, .tup []), (61, 24, .tup []), (62, 25, .tup []), (63, 26, .tup []), (64, 27, .tup []), (65, 28, .tup []), (66, 29, .b false), (67, 30, .b (false))], ?_, ?_⟩
           · exact dk [0, 0, 102, 3, 4, 5, 6, 607, 6, 609, 6, 611, 612, 61013, 60814, 615, 16, 17, 17, 171819, 1720, 1721, 1722, 23, 23, 23, 232526, 2327, 232428, 172329, 1730] ⟨go (zm (.d (.sl 1 (x8.map aF)))),
 go (zm (.i a)),
 go (zix rfl rfl bC.of (aW aF I)),
 go (zlc rfl aQ),
 go (zcm rfl rfl rfl),
 go (zm (.b (decide (o = (-1))))),
 gt e (zm (.d (.sl 1 (g.map aF)))),
 gt e fun S hS => cT (aE rfl) (.func _ _ call106) (ev2 (aX hS rfl) (ev2 rfl evn)) rfl (BVs.refl _ _) (xT _ _ N) rfl,
 gt e (zf rfl dD),
 gt e (zl 0 rfl rfl rfl aQ),
 gt e (zf rfl dN),
 gt e (zl 0 rfl rfl rfl fC),
 gt e (zle rfl fN.of),
 gt e (zar rfl rfl rfl),
 gt e (zcm rfl rfl rfl),
 go (zpt (.b (decide (y = (w64 (c.Size - (c.Persons.length : Int)))))) e),
 go (zm (.b (decide (y = (w64 (c.Size - (c.Persons.length : Int))))))),
 gt j (zm (.d (.sl 1 (x8.map aF)))),
 gt j (zm (.i a)),
 gt j (zix rfl rfl bC.of (aW aF J)),
 gt j (zlc rfl aQ),
 gt j (zcm rfl rfl rfl),
 gt j (zm (.b (!decide (q = (-1))))),
 gp n,
 gp n,
 gp n,
 gp n,
 gp n,
 gp n,
 gt j (zpf Z2 n),
 go (zpf Z43 j), trivial⟩
           · exact bT (aH rfl (aK (ae rfl)))
        ·obtain rfl := sIn G;have j : false = false := rfl;have u := aDv j u;obtain ⟨q, J, u⟩ := bns u;obtain ⟨Y, t, u⟩ := bns u;refine bch t (fun n t => ?_) (fun n t => ?_)
         ·obtain ⟨K, O, t⟩ := bns t;obtain ⟨C, P, t⟩ := bns t;obtain rfl := sIn t;obtain rfl := sIn u;refine ⟨[(37, 0, .d (.sl 1 (x8.map aF))), (38, 1, .i a), (39, 2, .cp [.j o]), (40, 3, .i o), (41, 4, .b (decide (o = (-1)))), (42, 5, .b (decide (o = (-1)))), (43, 6, .tup []), (44, 7, .tup []), (45, 8, .tup []), (46, 9, .tup []), (47, 10, .tup []), (48, 11, .tup []), (49, 12, .tup []), (50, 13, .tup []), (51, 14, .tup []), (52, 15, .b false), (53, 16, .b (false)), (54, 17, .d (.sl 1 (x8.map aF))), (55, 18, .i a), (56, 19, .cp [.j q]), (57, 20, .i q), (58, 21, .b (!decide (q = (-1)))), (59, 22, .b (!decide (q = (-1)))), (60, 23, .d (.sl 1 (g.map aF))), (61, 24, .d (.sl 1 (x8.map aF))), (62, 25, .i a), (63, 26, .cp [.j K]), (64, 27, .i K), (65, 28, .b C), (66, 29, .b C), (67, 30, .b (C))], ?_, ?_⟩
          · exact dk [0, 0, 102, 3, 4, 5, 6, 607, 6, 609, 6, 611, 612, 61013, 60814, 615, 16, 17, 17, 171819, 1720, 1721, 1722, 23, 23, 23, 232526, 2327, 232428, 172329, 1730] ⟨go (zm (.d (.sl 1 (x8.map aF)))),
 go (zm (.i a)),
 go (zix rfl rfl bC.of (aW aF I)),
 go (zlc rfl aQ),
 go (zcm rfl rfl rfl),
 go (zm (.b (decide (o = (-1))))),
 gp e,
 gp e,
 gp e,
 gp e,
 gp e,
 gp e,
 gp e,
 gp e,
 gp e,
 go (zpf Z2 e),
 go (zm Z43),
 gt j (zm (.d (.sl 1 (x8.map aF)))),
 gt j (zm (.i a)),
 gt j (zix rfl rfl bC.of (aW aF J)),
 gt j (zlc rfl aQ),
 gt j (zcm rfl rfl rfl),
 gt j (zm (.b (!decide (q = (-1))))),
 gt n (zm (.d (.sl 1 (g.map aF)))),
 gt n (zm (.d (.sl 1 (x8.map aF)))),
 gt n (zm (.i a)),
 gt n (zix rfl rfl bC.of (aW aF O)),
 gt n (zlc rfl aQ),
 gt n fun S hS => cT (aE rfl) (.func _ _ call107) (ev2 (aX hS rfl) (ev2 (aX hS rfl) evn)) rfl (BVs.refl _ _) (zQ _ _ P) rfl,
 gt j (zpt (.b C) n),
 go (zpf (.b (C)) j), trivial⟩
          · exact bT (aH rfl (aK (ae rfl)))
         ·obtain rfl := sIn t;obtain rfl := sIn u;refine ⟨[(37, 0, .d (.sl 1 (x8.map aF))), (38, 1, .i a), (39, 2, .cp [.j o]), (40, 3, .i o), (41, 4, .b (decide (o = (-1)))), (42, 5, .b (decide (o = (-1)))), (43, 6, .tup []), (44, 7, .tup []), (45, 8, .tup []), (46, 9, .tup []), (47, 10, .tup []), (48, 11, .tup []), (49, 12, .tup []), (50, 13, .tup []), (51, 14, .tup []), (52, 15, .b false), (53, 16, .b (false)), (54, 17, .d (.sl 1 (x8.map aF))), (55, 18, .i a), (56, 19, .cp [.j q]), (57, 20, .i q), (58, 21, .b (!decide (q = (-1)))), (59, 22, .b (!decide (q = (-1)))), (60, 23, .tup []), (61, 24, .tup []), (62, 25, .tup []), (63, 26, .tup []), (64, 27, .tup []), (65, 28, .tup []), (66, 29, .b false), (67, 30, .b (false))], ?_, ?_⟩
          · exact dk [0, 0, 102, 3, 4, 5, 6, 607, 6, 609, 6, 611, 612, 61013, 60814, 615, 16, 17, 17, 171819, 1720, 1721, 1722, 23, 23, 23, 232526, 2327, 232428, 172329, 1730] ⟨go (zm (.d (.sl 1 (x8.map aF)))),
 go (zm (.i a)),
 go (zix rfl rfl bC.of (aW aF I)),
 go (zlc rfl aQ),
 go (zcm rfl rfl rfl),
 go (zm (.b (decide (o = (-1))))),
 gp e,
 gp e,
 gp e,
 gp e,
 gp e,
 gp e,
 gp e,
 gp e,
 gp e,
 go (zpf Z2 e),
 go (zm Z43),
 gt j (zm (.d (.sl 1 (x8.map aF)))),
 gt j (zm (.i a)),
 gt j (zix rfl rfl bC.of (aW aF J)),
 gt j (zlc rfl aQ),
 gt j (zcm rfl rfl rfl),
 gt j (zm (.b (!decide (q = (-1))))),
 gp n,
 gp n,
 gp n,
 gp n,
 gp n,
 gp n,
 gt j (zpf Z2 n),
 go (zpf Z43 j), trivial⟩
          · exact bT (aH rfl (aK (ae rfl)))
       ·refine aB ?_;refine tih h (fun Z h => ?_) (fun Z h => ?_)
        ·refine bO ?_;refine .inl ⟨rfl, ?_⟩;refine aA (tm (.i a) (to (sar rfl rfl rfl) (ta (.i (w64 (a + 1))) (aB ?_))));exact ⟨(w64 (a + 1), s, E), h, aO [0, 1] rfl rfl (aH rfl (aH rfl (aK (ae rfl))))⟩
        ·refine aU (aC ?_);obtain ⟨Q, a0, h⟩ := bns h;obtain ⟨L, a1, h⟩ := bns h;refine iE mix 8 [1, 2, 3, 7, 8, 9] (fun A => [(70, .d (.lit (A 2).v)), (75, .d (.sl 1 (([L]).map aF)))]) (fun A => [.box b1 0 (aT c), .arr E 23 1 (s.map gV), .arr (A 2).v 3 1 (Q.map aF)]) ?_ ?_
         ·refine ⟨1, fun A => [(68, 0, .d (.lit (A 0).v)), (69, 1, .d (.sl 1 (g.map aF))), (70, 2, .d (.lit (A 2).v)), (71, 3, .d (.sl 1 (x8.map aF))), (72, 4, .i a), (73, 5, .cp [.j L]), (74, 6, .i L), (75, 7, .d (.sl 1 (([L]).map aF)))], fun A => [([], .box b1 0 (aT c)), ([], .arr E 23 1 (s.map gV)), ([(2, .arr (A 2).v 3 1 (Q.map aF)), (0, .arr (A 0).v 3 1 Z20)], nob)], ?_, ?_⟩
          · exact xok [(0, 3), (0, 3), (102, 0), (0, 0), (0, 0), (405, 0), (6, 0), (7, 0)] ⟨fun A S hw hi hS => uH (X := A) (p := 2) (v := fun x => .d (.lit x.v)) (mo := fun x => .arr x.v 3 1 Z20) hS hi rfl rfl (fun _ => rfl) hw (fun _ => rfl) (fun _ => rfl) (fun _ => rfl) (fun _ => ⟨rfl, rfl, .inl rfl, ⟨rfl, rfl, .inr rfl, ⟨rfl, rfl, .inr rfl, ⟨rfl, rfl, .inr rfl, ⟨rfl, rfl, .inr rfl, ⟨rfl, rfl, .inr rfl, ⟨rfl, rfl, .inr rfl, ⟨rfl, rfl, .inr rfl, trivial⟩⟩⟩⟩⟩⟩⟩⟩) (fun _ => ⟨trivial, rfl, ⟨trivial, rfl, ⟨⟨rfl, .inr rfl, ⟨rfl, .inl rfl, trivial⟩⟩, rfl, trivial⟩⟩⟩) (kQ (zM (aE rfl) bC rfl pan (rows := (([] : List Int)).map aF) rfl (bY (f := aF) fun _ => rfl) rfl (by decide)) (by rintro _ ⟨w, rfl⟩; exact ⟨⟨0, w⟩, aO [0, 1, 3] rfl rfl (le_refl _)⟩)),
 fun _ _ w _ k => xp w (ym k (.d (.sl 1 (g.map aF)))),
 fun A S hw hi hS => uH (X := A) (p := 2) (v := fun x => .d (.lit x.v)) (mo := fun x => .arr x.v 3 1 (Q.map aF)) hS hi rfl rfl (fun _ => rfl) hw (fun _ => rfl) (fun _ => rfl) (fun _ => rfl) (fun _ => ⟨rfl, rfl, .inr rfl, ⟨rfl, rfl, .inr rfl, ⟨rfl, rfl, .inl rfl, ⟨rfl, rfl, .inr rfl, ⟨rfl, rfl, .inr rfl, ⟨rfl, rfl, .inr rfl, ⟨rfl, rfl, .inr rfl, ⟨rfl, rfl, .inr rfl, trivial⟩⟩⟩⟩⟩⟩⟩⟩) (fun _ => ⟨trivial, rfl, ⟨trivial, rfl, ⟨⟨rfl, .inl rfl, ⟨rfl, .inr rfl, trivial⟩⟩, rfl, trivial⟩⟩⟩) (kQ (dL (i := 2) (aE rfl) bC (aX hS rfl) (og hS rfl rfl) (aX hS rfl) (fun _ => rfl) a0 rfl) (by rintro _ ⟨w, rfl⟩; exact ⟨⟨0, w⟩, Ent.refl _⟩)),
 fun _ _ w _ k => xp w (ym k (.d (.sl 1 (x8.map aF)))),
 fun _ _ w _ k => xp w (ym k (.i a)),
 fun _ _ w _ k => xp w (yix k rfl rfl bC.of (aW aF a1)),
 fun _ _ w _ k => xp w (ylc k rfl aQ),
 fun _ _ w _ k => xp w (dE (aE rfl) bC rfl (pa2 (aX k rfl) pan) (rows := ([L]).map aF) rfl (bY (f := aF) fun _ => rfl) rfl (by decide)), trivial⟩
          · exact fun A => bT (aH rfl (aH rfl (aK (ae rfl))))
         ·intro A;obtain ⟨M, a2, h⟩ := bns h;refine bG rfl (dL (i := 2) (aE rfl) bC rfl rfl rfl (fun _ => rfl) a2 rfl) ?_;rintro _ ⟨a3, rfl⟩;refine gY (aMc [.box b1 0 (aT c), .arr E 23 1 (s.map gV)] [.arr a3 3 1 (M.map aF)] rfl (bAg (v' := .d (.sl 1 (M.map aF))) (.d (aXo (bY (f := aF) fun _ => rfl))) (aAx _ _))) ?_;refine ta (.d (.sl 1 (M.map aF))) (aB (aC (aA (to (sla 0 (aT c) rfl rfl eT) (tm (.d (.sl 1 (M.map aF))) ?_)))));obtain ⟨b2, a4, h⟩ := bns h;refine to (scr call108 (aMv _ _ a4)) (aB ?_);refine tih h (fun a5 h => ?_) (fun a5 h => ?_)
          ·refine aA (tm (.d (.lit E)) (to (sla 0 (aT c) rfl rfl eT) (tm (.d (.sl 1 (M.map aF))) (tm (.i z) (tm (.d (.lit E)) (to (iH (m := 1) (aE rfl) rfl rfl aAn.of) ?_))))));refine to (sar rfl rfl rfl) ?_;obtain ⟨b3, a6, h⟩ := bns h;refine to (eO (aE rfl) (.func _ _ call45) rfl rfl (ih _ _ _ a6)) ?_;obtain ⟨a7, a8, h⟩ := bns h;refine bG rfl (dL (i := 1) (aE rfl) aAn rfl rfl rfl (fun _ => rfl) a8 rfl) ?_;rintro _ ⟨T, rfl⟩;refine ta (.d (.lit T)) ?_;refine cN ?_;refine aA (tm (.i a) (to (sar rfl rfl rfl) (ta (.i (w64 (a + 1))) (aB ?_))));exact ⟨(w64 (a + 1), a7, T), h, aO [0, 1] rfl rfl (aH rfl (aH rfl (aK (ae rfl))))⟩
          ·refine cA ?_;refine aA (tm (.i a) (to (sar rfl rfl rfl) (ta (.i (w64 (a + 1))) (aB ?_))));exact ⟨(w64 (a + 1), s, E), h, aO [0, 1] rfl rfl (aH rfl (aH rfl (aK (ae rfl))))⟩
      ·refine bO ?_;refine .inl ⟨rfl, ?_⟩;simp only [zR] at h;refine aC (aA (tm (.d (.lit E)) (ta (.d (.lit E)) (aB ?_))));obtain rfl := sIn h;refine bK (bE (pQ (k := 6) (v := .d (.sl 1 (s.map gV))) (.d (gZ 1 rfl (bY (f := gV) fun _ => rfl))) (aDu))) ?_;exact rt
theorem aJx (c : bA) (a : List Int) (b : Int) {r : (List (List Int))} (h : xS c a b = some r) : Fn Tryz.prog 45 [.agg (aT c), .d (Z8 a), .i b] (.d (.sl 1 (r.map gV))) := aIa BIG _ _ _ h

theorem aNy (e : bA) {r : Bool} (h : tQ e = some r) : Fn Tryz.prog 8 [.agg (aT e)] (.b r) := by
 unfold tQ at h;refine oT [.tmp 2] func8 results8 ntmps8 ?_;refine aC (aA ?_);refine bG rfl (cV (v := .agg (aT e)) (aE rfl) rfl rfl rfl) ?_;rintro _ ⟨b1, rfl⟩;refine ta Z2 (aB (aC (aA (tfl 0 rfl rfl dN rfl fC (to (sle rfl fN.of) (to (scm rfl rfl rfl) (tm (.b (decide (40 < (e.Persons.length : Int)))) ?_)))))));obtain ⟨b2, h3, h⟩ := bns h;refine aV 5 [1] 12 b2 ?_ ?_
 ·refine bch h3 (fun c h3 => ?_) (fun c h3 => ?_)
  ·refine tp c (tp c (tp c (tp c (to (spt Z14 c) ?_))));obtain rfl := sIn h3;refine aB (aJ rfl (ae rfl) rfl)
  ·refine tkl 0 c rfl rfl aBd rfl cC (tk c (sle rfl bC.of) (tk c (scm rfl rfl rfl) (to (spf (.b (decide (40 < (e.Lots.length : Int)))) c) ?_)));obtain rfl := sIn h3;refine aB (aJ rfl (ae rfl) rfl)
 ·refine tm (.b b2) ?_;obtain ⟨b4, h5, h⟩ := bns h;refine aV 10 [] 23 b4 ?_ ?_
  ·refine bch h5 (fun c6 h5 => ?_) (fun c6 h5 => ?_)
   ·refine tp c6 (tp c6 (tp c6 (tp c6 (tq (tq (tq (tq (tp c6 (to (spt Z14 c6) ?_)))))))));obtain rfl := sIn h5;refine aB (aJ rfl trivial rfl)
   ·refine tk c6 (sla 0 (aT e) rfl rfl eT) ?_;obtain ⟨r7, h8, h5⟩ := bns h5;refine tk c6 (scr call9 (aBw _ h8)) (tk c6 (scm rfl rfl rfl) (tk c6 (sm (.b (decide (r7 = 0)))) ?_));obtain ⟨b9, f, h5⟩ := bns h5;refine aV 5 [13] 22 b9 ?_ ?_
    ·refine bch f (fun a f => ?_) (fun a f => ?_)
     ·refine tk a (sla 0 (aT e) rfl rfl eT) ?_;obtain ⟨g, i, f⟩ := bns f;refine tk a (aVm (aE rfl) (.func _ _ call45) rfl rfl (.cons (.same _) (.cons (.d (.nil 1)) (.cons (.same _) .nil))) (aJx _ _ _ i)) ?_;refine tk a (sle rfl aAn.of) (tk a (scm rfl rfl rfl) (tk c6 (spt (.b (decide (300 < (g.length : Int)))) a) ?_));obtain rfl := sIn f;refine aB (aJ rfl (ae rfl) rfl)
     ·refine tp a (tp a (tp a (tp a (tk c6 (spf Z2 a) ?_))));obtain rfl := sIn f;refine aB (aJ rfl (ae rfl) rfl)
    ·refine to (spf (.b b9) c6) ?_;obtain rfl := sIn h5;refine aB (aJ rfl trivial rfl)
  ·refine ta (.b b4) (aB ?_);obtain rfl := sIn h;refine bK (bE (bH (l := [2]) (ae rfl))) ?_;exact rt

theorem aHy {r : bA × bA} (h : sH = some r) : Fn Tryz.prog 47 [] (.tup [.agg (aT r.1), .agg (aT r.2)]) := by
 unfold sH at h;refine kR func47 rfl (rs := [.cell 0 25, .cell 1 25]) results47 ntmps47 (Nat.le_of_ble_eq_true rfl) ?_;refine aC (aA ?_);refine bG rfl (cJ (zs := [.j 0, .j 0, .sl 3 Z34, .sl 1 Z6]) (aE rfl) zeroValue25 rfl rfl) ?_;rintro _ ⟨b1, rfl⟩;refine bG rfl (cJ (zs := [.j 0, .j 0, .sl 3 Z34, .sl 1 Z6]) (aE rfl) zeroValue25 rfl rfl) ?_;rintro _ ⟨b2, rfl⟩;refine aB (aC (aA (to (cZ (aE rfl) aFc (zs := [.j 0, .j 0, .k false]) rfl rfl rfl rfl (es := [.j 10, .j 1, .k false]) rfl) ?_)));refine to (cZ (aE rfl) aFc (zs := [.j 0, .j 0, .k false]) rfl rfl rfl rfl (es := [.j 20, .j 2, .k false]) rfl) ?_;refine to (cZ (aE rfl) aFc (zs := [.j 0, .j 0, .k false]) rfl rfl rfl rfl (es := [.j 30, .j 1, .k false]) rfl) ?_;refine to (dE (aE rfl) fN rfl rfl (rows := Z55.map aR) rfl (bY (f := aR) fun _ => rfl) rfl (by decide)) ?_;refine to (dE (aE rfl) bC rfl rfl (rows := ([5, 4]).map aF) rfl (bY (f := aF) fun _ => rfl) rfl (by decide)) ?_;refine to (cZ (aE rfl) bCg (zs := [.j 0, .j 0, .sl 3 Z34, .sl 1 Z6]) rfl rfl rfl rfl (es := [.j 4, .j 1, .sl 3 ((Z55).map aR), .sl 1 ((([5, 4])).map aF)]) rfl) ?_;refine to (sst 0 rfl rfl sizeOf25 Z7) (aB (aC (aA (to (cZ (aE rfl) aFc (zs := [.j 0, .j 0, .k false]) rfl rfl rfl rfl (es := [.j 1, .j 1, .k false]) rfl) ?_))));refine to (cZ (aE rfl) aFc (zs := [.j 0, .j 0, .k false]) rfl rfl rfl rfl (es := [.j 2, .j 1, .k false]) rfl) ?_;refine to (cZ (aE rfl) aFc (zs := [.j 0, .j 0, .k false]) rfl rfl rfl rfl (es := [.j 3, .j 2, .k false]) rfl) ?_;refine to (cZ (aE rfl) aFc (zs := [.j 0, .j 0, .k false]) rfl rfl rfl rfl (es := [.j 4, .j 0, .k false]) rfl) ?_;refine to (dE (aE rfl) fN rfl rfl (rows := Z48.map aR) rfl (bY (f := aR) fun _ => rfl) rfl (by decide)) ?_;refine to (cZ (aE rfl) bCg (zs := [.j 0, .j 0, .sl 3 Z34, .sl 1 Z6]) rfl rfl rfl rfl (es := [.j 4, .j 0, .sl 3 ((Z48).map aR), .sl 1 Z6]) rfl) ?_;refine to (sst 1 rfl rfl sizeOf25 Z3) (aB (aC ?_));refine iE mix 3 [0, 1] (fun X3 => [(15, .agg Z3)]) (fun X3 => [.box b1 0 Z7, .box b2 0 Z3]) ?_ ?_
 ·refine ⟨0, fun X3 => [(14, 0, .agg Z7), (15, 1, .agg Z3)], fun X3 => [([(2, .box b1 0 Z7)], .box b1 0 Z7), ([], .box b2 0 Z3)], ?_, ?_⟩
  · exact xok [(0, 3), (0, 0), (1, 0)] ⟨fun _ _ w _ k => xp w (yla k 0 Z7 rfl (og k rfl rfl) eT),
 fun _ _ w _ k => xp w (yla k 1 Z3 rfl (og k rfl rfl) eT),
 fun _ _ _ _ k => xs 0 k rfl rfl (sW (i := 0) (aX k rfl) (og k rfl rfl) (aX k rfl) rfl rfl sizeOf25 rfl (aE rfl) (Nat.le_of_ble_eq_true rfl) (ds' := Z7) rfl), trivial⟩
  · exact fun X3 => bT (aH rfl (aK (ae rfl)))
 ·intro X3;refine to (sst 1 rfl rfl sizeOf25 Z3) (aB ?_);obtain rfl := sIn h;exact cD ⟨rfl, _, [.box b1 0 Z7, .box b2 0 Z3], .two (.cell 0 25 rfl (i := 0) rfl eT (es := Z7) rfl rfl) (.cell 1 25 rfl (i := 1) rfl eT (es := Z3) rfl rfl), .refl _, .same _⟩

theorem tX (d : Int) (c : Int) (a : Int) {r : Bool} (h : kL d c a = some r) : Fn Tryz.prog 92 [.i d, .i c, .i a] (.b r) := by
 unfold kL at h;refine oT [.tmp 6] func92 results92 ntmps92 ?_;refine aC (aA (ta Z2 (aB (aC (aA (tm (.i c) (tm (.i d) (to (scm rfl rfl rfl) (tm (Z35 c d) ?_)))))))));obtain ⟨b1, h2, h⟩ := bns h;refine aV 4 [] 14 b1 ?_ ?_
 ·refine bch h2 (fun c3 h2 => ?_) (fun c3 h2 => ?_)
  ·refine tk c3 (sm (.i d)) (tk c3 (sm (.i a)) (tk c3 (scm rfl rfl rfl) (to (spt (Z35 d a) c3) ?_)));obtain rfl := sIn h2;refine aB (aJ rfl trivial rfl)
  ·refine tp c3 (tp c3 (tp c3 (to (spf Z2 c3) ?_)));obtain rfl := sIn h2;refine aB (aJ rfl trivial rfl)
 ·refine ta (.b b1) (aB ?_);obtain rfl := sIn h;exact rt

theorem aAr (e : List aZ) (g : aZ → Option Bool) {r : Int} (c : Nat) (f : List AV) (j : ∀ args w, (callFunc c args).run Tryz.prog w = .ok (.enter c args) w) (l : ∀ (x0 : aZ) r, g x0 = some r → Fn Tryz.prog c ([.agg (aR x0)] ++ f) (.b r)) (h : jA e g = some r) : Fn Tryz.prog 199 [.d (.sl 3 (e.map aR)), .fn c f] (.i r) := by
 unfold jA at h;refine oT [.tmp 4] func199 results199 ntmps199 ?_;refine aC (aA (ta (.i 0) (aB (aC (aC (aA (tm (.d (.sl 3 (e.map aR))) (to (sle rfl fN.of) (tm (.i 0) (aB (bD ?_)))))))))));refine bP (S := Int) [0, 1, 7] (fun s1 => [(8, .i s1)]) (fun s1 => []) (fun k s1 => eD e g (e.length : Int) k s1) (fun _ => rfl) (0) h (aO [] rfl rfl (aH rfl (aK (ae rfl)))) ?_;rintro k2 a h;simp only [eD] at h;refine aC (aA (to (scm rfl rfl rfl) (aB (aC ?_))));refine tih h (fun c3 h => ?_) (fun c3 h => ?_)
 ·refine aU (aC (bD (aC (aA (tm (.i a) (ta (.i a) (aB (aC (aA (tm (.fn c f) (tm (.d (.sl 3 (e.map aR))) (tm (.i a) ?_))))))))))));obtain ⟨x4, h5, h⟩ := bns h;refine to (six rfl rfl fN.of (aW aR h5)) (to (tG (aR x4) rfl aEa) ?_);obtain ⟨r6, h7, h⟩ := bns h;refine to (cT (aE rfl) (.clo _ _ _ _ j rfl) (wT rfl) rfl (BVs.refl _ _) (l _ _  h7) rfl) ?_;refine aB ?_;refine tih h (fun c8 h => ?_) (fun c8 h => ?_)
  ·refine aC (aA (tm (.i a) (ta (.i a) (aB ?_))));obtain rfl := sIn h;exact rt
  ·refine cA ?_;refine aA (to (sar rfl rfl rfl) (tm (.i (w64 (a + 1))) (aB ?_)));exact ⟨(w64 (a + 1)), h, aO [] rfl rfl (aH rfl (aK (ae rfl)))⟩
 ·refine bO ?_;refine .inl ⟨rfl, ?_⟩;simp only [mW] at h;refine aC (aA (ta (.i (-1)) (aB ?_)));obtain rfl := sIn h;exact rt

theorem zC (e : List aZ) (i : aZ → Option Bool) {r : Bool} (a : Nat) (c : List AV) (f : ∀ args w, (callFunc a args).run Tryz.prog w = .ok (.enter a args) w) (g : ∀ (x0 : aZ) r, i x0 = some r → Fn Tryz.prog a ([.agg (aR x0)] ++ c) (.b r)) (h : gK e i = some r) : Fn Tryz.prog 148 [.d (.sl 3 (e.map aR)), .fn a c] (.b r) := by
 unfold gK at h;refine oT [.tmp 4] func148 results148 ntmps148 ?_;refine aC (aA (ta Z2 (aB (aC (aA (tm (.d (.sl 3 (e.map aR))) (tm (.fn a c) ?_)))))));obtain ⟨r1, h2, h⟩ := bns h;refine to (scr call199 (aAr _ _ a c f g h2)) (to (scm rfl rfl rfl) (ta (.b (decide (0 ≤ r1))) (aB ?_)));obtain rfl := sIn h;exact rt

theorem aPd (a : aZ) (c : aZ) {r : Bool} (h : yN a c = some r) : Fn Tryz.prog 149 [.agg (aR a), .cp (aR c)] (.b r) := by
 unfold yN at h;refine oT [.tmp 3] func149 results149 ntmps149 ?_;refine aC (aA ?_);refine bG rfl (cV (v := .agg (aR a)) (aE rfl) rfl rfl rfl) ?_;rintro _ ⟨b1, rfl⟩;refine ta Z2 (aB (aC (aA (tfl 0 rfl rfl kZ rfl aQ (to (sfc [.j c.Player] rfl kZ) (to (slc rfl aQ) (to (scm rfl rfl rfl) (ta (.b (decide (a.Player = c.Player))) (aB ?_)))))))));obtain rfl := sIn h;refine bK (bE (bH (l := [3]) (ae rfl))) ?_;exact rt

theorem aGq (e : List Int) (g : Int → Option Bool) {r : Int} (c : Nat) (f : List AV) (j : ∀ args w, (callFunc c args).run Tryz.prog w = .ok (.enter c args) w) (l : ∀ (x0 : Int) r, g x0 = some r → Fn Tryz.prog c ([.i x0] ++ f) (.b r)) (h : mX e g = some r) : Fn Tryz.prog 182 [.d (Z8 e), .fn c f] (.i r) := by
 unfold mX at h;refine oT [.tmp 4] func182 results182 ntmps182 ?_;refine aC (aA (ta (.i 0) (aB (aC (aC (aA (tm (Z40 e) (to (sle rfl bC.of) (tm (.i 0) (aB (bD ?_)))))))))));refine bP (S := Int) [0, 1, 7] (fun s1 => [(8, .i s1)]) (fun s1 => []) (fun k s1 => gB e g (e.length : Int) k s1) (fun _ => rfl) (0) h (aO [] rfl rfl (aH rfl (aK (ae rfl)))) ?_;rintro k2 a h;simp only [gB] at h;refine aC (aA (to (scm rfl rfl rfl) (aB (aC ?_))));refine tih h (fun c3 h => ?_) (fun c3 h => ?_)
 ·refine aU (aC (bD (aC (aA (tm (.i a) (ta (.i a) (aB (aC (aA (tm (.fn c f) (tm (Z40 e) (tm (.i a) ?_))))))))))));obtain ⟨x4, h5, h⟩ := bns h;refine to (six rfl rfl bC.of (aW aF h5)) (to (slc rfl aQ) ?_);obtain ⟨r6, h7, h⟩ := bns h;refine to (cT (aE rfl) (.clo _ _ _ _ j rfl) (wT rfl) rfl (BVs.refl _ _) (l _ _  h7) rfl) ?_;refine aB ?_;refine tih h (fun c8 h => ?_) (fun c8 h => ?_)
  ·refine aC (aA (tm (.i a) (ta (.i a) (aB ?_))));obtain rfl := sIn h;exact rt
  ·refine cA ?_;refine aA (to (sar rfl rfl rfl) (tm (.i (w64 (a + 1))) (aB ?_)));exact ⟨(w64 (a + 1)), h, aO [] rfl rfl (aH rfl (aK (ae rfl)))⟩
 ·refine bO ?_;refine .inl ⟨rfl, ?_⟩;simp only [rZ] at h;refine aC (aA (ta (.i (-1)) (aB ?_)));obtain rfl := sIn h;exact rt

theorem aDo (e : List Int) (j : Int → Option Bool) {r : Bool} (a : Nat) (c : List AV) (f : ∀ args w, (callFunc a args).run Tryz.prog w = .ok (.enter a args) w) (g : ∀ (x0 : Int) r, j x0 = some r → Fn Tryz.prog a ([.i x0] ++ c) (.b r)) (h : kW e j = some r) : Fn Tryz.prog 130 [.d (Z8 e), .fn a c] (.b r) := by
 unfold kW at h;refine oT [.tmp 4] func130 results130 ntmps130 ?_;refine aC (aA (ta Z2 (aB (aC (aA (tm (Z40 e) (tm (.fn a c) ?_)))))));obtain ⟨r1, h2, h⟩ := bns h;refine to (scr call182 (aGq _ _ a c f g h2)) (to (scm rfl rfl rfl) (ta (.b (decide (0 ≤ r1))) (aB ?_)));obtain rfl := sIn h;exact rt

theorem aPe (a : Int) {r : Bool} (h : yO a = some r) : Fn Tryz.prog 150 [.i a] (.b r) := by
 unfold yO at h;refine oT [.tmp 2] func150 results150 ntmps150 ?_;refine aC (aA (ta Z2 (aB (aC (aA (tm (.i a) ?_))))));obtain ⟨r1, h2, h⟩ := bns h;refine to (scr call92 (tX _ _ _ h2)) (to (sn rfl) (ta (.b (!r1)) (aB ?_)));obtain rfl := sIn h;exact rt

theorem aTd (d : bA) {r : Int} (h : tC d = some r) : Fn Tryz.prog 95 [.agg (aT d)] (.i r) := by
 unfold tC at h;refine oT [.tmp 2] func95 results95 ntmps95 ?_;refine aC (aA ?_);refine bG rfl (cV (v := .agg (aT d)) (aE rfl) rfl rfl rfl) ?_;rintro _ ⟨b1, rfl⟩;refine ta (.i 0) (aB (aC (aA (tfl 0 rfl rfl dN rfl fC (to (sle rfl fN.of) (ta (Z21 d) (aB (aC (aC (aA (tfl 0 rfl rfl dD rfl aQ ?_)))))))))));refine to (scm rfl rfl rfl) (tm (.b (!decide (d.Size = 4))) ?_);obtain ⟨b2, h3, h⟩ := bns h;refine aV 4 [1, 3] 17 b2 ?_ ?_
 ·refine bch h3 (fun o h3 => ?_) (fun o h3 => ?_)
  ·refine tkl 0 o rfl rfl dD rfl aQ (tk o (scm rfl rfl rfl) (to (spt (.b (!decide (d.Size = 8))) o) ?_));obtain rfl := sIn h3;refine aB (aJ rfl (ae rfl) rfl)
  ·refine tp o (tp o (tp o (to (spf Z2 o) ?_)));obtain rfl := sIn h3;refine aB (aJ rfl (ae rfl) rfl)
 ·refine tm (.b b2) ?_;obtain ⟨b4, h5, h⟩ := bns h;refine aV 6 [1, 3] 24 b4 ?_ ?_
  ·refine bch h5 (fun g h5 => ?_) (fun g h5 => ?_)
   ·refine tp g (tp g (tp g (tp g (tp g (to (spt Z14 g) ?_)))));obtain rfl := sIn h5;refine aB (aJ rfl (ae rfl) rfl)
   ·refine tk g (sm (Z21 d)) (tkl 0 g rfl rfl dD rfl aQ ?_);obtain ⟨E, F, h5⟩ := bns h5;refine tk g (scr call92 (tX _ _ _ F)) (tk g (sn rfl) (to (spf (.b (!E)) g) ?_));obtain rfl := sIn h5;refine aB (aJ rfl (ae rfl) rfl)
  ·refine tm (.b b4) ?_;obtain ⟨b6, h7, h⟩ := bns h;refine aV 9 [1, 3] 34 b6 ?_ ?_
   ·refine bch h7 (fun e h7 => ?_) (fun e h7 => ?_)
    ·refine tp e (tp e (tp e (tp e (tp e (tp e (tp e (tp e (to (spt Z14 e) ?_))))))));obtain rfl := sIn h7;refine aB (aJ rfl (ae rfl) rfl)
    ·refine tkl 0 e rfl rfl dD rfl aQ (tk e (sm (Z21 d)) (tk e (sar rfl rfl rfl) (tkl 0 e rfl rfl dD rfl aQ (tk e (yS (aE rfl) rfl rfl (by decide)) ?_))));refine tk e (scm rfl rfl rfl) (to (spf (.b (decide ((w64 (d.Size.tdiv 2)) < (Z16 d)))) e) ?_);obtain rfl := sIn h7;refine aB (aJ rfl (ae rfl) rfl)
   ·refine tm (.b b6) ?_;obtain ⟨b8, h9, h⟩ := bns h;refine aV 10 [1] 45 b8 ?_ ?_
    ·refine bch h9 (fun c h9 => ?_) (fun c h9 => ?_)
     ·refine tp c (tp c (tp c (tp c (tp c (tp c (tp c (tp c (tp c (to (spt Z14 c) ?_)))))))));obtain rfl := sIn h9;refine aB (aJ rfl (ae rfl) rfl)
     ·refine tkl 0 c rfl rfl oK rfl aQ (tkl 0 c rfl rfl dD rfl aQ (tk c (yS (aE rfl) rfl rfl (by decide)) ?_));refine tk c (sm (Z21 d)) (tk c (bEo (aE rfl) rfl rfl) ?_);obtain ⟨G, H, h9⟩ := bns h9;refine tk c (scr call92 (tX _ _ _ H)) (tk c (sn rfl) (to (spf (.b (!G)) c) ?_));obtain rfl := sIn h9;refine aB (aJ rfl (ae rfl) rfl)
    ·refine tm (.b b8) ?_;obtain ⟨I, w, h⟩ := bns h;refine aV 5 [1] 51 I ?_ ?_
     ·refine bch w (fun j w => ?_) (fun j w => ?_)
      ·refine tp j (tp j (tp j (tp j (to (spt Z14 j) ?_))));obtain rfl := sIn w;refine aB (aJ rfl (ae rfl) rfl)
      ·refine tkl 0 j rfl rfl aBd rfl cC (tk j (sle rfl bC.of) (tk j (scm rfl rfl rfl) (to (spf (.b (decide (10 < (d.Lots.length : Int)))) j) ?_)));obtain rfl := sIn w;refine aB (aJ rfl (ae rfl) rfl)
     ·refine aB ?_;refine tih h (fun J h => ?_) (fun J h => ?_)
      ·refine aC (aA (ta (.i 60) (aB ?_)));obtain rfl := sIn h;refine bK (bE (bH (l := [2]) (ae rfl))) ?_;exact rt
      ·refine aU (aC (aC (aA (tfl 0 rfl rfl dN rfl fC (to (sle rfl fN.of) (tm (.i 0) (aB (bD ?_))))))));refine bP (S := Int) [1, 53, 54] (fun y => [(55, .i y)]) (fun y => [.box b1 0 (aT d)]) (fun k y => oG d.Persons (d.Persons.length : Int) d k y) (fun _ => rfl) (0) h (aO [0] rfl rfl (aH rfl (aK (ae rfl)))) ?_;rintro Y a h;simp only [oG] at h;refine aC (aA (to (scm rfl rfl rfl) (aB (aC ?_))));refine tih h (fun K h => ?_) (fun K h => ?_)
       ·refine aU (aC (bD (aC (aA (tm (.i a) ?_)))));obtain ⟨t, L, h⟩ := bns h;refine to (six rfl rfl fN.of (aW aR L)) (to (tG (aR t) rfl aEa) ?_);refine bG rfl (cJ (zs := [.j 0, .j 0, .k false]) (aE rfl) zeroValue43 rfl rfl) ?_;rintro _ ⟨Z, rfl⟩;refine ta (.i a) (to (sst 1 rfl rfl sizeOf43 (aR t)) (aB (aC (aA (tfl 0 rfl rfl dN rfl fC (tm (.i a) ?_))))));obtain ⟨a0, M, h⟩ := bns h;refine to (aDm (aE rfl) fN.of rfl rfl rfl (aMp aR M)) ?_;refine to (aCm (aE rfl) rfl rfl) ?_;obtain ⟨z, N, h⟩ := bns h;refine to (sc call148 (zC _ _ 149 [.cp [.j t.Player, .j t.Nation, .k t.Qualified]] call149 (fun _ _ h => aPd _ _ h) N) (.cons (.same _) (.cons (aMb (.cons (sF 1 rfl rfl (dvc (.same _) (dvc (.same _) (dvc (.same _) dvn)))) .nil)) .nil))) (ta (.b z) (aB (aC (aA (tm (.b z) (tm (.b z) ?_))))));obtain ⟨A, p, h⟩ := bns h;refine aV 5 [1, 4, 5, 53, 54, 55] 72 A ?_ ?_
        ·refine bch p (fun m p => ?_) (fun m p => ?_)
         ·refine tp m (tp m (tp m (tp m (to (spt Z14 m) ?_))));obtain rfl := sIn p;refine aB (aJ rfl (ae rfl) rfl)
         ·refine tkl 1 m rfl rfl kZ rfl aQ ?_;obtain ⟨O, P, p⟩ := bns p;refine tk m (scr call92 (tX _ _ _ P)) (tk m (sn rfl) (to (spf (.b (!O)) m) ?_));obtain rfl := sIn p;refine aB (aJ rfl (ae rfl) rfl)
        ·refine tm (.b A) ?_;obtain ⟨B, q, h⟩ := bns h;refine aV 5 [1, 4, 5, 53, 54, 55] 78 B ?_ ?_
         ·refine bch q (fun n q => ?_) (fun n q => ?_)
          ·refine tp n (tp n (tp n (tp n (to (spt Z14 n) ?_))));obtain rfl := sIn q;refine aB (aJ rfl (ae rfl) rfl)
          ·refine tkl 1 n rfl rfl wY rfl aQ ?_;obtain ⟨Q, T, q⟩ := bns q;refine tk n (scr call92 (tX _ _ _ T)) (tk n (sn rfl) (to (spf (.b (!Q)) n) ?_));obtain rfl := sIn q;refine aB (aJ rfl (ae rfl) rfl)
         ·refine tm (.b B) ?_;obtain ⟨U, s, h⟩ := bns h;refine aV 9 [1, 53, 54, 55] 88 U ?_ ?_
          ·refine bch s (fun f s => ?_) (fun f s => ?_)
           ·refine tp f (tp f (tp f (tp f (tp f (tq (tq (tp f (to (spt Z14 f) ?_))))))));obtain rfl := sIn s;refine aB (aJ rfl (ae rfl) rfl)
           ·refine tk f (sm (.i a)) (tkl 0 f rfl rfl oK rfl aQ (tk f (scm rfl rfl rfl) (tk f (sm (.b (decide (a < d.Seeds)))) ?_)));obtain ⟨C, x, s⟩ := bns s;refine aV 3 [1, 53, 54, 55, 79, 80, 81, 82, 83, 84] 87 C ?_ ?_
            ·refine bch x (fun u x => ?_) (fun u x => ?_)
             ·refine tkl 1 u rfl rfl aBe rfl aFw (tk f (spt (.b t.Qualified) u) ?_);obtain rfl := sIn x;refine aB (aJ rfl (ae rfl) rfl)
             ·refine tp u (tp u (tk f (spf Z2 u) ?_));obtain rfl := sIn x;refine aB (aJ rfl (ae rfl) rfl)
            ·refine to (spf (.b C) f) ?_;obtain rfl := sIn s;refine aB (aJ rfl (ae rfl) rfl)
          ·refine aB ?_;refine tih h (fun V h => ?_) (fun V h => ?_)
           ·refine aC (aA (ta (.i 60) (aB ?_)));obtain rfl := sIn h;refine bK (bE (bH (l := [2]) (ae rfl))) ?_;exact rt
           ·refine cA ?_;refine aA (to (sar rfl rfl rfl) (tm (.i (w64 (a + 1))) (aB ?_)));exact ⟨(w64 (a + 1)), h, aO [0] rfl rfl (aH rfl (aK (ae rfl)))⟩
       ·refine bO ?_;refine .inl ⟨rfl, ?_⟩;simp only [xN] at h;refine aC (aC (aA (tfl 0 rfl rfl aBd rfl cC ?_)));obtain ⟨a1, W, h⟩ := bns h;refine to (scr call130 (aDo _ _ 150 [] call150 (fun _ _ h => aPe _ h) W)) (aB ?_);refine tih h (fun X h => ?_) (fun X h => ?_)
        ·refine aC (aA (ta (.i 60) (aB ?_)));obtain rfl := sIn h;refine bK (bE (bH (l := [2]) (ae rfl))) ?_;exact rt
        ·refine aU (aC (aA (ta (.i 0) (aB ?_))));obtain rfl := sIn h;refine bK (bE (bH (l := [2]) (ae rfl))) ?_;exact rt

theorem aHn (x : List Int) (cmp : Int → Int → Option Int) {r : List Int} {x_v : Value} {e : TypeId} (f : Nat) (v : List AV) (he : ∀ args w, (callFunc f args).run Tryz.prog w = .ok (.enter f args) w) (hh : ∀ x0 x1 r, cmp x0 x1 = some r → Fn Tryz.prog f ([.i x0, .i x1] ++ v) (.i r)) (h : rW x cmp = some r) : dP Tryz.prog 167 [.d (.lit x_v), .fn f v] [.arr x_v e 1 (x.map aF)] (fun r' o' => r' = .tup [] ∧ o' = [.arr x_v e 1 (r.map aF)]) := bCe (fun enc h1 cf hO g cb blk off cap d w => Tryz.slices_SortFunc_total enc h1 cf hO g cb blk off cap d w) (fun p cap fv w => Tryz.slices_SortFunc_none (α := Int) p cap fv w) he hh h

theorem aPf (b : Int) (c : Int) (a : bA) {r : Int} (h : iK b c a = some r) : Fn Tryz.prog 168 [.i b, .i c, .cp (aT a)] (.i r) := by
 unfold iK at h;refine oT [.tmp 5] func168 results168 ntmps168 ?_;refine aC (aA (ta (.i 0) (aB (aC ?_))));obtain ⟨x1, h2, h⟩ := bns h;obtain ⟨x3, h4, h⟩ := bns h;refine cI mix 12 [] [(11, .i x1.Player), (17, .i x3.Player)] ?_ ?_
 ·refine ⟨[(6, 0, .cp [.sl 3 (Z15 a)]), (7, 1, .d (Z54 a)), (8, 2, .i b), (9, 3, .cp [.j x1.Player, .j x1.Nation, .k x1.Qualified]), (10, 4, .cp [.j x1.Player]), (11, 5, .i x1.Player), (12, 6, .cp [.sl 3 (Z15 a)]), (13, 7, .d (Z54 a)), (14, 8, .i c), (15, 9, .cp [.j x3.Player, .j x3.Nation, .k x3.Qualified]), (16, 10, .cp [.j x3.Player]), (17, 11, .i x3.Player)], ?_, ?_⟩
  · exact dk [0, 1, 0, 203, 4, 5, 0, 7, 0, 809, 10, 11] ⟨go (zfc [.sl 3 (Z15 a)] rfl dN),
 go (zlc rfl fC),
 go (zm (.i b)),
 go (zix rfl rfl fN.of (aW aR h2)),
 go (zfc [.j x1.Player] rfl kZ),
 go (zlc rfl aQ),
 go (zfc [.sl 3 (Z15 a)] rfl dN),
 go (zlc rfl fC),
 go (zm (.i c)),
 go (zix rfl rfl fN.of (aW aR h4)),
 go (zfc [.j x3.Player] rfl kZ),
 go (zlc rfl aQ), trivial⟩
  · exact bT (aH rfl (aH rfl (aK trivial)))
 ·refine to (sar rfl rfl rfl) (ta (.i (w64 (x1.Player - x3.Player))) (aB ?_));obtain rfl := sIn h;exact rt

theorem aTf (a : bA) {r : List Int} (h : mL a = some r) : Fn Tryz.prog 109 [.agg (aT a)] (.fn 169 [.cp [.j a.Size, .j a.Seeds, .sl 3 (Z15 a), .sl 1 (Z36 a)], .cp (Z39 r)]) := by
 unfold mL at h;refine kR func109 rfl (rs := [.tmp 2]) results109 ntmps109 (Nat.le_of_ble_eq_true rfl) ?_;refine aC (aA ?_);refine bG rfl (cV (v := .agg (aT a)) (aE rfl) rfl rfl rfl) ?_;rintro _ ⟨b1, rfl⟩;refine ta (.d (.lit .nilFunc)) (aB (aC (aA ?_)));refine bG rfl (cJ (zs := Z64) (aE rfl) zeroValue23 rfl rfl) ?_;rintro _ ⟨b2, rfl⟩;refine gY (aIf 3 1) ?_;refine aB (aC (aC (aA (tfl 0 rfl rfl dN rfl fC (to (sle rfl fN.of) (tm (.i 0) (aB (bD ?_))))))));refine bP (S := Int × Z32 × Value) [1, 3, 7] (fun s3 => [(8, .i s3.1)]) (fun s3 => [.box b1 0 (aT a), .arr s3.2.2 3 1 (s3.2.1.map aF), .box b2 0 [.lit s3.2.2]]) (fun k s3 => oI (a.Persons.length : Int) a k s3.1 s3.2.1) (fun _ => rfl) (0, ([] : List Int), (.slice none 0 0)) h (aO [0, 2, 1] rfl rfl (aH rfl (aK (ae rfl)))) ?_;rintro k5 ⟨b, c, w4⟩ h;simp only [oI] at h;refine aC (aA (to (scm rfl rfl rfl) (aB (aC ?_))));refine tih h (fun c6 h => ?_) (fun c6 h => ?_)
 ·refine aU (aC (bD (aC (aA (tm (.i b) (ta (.i b) (aB (aA (to (sl 2 rfl rfl rfl cC) (tm (.i b) (to (dE (aE rfl) bC rfl rfl (rows := ([b]).map aF) rfl (bY (f := aF) fun _ => rfl) rfl (by decide)) ?_)))))))))));obtain ⟨x7, h8, h⟩ := bns h;refine bG rfl (dL (i := 1) (aE rfl) bC rfl rfl rfl (fun _ => rfl) h8 rfl) ?_;rintro _ ⟨v9, rfl⟩;refine to (sst 2 rfl rfl sizeOf23 [.lit v9]) ?_;refine cN ?_;refine aA (to (sar rfl rfl rfl) (tm (.i (w64 (b + 1))) (aB ?_)));exact ⟨(w64 (b + 1), x7, v9), h, aO [0, 1, 2] rfl rfl (aH rfl (aK (ae rfl)))⟩
 ·refine bO ?_;refine .inl ⟨rfl, ?_⟩;simp only [oH] at h;refine aC (aA (to (sl 2 rfl rfl rfl cC) (to (aCm (aE rfl) rfl rfl) ?_)));refine gY (aO [1, 2, 0] rfl rfl (le_refl _)) ?_;apply aYg [.arr w4 3 1 (c.map aF), .box b2 0 [.lit w4]] [.box b1 0 (aT a)] rfl;exact pQ (k := 17) (v := .fn 168 [.cp [.j a.Size, .j a.Seeds, .sl 3 (Z15 a), .sl 1 (Z36 a)]]) (aMb (.cons (sF 0 rfl rfl (dvc (.same _) (dvc (.same _) (dvc (.same _) (dvc (.same _) dvn))))) .nil)) (pQ (k := 1) (v := .cp [.j a.Size, .j a.Seeds, .sl 3 (Z15 a), .sl 1 (Z36 a)]) (sF 0 rfl rfl (dvc (.same _) (dvc (.same _) (dvc (.same _) (dvc (.same _) dvn))))) (aAx _ _));obtain ⟨g, j, h⟩ := bns h;refine bG rfl (dU (passed := [.arr w4 3 1 (c.map aF)]) (aE rfl) rfl (.func _ _ call167) rfl rfl (aHn c (fun l m => iK l m a) 168 [.cp [.j a.Size, .j a.Seeds, .sl 3 (Z15 a), .sl 1 (Z36 a)]] call168 (fun _ _ _ h => aPf _ _ _ h) j)) ?_;rintro _ ⟨_, _, ⟨rfl, rfl⟩, rfl⟩;refine aB (aC (aA ?_));refine bG rfl (zM (aE rfl) bC rfl rfl (rows := ([(-1)]).map aF) rfl (bY (f := aF) fun _ => rfl) rfl (by decide)) ?_;rintro _ ⟨n, rfl⟩;refine gY (aO [1, 2, 0] rfl rfl (le_refl _)) ?_;refine gY (aYq (ds' := [.sl 1 (g.map aF)]) [.arr n 3 1 (([(-1)]).map aF)] [.arr w4 3 1 (g.map aF)] rfl (dvc (gZ 0 rfl (bY (f := aF) fun _ => rfl)) dvn) (pQ (k := 16) (v := .any) (.any _) (aAx _ _))) ?_;refine to (sl 0 rfl rfl rfl cC) ?_;obtain ⟨o, p, h⟩ := bns h;refine bG rfl (dL (i := 1) (aE rfl) bC rfl rfl rfl (fun _ => rfl) p rfl) ?_;rintro _ ⟨e, rfl⟩;refine to (sst 0 rfl rfl sizeOf23 [.lit e]) (aB (aC (aA (to (aCm (aE rfl) rfl rfl) ?_))));refine ta (.fn 169 [.cp [.j a.Size, .j a.Seeds, .sl 3 (Z15 a), .sl 1 (Z36 a)], .bp b2 0 0]) (aB ?_);obtain rfl := sIn h;exact cD ⟨rfl, _, [.box b2 0 [.lit e], .arr e 3 1 (o.map aF)], .one (.tmp 2 (v := .fn 169 [.cp [.j a.Size, .j a.Seeds, .sl 3 (Z15 a), .sl 1 (Z36 a)], .bp b2 0 0]) rfl), .refl _, (aMb (.cons (.same _) (.cons (sF 0 rfl rfl (dvc (gZ 1 rfl (bY (f := aF) fun _ => rfl)) dvn)) .nil)))⟩

theorem rV (a : List Int) {r : (List Int)} (h : fA a = some r) : dP Tryz.prog 93 [.d (Z8 a)] [] (fun r' o' => ∃ (w0 : Value), r' = .d (.lit w0) ∧ o' = [.arr w0 3 1 (r.map aF)]) := by
 unfold fA at h;refine iF func93 rfl (rs := [.tmp 2]) results93 ntmps93 (Nat.le_of_ble_eq_true rfl) ?_;refine aC (aA (to (fX 3 1 (.inl rfl) (aE rfl)) ?_));refine aB (aC (aC (aA (tm (Z40 a) ?_))));refine bG rfl (aQp (aE rfl) rfl rfl underlying23) ?_;rintro _ ⟨b2, h3, rfl⟩;refine aB ?_;refine aDq rfl (fun c4 => ?_) (fun c4 => ?_)
 ·obtain rfl := aPz (h3 c4)
  simp [app] at h
  subst h;refine aC (aA (to (fX 3 1 (.inl rfl) (aE rfl)) ?_));refine aB ?_;refine bK (aO [1, 0] rfl rfl (le_refl _)) ?_;exact cD ⟨rfl, _, Z44, Z44, _, .one (.tmp 2 (v := .d Z56) rfl), .refl _, .same _, (.slice none 0 0), rfl, rfl⟩
 ·refine aU (aC (aA ?_));refine bG rfl (zM (aE rfl) bC rfl rfl (rows := (([] : List Int)).map aF) rfl (bY (f := aF) fun _ => rfl) rfl (by decide)) ?_;rintro _ ⟨v5, rfl⟩;refine tm (Z40 a) ?_;obtain ⟨x6, h7, h⟩ := bns h;refine bG rfl (dL (i := 1) (aE rfl) bC rfl rfl rfl (fun _ => rfl) h7 rfl) ?_;rintro _ ⟨v8, rfl⟩;refine ta (.d (.lit v8)) (aB ?_);obtain rfl := sIn h;refine bK (aO [1, 0] rfl rfl (le_refl _)) ?_;exact cD ⟨rfl, _, [.arr v8 3 1 (x6.map aF)], Z44, _, .one (.tmp 2 (v := .d (.lit v8)) rfl), .refl _, .same _, v8, rfl, rfl⟩

theorem xF (b : List Int) (c : Int) {r : Int} (h : gT b c = some r) : Fn Tryz.prog 117 [.d (Z8 b), .i c] (.i r) := by
 unfold gT at h;refine oT [.tmp 4] func117 results117 ntmps117 ?_;refine aC (aA (ta (.i 0) (aB (aC (aC (aA (tm (Z40 b) (to (sle rfl bC.of) (tm (.i 0) (aB (bD ?_)))))))))));refine bP (S := Int) [0, 1, 7] (fun s1 => [(8, .i s1)]) (fun s1 => []) (fun k s1 => kC b c (b.length : Int) k s1) (fun _ => rfl) (0) h (aO [] rfl rfl (aH rfl (aK (ae rfl)))) ?_;rintro k2 a h;simp only [kC] at h;refine aC (aA (to (scm rfl rfl rfl) (aB (aC ?_))));refine tih h (fun c3 h => ?_) (fun c3 h => ?_)
 ·refine aU (aC (bD (aC (aA (tm (.i a) (ta (.i a) (aB (aC (aA (tm (.i c) (tm (Z40 b) (tm (.i a) ?_))))))))))));obtain ⟨x4, h5, h⟩ := bns h;refine to (six rfl rfl bC.of (aW aF h5)) (to (slc rfl aQ) (to (scm rfl rfl rfl) (aB ?_)));refine tih h (fun c6 h => ?_) (fun c6 h => ?_)
  ·refine aC (aA (tm (.i a) (ta (.i a) (aB ?_))));obtain rfl := sIn h;exact rt
  ·refine cA ?_;refine aA (to (sar rfl rfl rfl) (tm (.i (w64 (a + 1))) (aB ?_)));exact ⟨(w64 (a + 1)), h, aO [] rfl rfl (aH rfl (aK (ae rfl)))⟩
 ·refine bO ?_;refine .inl ⟨rfl, ?_⟩;simp only [wA] at h;refine aC (aA (ta (.i (-1)) (aB ?_)));obtain rfl := sIn h;exact rt

theorem cX (a : List Int) (c : Int) {r : Bool} (h : cO a c = some r) : Fn Tryz.prog 91 [.d (Z8 a), .i c] (.b r) := by
 unfold cO at h;refine oT [.tmp 4] func91 results91 ntmps91 ?_;refine aC (aA (ta Z2 (aB (aC (aA (tm (Z40 a) (tm (.i c) ?_)))))));obtain ⟨r1, h2, h⟩ := bns h;refine to (scr call117 (xF _ _ h2)) (to (scm rfl rfl rfl) (ta (.b (decide (0 ≤ r1))) (aB ?_)));obtain rfl := sIn h;exact rt

theorem tW (a : bA) (c : Int) (e : Int) {r : Bool} (h : zZ a c e = some r) : Fn Tryz.prog 171 [.agg (aT a), .i c, .i e] (.b r) := by
 unfold zZ at h;refine oT [.tmp 6] func171 results171 ntmps171 ?_;refine aC (aA ?_);refine bG rfl (cV (v := .agg (aT a)) (aE rfl) rfl rfl rfl) ?_;rintro _ ⟨b1, rfl⟩;refine ta Z2 (aB (aC (aA (tfl 0 rfl rfl dD rfl aQ (to (yS (aE rfl) rfl rfl (by decide)) ?_)))));refine tfl 0 rfl rfl dD rfl aQ (to (sar rfl rfl rfl) (tfl 0 rfl rfl dD rfl aQ (to (yS (aE rfl) rfl rfl (by decide)) ?_)));refine to (sar rfl rfl rfl) (to (dE (aE rfl) bC rfl rfl (rows := (Z62 a).map aF) rfl (bY (f := aF) fun _ => rfl) rfl (by decide)) ?_);refine ta (.d (.sl 1 (((Z62 a)).map aF))) (aB (aC (bD (aC (aA (tm (.i c) (to (scm rfl rfl rfl) (tm (.b (decide (c = 0))) ?_))))))));obtain ⟨b2, h3, h⟩ := bns h;refine aV 4 [1, 2, 3, 7] 26 b2 ?_ ?_
 ·refine bch h3 (fun k h3 => ?_) (fun k h3 => ?_)
  ·refine tkl 0 k rfl rfl oK rfl aQ (tk k (scm rfl rfl rfl) (to (spt (.b (decide (0 < a.Seeds))) k) ?_));obtain rfl := sIn h3;refine aB (aJ rfl (ae rfl) rfl)
  ·refine tp k (tp k (tp k (to (spf Z2 k) ?_)));obtain rfl := sIn h3;refine aB (aJ rfl (ae rfl) rfl)
 ·refine ta (.b b2) (aB ?_);refine tih h (fun c4 h => ?_) (fun c4 h => ?_)
  ·refine aC (aA (tm (.i e) (to (scm rfl rfl rfl) (ta (.b (decide (e = 0))) (aB ?_)))));obtain rfl := sIn h;refine bK (bE (bH (l := [6]) (ae rfl))) ?_;exact rt
  ·refine aC (aA (tm (.i c) (tfl 0 rfl rfl dD rfl aQ (to (sar rfl rfl rfl) (to (scm rfl rfl rfl) (tm (.b (decide (c = (w64 (a.Size - 1))))) ?_))))));obtain ⟨b5, h6, h⟩ := bns h;refine aV 4 [1, 2, 3, 7] 39 b5 ?_ ?_
   ·refine bch h6 (fun m h6 => ?_) (fun m h6 => ?_)
    ·refine tkl 0 m rfl rfl oK rfl aQ (tk m (scm rfl rfl rfl) (to (spt (.b (decide (1 < a.Seeds))) m) ?_));obtain rfl := sIn h6;refine aB (aJ rfl (ae rfl) rfl)
    ·refine tp m (tp m (tp m (to (spf Z2 m) ?_)));obtain rfl := sIn h6;refine aB (aJ rfl (ae rfl) rfl)
   ·refine ta (.b b5) (aB ?_);refine tih h (fun c7 h => ?_) (fun c7 h => ?_)
    ·refine aC (aA (tm (.i e) (to (scm rfl rfl rfl) (ta (.b (decide (e = 1))) (aB ?_)))));obtain rfl := sIn h;refine bK (bE (bH (l := [6]) (ae rfl))) ?_;exact rt
    ·refine aC (aA (tm (.i e) (to (scm rfl rfl rfl) (tm (Z33 e) ?_))));obtain ⟨b8, h9, h⟩ := bns h;refine aV 5 [1, 2, 7] 50 b8 ?_ ?_
     ·refine bch h9 (fun g h9 => ?_) (fun g h9 => ?_)
      ·refine tp g (tp g (tp g (tp g (to (spt Z14 g) ?_))));obtain rfl := sIn h9;refine aB (aJ rfl (ae rfl) rfl)
      ·refine tk g (sm (.i e)) (tkl 0 g rfl rfl oK rfl aQ (tk g (scm rfl rfl rfl) (to (spf (.b (decide (a.Seeds ≤ e))) g) ?_)));obtain rfl := sIn h9;refine aB (aJ rfl (ae rfl) rfl)
     ·refine ta (.b b8) (aB ?_);refine tih h (fun p h => ?_) (fun p h => ?_)
      ·refine aC (aA (ta Z14 (aB ?_)));obtain rfl := sIn h;refine bK (bE (bH (l := [6]) (ae rfl))) ?_;exact rt
      ·refine cA ?_;refine aC (aA (tm (.i e) (to (scm rfl rfl rfl) (tm (.b (decide (1 < e))) ?_))));obtain ⟨o, n, h⟩ := bns h;refine aV 4 [] 57 o ?_ ?_
       ·refine bch n (fun j n => ?_) (fun j n => ?_)
        ·refine tk j (sm (.d (.sl 1 (((Z62 a)).map aF)))) (tk j (sm (.i c)) ?_);obtain ⟨q, s, n⟩ := bns n;refine tk j (scr call91 (cX _ _ s)) (to (spt (.b q) j) ?_);obtain rfl := sIn n;refine aB (aJ rfl trivial rfl)
        ·refine tp j (tp j (tp j (to (spf Z2 j) ?_)));obtain rfl := sIn n;refine aB (aJ rfl trivial rfl)
       ·refine ta (.b o) (aB ?_);obtain rfl := sIn h;refine bK (bE (bH (l := [6]) (ae rfl))) ?_;exact rt

theorem aTe (g : bA) (c : Int) (e : Int) {r : Bool} (h : yK g c e = some r) : Fn Tryz.prog 219 [.agg (aT g), .i c, .i e] (.b r) := by
 unfold yK at h;refine oT [.tmp 6] func219 results219 ntmps219 ?_;refine aC (aA ?_);refine bG rfl (cV (v := .agg (aT g)) (aE rfl) rfl rfl rfl) ?_;rintro _ ⟨b1, rfl⟩;refine ta Z2 (aB (aC (aC (aA (tm (.i c) (to (scm rfl rfl rfl) (tm (Z33 c) ?_)))))));obtain ⟨b2, h3, h⟩ := bns h;refine aV 3 [1, 2, 3] 14 b2 ?_ ?_
 ·refine bch h3 (fun j h3 => ?_) (fun j h3 => ?_)
  ·refine tp j (tp j (to (spt Z14 j) ?_));obtain rfl := sIn h3;refine aB (aJ rfl (ae rfl) rfl)
  ·refine tk j (sm (.i e)) (tk j (scm rfl rfl rfl) (to (spf (Z33 e) j) ?_));obtain rfl := sIn h3;refine aB (aJ rfl (ae rfl) rfl)
 ·refine aB ?_;refine tih h (fun c4 h => ?_) (fun c4 h => ?_)
  ·refine aC (aA (tm (.i c) (tm (.i e) (to (scm rfl rfl rfl) (ta (.b (!decide (c = e))) (aB ?_))))));obtain rfl := sIn h;refine bK (bE (bH (l := [6]) (ae rfl))) ?_;exact rt
  ·refine aU (aC ?_);obtain ⟨x6, h7, h⟩ := bns h;obtain ⟨x8, h9, h⟩ := bns h;refine iE mix 13 [] (fun X5 => [(7, .bp (X5 10).b 0 0), (8, .bp (X5 11).b 0 0), (27, .agg (aR x8))]) (fun X5 => [.box b1 0 (aT g), .box (X5 10).b 0 (aR x6), .box (X5 11).b 0 Z27]) ?_ ?_
   ·refine ⟨2, fun X5 => [(18, 0, .bp b1 0 2), (19, 1, .d (Z54 g)), (20, 2, .i c), (21, 3, .cp [.j x6.Player, .j x6.Nation, .k x6.Qualified]), (22, 4, .agg (aR x6)), (23, 5, .bp b1 0 2), (24, 6, .d (Z54 g)), (25, 7, .i e), (26, 8, .cp [.j x8.Player, .j x8.Nation, .k x8.Qualified]), (27, 9, .agg (aR x8)), (7, 10, .bp (X5 10).b 0 0), (8, 11, .bp (X5 11).b 0 0)], fun X5 => [([], .box b1 0 (aT g)), ([(12, .box (X5 10).b 0 (aR x6)), (10, .box (X5 10).b 0 Z27)], nob), ([(11, .box (X5 11).b 0 Z27)], nob)], ?_, ?_⟩
    · exact xok [(0, 13), (1, 13), (0, 13), (203, 13), (4, 13), (0, 0), (6, 0), (0, 0), (708, 0), (9, 0), (0, 13), (0, 13), (51112, 0)] ⟨fun _ _ w _ k => xp w (yf k rfl dN),
 fun _ _ w _ k => xp w (yl k 0 rfl (og k rfl rfl) rfl fC),
 fun _ _ w _ k => xp w (ym k (.i c)),
 fun _ _ w _ k => xp w (yix k rfl rfl fN.of (aW aR h7)),
 fun _ _ w _ k => xp w (aWc k (aR x6) rfl aEa),
 fun _ _ w _ k => xp w (yf k rfl dN),
 fun _ _ w _ k => xp w (yl k 0 rfl (og k rfl rfl) rfl fC),
 fun _ _ w _ k => xp w (ym k (.i e)),
 fun _ _ w _ k => xp w (yix k rfl rfl fN.of (aW aR h9)),
 fun _ _ w _ k => xp w (aWc k (aR x8) rfl aEa),
 fun X5 S hw hi hS => uH (X := X5) (p := 1) (v := fun x => .bp x.b 0 0) (mo := fun x => .box x.b 0 Z27) hS hi rfl rfl (fun _ => rfl) hw (fun _ => rfl) (fun _ => rfl) (fun _ => rfl) (fun _ => ⟨rfl, rfl, .inr rfl, ⟨rfl, rfl, .inr rfl, ⟨rfl, rfl, .inr rfl, ⟨rfl, rfl, .inr rfl, ⟨rfl, rfl, .inr rfl, ⟨rfl, rfl, .inr rfl, ⟨rfl, rfl, .inr rfl, ⟨rfl, rfl, .inr rfl, ⟨rfl, rfl, .inr rfl, ⟨rfl, rfl, .inr rfl, ⟨rfl, rfl, .inl rfl, ⟨rfl, rfl, .inr rfl, trivial⟩⟩⟩⟩⟩⟩⟩⟩⟩⟩⟩⟩) (fun _ => ⟨trivial, rfl, ⟨⟨rfl, .inl rfl, ⟨rfl, .inl rfl, trivial⟩⟩, rfl, ⟨⟨rfl, .inr rfl, trivial⟩, rfl, trivial⟩⟩⟩) (kQ (cJ (zs := [.j 0, .j 0, .k false]) (aE rfl) zeroValue43 rfl rfl) (by rintro _ ⟨w, rfl⟩; exact ⟨⟨w, undef⟩, aO [0, 3, 2] rfl rfl (le_refl _)⟩)),
 fun X5 S hw hi hS => uH (X := X5) (p := 2) (v := fun x => .bp x.b 0 0) (mo := fun x => .box x.b 0 Z27) hS hi rfl rfl (fun _ => rfl) hw (fun _ => rfl) (fun _ => rfl) (fun _ => rfl) (fun _ => ⟨rfl, rfl, .inr rfl, ⟨rfl, rfl, .inr rfl, ⟨rfl, rfl, .inr rfl, ⟨rfl, rfl, .inr rfl, ⟨rfl, rfl, .inr rfl, ⟨rfl, rfl, .inr rfl, ⟨rfl, rfl, .inr rfl, ⟨rfl, rfl, .inr rfl, ⟨rfl, rfl, .inr rfl, ⟨rfl, rfl, .inr rfl, ⟨rfl, rfl, .inr rfl, ⟨rfl, rfl, .inl rfl, trivial⟩⟩⟩⟩⟩⟩⟩⟩⟩⟩⟩⟩) (fun _ => ⟨trivial, rfl, ⟨⟨rfl, .inr rfl, ⟨rfl, .inr rfl, trivial⟩⟩, rfl, ⟨⟨rfl, .inl rfl, trivial⟩, rfl, trivial⟩⟩⟩) (kQ (cJ (zs := [.j 0, .j 0, .k false]) (aE rfl) zeroValue43 rfl rfl) (by rintro _ ⟨w, rfl⟩; exact ⟨⟨w, undef⟩, aO [0, 1, 3] rfl rfl (le_refl _)⟩)),
 fun _ _ _ _ k => xs 1 k rfl rfl (sW (i := 1) (aX k rfl) (og k rfl rfl) (aX k rfl) rfl rfl sizeOf43 rfl (aE rfl) (Nat.le_of_ble_eq_true rfl) (ds' := (aR x6)) rfl), trivial⟩
    · exact fun X5 => bT (aH rfl (aH rfl (aH rfl (aK trivial))))
   ·intro X5;refine to (sst 2 rfl rfl sizeOf43 (aR x8)) (aB (aC (aA (tfl 1 rfl rfl wY rfl aQ (tfl 2 rfl rfl wY rfl aQ (to (scm rfl rfl rfl) (tm (.b (!decide (x6.Nation = x8.Nation))) ?_)))))));obtain ⟨s, o, h⟩ := bns h;refine aV 4 [7, 8] 37 s ?_ ?_
    ·refine bch o (fun f o => ?_) (fun f o => ?_)
     ·refine tp f (tp f (tp f (to (spt Z14 f) ?_)));obtain rfl := sIn o;refine aB (aJ rfl (ae rfl) rfl)
     ·refine tkl 1 f rfl rfl wY rfl aQ (tk f (scm rfl rfl rfl) (to (spf (.b (decide (x6.Nation = 0))) f) ?_));obtain rfl := sIn o;refine aB (aJ rfl (ae rfl) rfl)
    ·refine tm (.b s) ?_;obtain ⟨t, m, h⟩ := bns h;refine aV 8 [] 46 t ?_ ?_
     ·refine bch m (fun a m => ?_) (fun a m => ?_)
      ·refine tkl 1 a rfl rfl aBe rfl aFw (tk a (sm (.b x6.Qualified)) ?_);obtain ⟨u, q, m⟩ := bns m;refine aV 3 [38] 44 u ?_ ?_
       ·refine bch q (fun n q => ?_) (fun n q => ?_)
        ·refine tkl 2 n rfl rfl aBe rfl aFw (tk a (spt (.b x8.Qualified) n) ?_);obtain rfl := sIn q;refine aB (aJ rfl (ae rfl) rfl)
        ·refine tp n (tp n (tk a (spf Z2 n) ?_));obtain rfl := sIn q;refine aB (aJ rfl (ae rfl) rfl)
       ·refine tk a (sn rfl) (to (spt (.b (!u)) a) ?_);obtain rfl := sIn m;refine aB (aJ rfl trivial rfl)
      ·refine tp a (tp a (tp a (tq (tq (tp a (tp a (to (spf Z2 a) ?_)))))));obtain rfl := sIn m;refine aB (aJ rfl trivial rfl)
     ·refine ta (.b t) (aB ?_);obtain rfl := sIn h;refine bK (bE (bH (l := [6]) (ae rfl))) ?_;exact rt

theorem aFo (c : Int) (a : Int) (d : bA) (e : Int) {r : Bool} (h : sA c a d e = some r) : Fn Tryz.prog 218 [.i c, .i a, .cp (aT d), .cp [.j e]] (.b r) := by
 unfold sA at h;refine oT [.tmp 6] func218 results218 ntmps218 ?_;refine aC (aA (ta Z2 (aB (aC (aA (tm (.i c) (to (scm rfl rfl rfl) (tm (Z33 c) ?_))))))));obtain ⟨b1, h2, h⟩ := bns h;refine aV 5 [0, 1, 3] 14 b1 ?_ ?_
 ·refine bch h2 (fun c6 h2 => ?_) (fun c6 h2 => ?_)
  ·refine tp c6 (tp c6 (tp c6 (tp c6 (to (spt Z14 c6) ?_))));obtain rfl := sIn h2;refine aB (aJ rfl (ae rfl) rfl)
  ·refine tk c6 (sm (.i c)) (tk c6 (sfc [.j d.Seeds] rfl oK) (tk c6 (slc rfl aQ) (tk c6 (scm rfl rfl rfl) (to (spf (.b (decide (d.Seeds ≤ c))) c6) ?_))));obtain rfl := sIn h2;refine aB (aJ rfl (ae rfl) rfl)
 ·refine tm (.b b1) ?_;obtain ⟨b3, h4, h⟩ := bns h;refine aV 7 [] 22 b3 ?_ ?_
  ·refine bch h4 (fun c5 h4 => ?_) (fun c5 h4 => ?_)
   ·refine tp c5 (tp c5 (tp c5 (tp c5 (tp c5 (tp c5 (to (spt Z14 c5) ?_))))));obtain rfl := sIn h4;refine aB (aJ rfl trivial rfl)
   ·refine tk c5 (sm (.i a)) (tk c5 (scm rfl rfl rfl) (tk c5 (sm (.i c)) (tk c5 (slc rfl aQ) (tk c5 (scm rfl rfl rfl) (tk c5 (bHs (aE rfl) rfl rfl underlying4) ?_)))));refine to (spf (.b (decide ((decide (a = (-1))) = (decide (c < e))))) c5) ?_;obtain rfl := sIn h4;refine aB (aJ rfl trivial rfl)
  ·refine ta (.b b3) (aB ?_);obtain rfl := sIn h;exact rt

theorem aJn (d : bA) (k : Int) (m : Int) {r : Bool} (h : vM d k m = some r) : Fn Tryz.prog 172 [.agg (aT d), .i k, .i m] (.b r) := by
 unfold vM at h;refine oT [.tmp 6] func172 results172 ntmps172 ?_;refine aC (aA ?_);refine bG rfl (cV (v := .agg (aT d)) (aE rfl) rfl rfl rfl) ?_;rintro _ ⟨b1, rfl⟩;refine ta Z2 (aB (aC (aA (tfl 0 rfl rfl dD rfl aQ (tfl 0 rfl rfl dN rfl fC (to (sle rfl fN.of) (to (sar rfl rfl rfl) ?_)))))));refine bG rfl (cJ (zs := [.j 0]) (aE rfl) zeroValue3 rfl rfl) ?_;rintro _ ⟨b2, rfl⟩;refine to (sst 1 rfl rfl sizeOf3 [.j (Z16 d)]) (aB (aC (aA (to (aCm (aE rfl) rfl rfl) ?_))));refine ta (.fn 218 [.bp b1 0 0, .bp b2 0 0]) (aB (aC (aC (aA (to (sl 1 rfl rfl rfl aQ) (tfl 0 rfl rfl oK rfl aQ (to (scm rfl rfl rfl) (tm (.b (decide ((Z16 d) ≤ d.Seeds))) ?_))))))));obtain ⟨b3, h4, h⟩ := bns h;refine aV 19 [1, 2, 3, 8] 39 b3 ?_ ?_
 ·refine bch h4 (fun a h4 => ?_) (fun a h4 => ?_)
  ·refine tk a (sm (.i k)) (tk a (scm rfl rfl rfl) (tk a (sm (Z33 k)) ?_));obtain ⟨s, p, h4⟩ := bns h4;refine aV 5 [1, 2, 3, 8, 20] 28 s ?_ ?_
   ·refine bch p (fun g p => ?_) (fun g p => ?_)
    ·refine tk g (sm (.i m)) (tkl 0 g rfl rfl oK rfl aQ (tk g (scm rfl rfl rfl) (tk a (spt (.b (decide (d.Seeds ≤ m))) g) ?_)));obtain rfl := sIn p;refine aB (aJ rfl (ae rfl) rfl)
    ·refine tp g (tp g (tp g (tp g (tk a (spf Z2 g) ?_))));obtain rfl := sIn p;refine aB (aJ rfl (ae rfl) rfl)
   ·refine tk a (sm (.b s)) ?_;obtain ⟨t, n, h4⟩ := bns h4;refine aV 9 [1, 2, 3, 8, 20] 38 t ?_ ?_
    ·refine bch n (fun c n => ?_) (fun c n => ?_)
     ·refine tp c (tp c (tp c (tq (tq (tq (tq (tp c (tk a (spt Z14 c) ?_))))))));obtain rfl := sIn n;refine aB (aJ rfl (ae rfl) rfl)
     ·refine tk c (sm (.i m)) (tk c (scm rfl rfl rfl) (tk c (sm (Z33 m)) ?_));obtain ⟨u, q, n⟩ := bns n;refine aV 5 [1, 2, 3, 8, 20, 29] 37 u ?_ ?_
      ·refine bch q (fun j q => ?_) (fun j q => ?_)
       ·refine tk j (sm (.i k)) (tkl 0 j rfl rfl oK rfl aQ (tk j (scm rfl rfl rfl) (tk c (spt (.b (decide (d.Seeds ≤ k))) j) ?_)));obtain rfl := sIn q;refine aB (aJ rfl (ae rfl) rfl)
       ·refine tp j (tp j (tp j (tp j (tk c (spf Z2 j) ?_))));obtain rfl := sIn q;refine aB (aJ rfl (ae rfl) rfl)
      ·refine tk a (spf (.b u) c) ?_;obtain rfl := sIn n;refine aB (aJ rfl (ae rfl) rfl)
    ·refine to (spt (.b t) a) ?_;obtain rfl := sIn h4;refine aB (aJ rfl (ae rfl) rfl)
  ·refine tp a (tp a (tp a (tq (tq (tq (tq (tp a (tp a (tq (tq (tq (tq (tq ?_)))))))))))));refine tq (tq (tq (tp a (to (spf Z2 a) ?_))));obtain rfl := sIn h4;refine aB (aJ rfl (ae rfl) rfl)
 ·refine aB ?_;refine tih h (fun c5 h => ?_) (fun c5 h => ?_)
  ·refine aC (aA (ta Z2 (aB ?_)));obtain rfl := sIn h;refine bK (bE (bH (l := [6]) (ae rfl))) ?_;exact rt
  ·refine aU (aC (aA (to (sla 0 (aT d) rfl rfl eT) (tm (.i k) (tm (.i m) ?_)))));obtain ⟨r6, h7, h⟩ := bns h;refine to (scr call219 (aTe _ _ _ h7)) (tm (.b r6) ?_);obtain ⟨b8, h9, h⟩ := bns h;refine aV 5 [1, 2, 8] 49 b8 ?_ ?_
   ·refine bch h9 (fun e h9 => ?_) (fun e h9 => ?_)
    ·refine tk e (sm (.fn 218 [.bp b1 0 0, .bp b2 0 0])) (tk e (sm (.i k)) (tk e (sm (.i m)) ?_));obtain ⟨x, y, h9⟩ := bns h9;refine tk e (cT (aE rfl) (.clo _ _ _ _ call218 rfl) (wT rfl) rfl (.cons (.same _) (.cons (.same _) (.cons (sF 0 rfl rfl (dvc (.same _) (dvc (.same _) (dvc (.same _) (dvc (.same _) dvn))))) (.cons (sF 1 rfl rfl (dvc (.same _) dvn)) .nil)))) (aFo _ _ _ _ y) rfl) ?_;refine to (spt (.b x) e) ?_;obtain rfl := sIn h9;refine aB (aJ rfl (ae rfl) rfl)
    ·refine tp e (tp e (tp e (tp e (to (spf Z2 e) ?_))));obtain rfl := sIn h9;refine aB (aJ rfl (ae rfl) rfl)
   ·refine tm (.b b8) ?_;obtain ⟨w, o, h⟩ := bns h;refine aV 5 [] 55 w ?_ ?_
    ·refine bch o (fun f o => ?_) (fun f o => ?_)
     ·refine tk f (sm (.fn 218 [.bp b1 0 0, .bp b2 0 0])) (tk f (sm (.i m)) (tk f (sm (.i k)) ?_));obtain ⟨z, A, o⟩ := bns o;refine tk f (cT (aE rfl) (.clo _ _ _ _ call218 rfl) (wT rfl) rfl (.cons (.same _) (.cons (.same _) (.cons (sF 0 rfl rfl (dvc (.same _) (dvc (.same _) (dvc (.same _) (dvc (.same _) dvn))))) (.cons (sF 1 rfl rfl (dvc (.same _) dvn)) .nil)))) (aFo _ _ _ _ A) rfl) ?_;refine to (spt (.b z) f) ?_;obtain rfl := sIn o;refine aB (aJ rfl trivial rfl)
     ·refine tp f (tp f (tp f (tp f (to (spf Z2 f) ?_))));obtain rfl := sIn o;refine aB (aJ rfl trivial rfl)
    ·refine ta (.b w) (aB ?_);obtain rfl := sIn h;refine bK (bE (bH (l := [6]) (ae rfl))) ?_;exact rt

theorem aKm {S : Type} (J K : S → MO → Prop) (ly : Nat) (V : S → (List Int) → Option (S × Bool)) (hy : ∀ (s : S) (m : MO) (x0 : List Int) (s' : S × Bool), J s m → V s x0 = some s' → aAw Tryz.prog ly [.d (.sl 1 (x0.map aF))] m (fun b m' => b = s'.2 ∧ JK J K s' m')) (kr : Nat) : ∀ (a : List Int) (F : Int) (e : bA) (B : List Int) (sy : S) {r : S × Bool} {o j c : Nat} (m0 : MO) (_hj : J sy m0) (_hcap : a.length ≤ c) (_hsz : (c : Int) = e.Size) (_h : iG V kr a F e B sy = some r), dP Tryz.prog 170 [.d (.lit (vw j a.length c)), .i F, .cp [.j e.Size, .j e.Seeds, .sl 3 (e.Persons.map aR), .sl 1 (e.Lots.map aF)], .cp (Z26 ly), .cp [.sl 1 (B.map aF)], .bp o 0 0] [m0, rE o 170 [.cp [.j e.Size, .j e.Seeds, .sl 3 (e.Persons.map aR), .sl 1 (e.Lots.map aF)], .cp (Z26 ly), .cp [.sl 1 (B.map aF)], .bp o 0 0], .arr (vw j a.length c) 3 1 (a.map aF)] (fun r' o' => ∃ m', r' = .b r.2 ∧ JK J K r m' ∧ o' = [m', rE o 170 [.cp [.j e.Size, .j e.Seeds, .sl 3 (e.Persons.map aR), .sl 1 (e.Lots.map aF)], .cp (Z26 ly), .cp [.sl 1 (B.map aF)], .bp o 0 0], .arr (vw j a.length c) 3 1 (a.map aF)]) := by
  induction kr with
  | zero => intros; rename_i h; cases h
  | succ kr ih =>
    intro a F e B sy r o j c m0 hj hcap hsz h;simp only [iG] at h;refine qT func170 rfl (rs := [.tmp 8]) results170 ntmps170 (Nat.le_of_ble_eq_true rfl) ?_;refine aC (aA (ta Z2 (aB (aC (aA (tm (.d (.lit (vw j a.length c))) (to (iH (m := 2) (aE rfl) rfl rfl bC.of) ?_)))))));refine ta (.i (a.length : Int)) (aB (aC (aC (aA (tm (.i (a.length : Int)) (to (sfc [.j e.Size] rfl dD) (to (slc rfl aQ) (to (scm rfl rfl rfl) (aB ?_)))))))));refine tih h (fun c1 h => ?_) (fun c1 h => ?_)
    ·refine aC ?_;obtain ⟨r3, h4, h⟩ := bns h;refine iE mix 3 [] (fun X2 => [(19, .d (.lit (yv ly))), (21, .d (.lit (X2 2).v))]) (fun X2 => [m0, rE o 170 [.cp [.j e.Size, .j e.Seeds, .sl 3 (e.Persons.map aR), .sl 1 (e.Lots.map aF)], .cp (Z26 ly), .cp [.sl 1 (B.map aF)], .bp o 0 0], .arr (vw j a.length c) 3 1 (a.map aF), .arr (X2 2).v 3 1 (r3.map aF)]) ?_ ?_
     ·refine ⟨1, fun X2 => [(19, 0, .d (.lit (yv ly))), (20, 1, .d (.lit (vw j a.length c))), (21, 2, .d (.lit (X2 2).v))], fun X2 => [([], m0), ([], rE o 170 [.cp [.j e.Size, .j e.Seeds, .sl 3 (e.Persons.map aR), .sl 1 (e.Lots.map aF)], .cp (Z26 ly), .cp [.sl 1 (B.map aF)], .bp o 0 0]), ([], .arr (vw j a.length c) 3 1 (a.map aF)), ([(2, .arr (X2 2).v 3 1 (r3.map aF))], nob)], ?_, ?_⟩
      · exact xok [(0, 0), (0, 3), (2, 0)] ⟨fun _ _ w _ k => xp w (ylc k rfl bFo),
 fun _ _ w _ k => xp w (ym k (.d (.lit (vw j a.length c)))),
 fun X2 S hw hi hS => uH (X := X2) (p := 3) (v := fun x => .d (.lit x.v)) (mo := fun x => .arr x.v 3 1 (r3.map aF)) hS hi rfl rfl (fun _ => rfl) hw (fun _ => rfl) (fun _ => rfl) (fun _ => rfl) (fun _ => ⟨rfl, rfl, .inr rfl, ⟨rfl, rfl, .inr rfl, ⟨rfl, rfl, .inl rfl, trivial⟩⟩⟩) (fun _ => ⟨trivial, rfl, ⟨trivial, rfl, ⟨trivial, rfl, ⟨⟨rfl, .inl rfl, trivial⟩, rfl, trivial⟩⟩⟩⟩) (kQ (aXa (aE rfl) (.func _ _ call93) (ev2 (aX hS rfl) evn) rfl (.cons (.d (gZ 2 (og hS rfl rfl) (bY (f := aF) fun _ => rfl))) .nil) (rV _ h4) (aSj (fun _ => rfl) _)) (by rintro _ ⟨w, rfl⟩; exact ⟨⟨0, w⟩, aO [0, 1, 2, 4] rfl rfl (le_refl _)⟩)), trivial⟩
      · exact fun X2 => bT (aH rfl (aH rfl (aK trivial)))
     ·intro X2;refine gY (aMc [m0, rE o 170 [.cp [.j e.Size, .j e.Seeds, .sl 3 (e.Persons.map aR), .sl 1 (e.Lots.map aF)], .cp (Z26 ly), .cp [.sl 1 (B.map aF)], .bp o 0 0], .arr (vw j a.length c) 3 1 (a.map aF)] [.arr (X2 2).v 3 1 (r3.map aF)] rfl (pQ (k := 21) (v := .d (.sl 1 (r3.map aF))) (.d (gZ 0 rfl (bY (f := aF) fun _ => rfl))) (aAx _ _))) ?_;obtain ⟨y5, h6, h⟩ := bns h;refine bCk rfl (bDz (aE rfl) rfl rfl rfl rfl (hy _ _ _ _ hj h6)) ?_;rintro _ ⟨_, m7, ⟨rfl, a4⟩, rfl⟩;refine ta (.b y5.2) (aB ?_);obtain rfl := sIn h;exact cD ⟨rfl, _, [m7, rE o 170 [.cp [.j e.Size, .j e.Seeds, .sl 3 (e.Persons.map aR), .sl 1 (e.Lots.map aF)], .cp (Z26 ly), .cp [.sl 1 (B.map aF)], .bp o 0 0], .arr (vw j a.length c) 3 1 (a.map aF)], [], _, .one (.tmp 8 (v := .b y5.2) rfl), .refl _, .same _, m7, rfl, a4, rfl⟩
    ·refine aU (aC (aC (aA (to (slc rfl cC) (to (sle rfl bC.of) (tm (.i 0) (aB (bD ?_))))))));refine bP (S := Int × ({x : S × MO // J x.1 x.2})) [0, 1, 2, 5, 9, 23, 24] (fun s9 => [(25, .i s9.1)]) (fun s9 => [.arr (vw j a.length c) 3 1 (a.map aF), s9.2.1.2, rE o 170 [.cp [.j e.Size, .j e.Seeds, .sl 3 (e.Persons.map aR), .sl 1 (e.Lots.map aF)], .cp (Z26 ly), .cp [.sl 1 (B.map aF)], .bp o 0 0]]) (fun k s9 => iY V (iG V kr) F e (a.length : Int) B (B.length : Int) a e B k s9.1 s9.2.1.1) (fun _ => rfl) (0, ⟨(sy, m0), hj⟩) h (aO [2, 0, 1] rfl rfl (aH rfl (aK (ae rfl)))) ?_;rintro b3 ⟨L, I⟩ h;simp only [iY] at h;refine aC (aA (to (scm rfl rfl rfl) (aB (aC ?_))));refine tih h (fun a5 h => ?_) (fun a5 h => ?_)
     ·refine aU (aC (bD (aC (aA ?_))));obtain ⟨g, a6, h⟩ := bns h;refine to (six rfl rfl bC.of (aW aF a6)) (to (slc rfl aQ) (ta (.i g) (aB (aC (aA (tm (.i F) (ta (.i F) (aB (aC (aC (aA (tm (.i g) (to (scm rfl rfl rfl) ?_)))))))))))));refine aB ?_;obtain ⟨q, T, h⟩ := bns h;refine bGg [0, 1, 2, 5, 9, 11, 23, 24, 25] [(12, .i q)] [.arr (vw j a.length c) 3 1 (a.map aF), I.1.2, rE o 170 [.cp [.j e.Size, .j e.Seeds, .sl 3 (e.Persons.map aR), .sl 1 (e.Lots.map aF)], .cp (Z26 ly), .cp [.sl 1 (B.map aF)], .bp o 0 0]] ?_ ?_
      ·refine tih T (fun a7 T => ?_) (fun a7 T => ?_)
       ·refine aA (tm (.i F) (to (sar rfl rfl rfl) (ta (.i (w64 (F - 1))) (aB ?_))));obtain rfl := sIn T;exact aO [0, 1, 2] rfl rfl (aH rfl (aK (ae rfl)))
       ·refine aU ?_;obtain rfl := sIn T;exact aO [0, 1, 2] rfl rfl (aH rfl (aK (ae rfl)))
      ·refine aC (aC ?_);obtain ⟨b4, N, h⟩ := bns h;obtain ⟨b5, G, h⟩ := bns h;obtain ⟨a8, C, h⟩ := bns h;refine cI mix 34 [0, 1, 2, 5, 9, 11, 12, 23, 24, 25] [(67, .b a8)] ?_ ?_
       ·refine bch N (fun u N => ?_) (fun u N => ?_)
        ·obtain rfl := sIn N;have n : true = true := rfl;have G := zH n G;obtain rfl := sIn G;have l : true = true := rfl;have C := zH l C;obtain rfl := sIn C;refine ⟨[(34, 0, .i q), (35, 1, .b (decide (q < 0))), (36, 2, .b (decide (q < 0))), (37, 3, .tup []), (38, 4, .tup []), (39, 5, .tup []), (40, 6, .tup []), (41, 7, .tup []), (42, 8, .tup []), (43, 9, .tup []), (44, 10, .b true), (45, 11, .b (true)), (46, 12, .tup []), (47, 13, .tup []), (48, 14, .tup []), (49, 15, .tup []), (50, 16, .tup []), (51, 17, .b true), (52, 18, .b (true)), (53, 19, .tup []), (54, 20, .tup []), (55, 21, .tup []), (56, 22, .tup []), (57, 23, .tup []), (58, 24, .tup []), (59, 25, .tup []), (60, 26, .tup []), (61, 27, .tup []), (62, 28, .tup []), (63, 29, .tup []), (64, 30, .tup []), (65, 31, .tup []), (66, 32, .tup []), (67, 33, .b true)], ?_, ?_⟩
         · exact dk [0, 1, 2, 3, 304, 305, 6, 6, 60708, 30609, 310, 11, 12, 12, 12, 12131415, 1216, 1217, 18, 19, 1920, 1921, 1922, 23, 23, 23, 2326, 232527, 2328, 23, 23242930, 2331, 192332, 1933] ⟨go (zm (.i q)),
 go (zcm rfl rfl rfl),
 go (zm (.b (decide (q < 0)))),
 gp u,
 gp u,
 gp u,
 gq,
 gq,
 gq,
 gp u,
 go (zpt Z14 u),
 go (zm (.b (true))),
 gp n,
 gp n,
 gp n,
 gp n,
 gp n,
 go (zpt Z14 n),
 go (zm (.b (true))),
 gp l,
 gp l,
 gp l,
 gp l,
 gq,
 gq,
 gq,
 gq,
 gq,
 gq,
 gq,
 gq,
 gq,
 gp l,
 go (zpt Z14 l), trivial⟩
         · exact bT (aH rfl (aK (ae rfl)))
        ·obtain ⟨b6, P, N⟩ := bns N;refine bch P (fun z P => ?_) (fun z P => ?_)
         ·obtain ⟨A, W, P⟩ := bns P;obtain rfl := sIn P;obtain rfl := sIn N;refine bch G (fun n G => ?_) (fun n G => ?_)
          ·obtain rfl := sIn G;have l : true = true := rfl;have C := zH l C;obtain rfl := sIn C;refine ⟨[(34, 0, .i q), (35, 1, .b (decide (q < 0))), (36, 2, .b (decide (q < 0))), (37, 3, .i g), (38, 4, .b (!decide (g = (-1)))), (39, 5, .b (!decide (g = (-1)))), (40, 6, .d (.lit (vw j a.length c))), (41, 7, .i g), (42, 8, .b A), (43, 9, .b A), (44, 10, .b (A)), (45, 11, .b (A)), (46, 12, .tup []), (47, 13, .tup []), (48, 14, .tup []), (49, 15, .tup []), (50, 16, .tup []), (51, 17, .b true), (52, 18, .b (true)), (53, 19, .tup []), (54, 20, .tup []), (55, 21, .tup []), (56, 22, .tup []), (57, 23, .tup []), (58, 24, .tup []), (59, 25, .tup []), (60, 26, .tup []), (61, 27, .tup []), (62, 28, .tup []), (63, 29, .tup []), (64, 30, .tup []), (65, 31, .tup []), (66, 32, .tup []), (67, 33, .b true)], ?_, ?_⟩
           · exact dk [0, 1, 2, 3, 304, 305, 6, 6, 60708, 30609, 310, 11, 12, 12, 12, 12131415, 1216, 1217, 18, 19, 1920, 1921, 1922, 23, 23, 23, 2326, 232527, 2328, 23, 23242930, 2331, 192332, 1933] ⟨go (zm (.i q)),
 go (zcm rfl rfl rfl),
 go (zm (.b (decide (q < 0)))),
 gt u (zm (.i g)),
 gt u (zcm rfl rfl rfl),
 gt u (zm (.b (!decide (g = (-1))))),
 gt z (zm (.d (.lit (vw j a.length c)))),
 gt z (zm (.i g)),
 gt z fun S hS => cT (aE rfl) (.func _ _ call91) (ev2 (aX hS rfl) (ev2 (aX hS rfl) evn)) rfl (.cons (.d (gZ 0 rfl (bY (f := aF) fun _ => rfl))) (.cons (.same _) .nil)) (cX _ _ W) rfl,
 gt u (zpt (.b A) z),
 go (zpf (.b (A)) u),
 go (zm (.b (A))),
 gp n,
 gp n,
 gp n,
 gp n,
 gp n,
 go (zpt Z14 n),
 go (zm (.b (true))),
 gp l,
 gp l,
 gp l,
 gp l,
 gq,
 gq,
 gq,
 gq,
 gq,
 gq,
 gq,
 gq,
 gq,
 gp l,
 go (zpt Z14 l), trivial⟩
           · exact bT (aH rfl (aK (ae rfl)))
          ·obtain ⟨y, Q, G⟩ := bns G;obtain rfl := sIn G;refine bch C (fun l C => ?_) (fun l C => ?_)
           ·obtain rfl := sIn C;refine ⟨[(34, 0, .i q), (35, 1, .b (decide (q < 0))), (36, 2, .b (decide (q < 0))), (37, 3, .i g), (38, 4, .b (!decide (g = (-1)))), (39, 5, .b (!decide (g = (-1)))), (40, 6, .d (.lit (vw j a.length c))), (41, 7, .i g), (42, 8, .b A), (43, 9, .b A), (44, 10, .b (A)), (45, 11, .b (A)), (46, 12, .agg (aT e)), (47, 13, .i (a.length : Int)), (48, 14, .i g), (49, 15, .b y), (50, 16, .b (!y)), (51, 17, .b (!y)), (52, 18, .b (!y)), (53, 19, .tup []), (54, 20, .tup []), (55, 21, .tup []), (56, 22, .tup []), (57, 23, .tup []), (58, 24, .tup []), (59, 25, .tup []), (60, 26, .tup []), (61, 27, .tup []), (62, 28, .tup []), (63, 29, .tup []), (64, 30, .tup []), (65, 31, .tup []), (66, 32, .tup []), (67, 33, .b true)], ?_, ?_⟩
            · exact dk [0, 1, 2, 3, 304, 305, 6, 6, 60708, 30609, 310, 11, 12, 12, 12, 12131415, 1216, 1217, 18, 19, 1920, 1921, 1922, 23, 23, 23, 2326, 232527, 2328, 23, 23242930, 2331, 192332, 1933] ⟨go (zm (.i q)),
 go (zcm rfl rfl rfl),
 go (zm (.b (decide (q < 0)))),
 gt u (zm (.i g)),
 gt u (zcm rfl rfl rfl),
 gt u (zm (.b (!decide (g = (-1))))),
 gt z (zm (.d (.lit (vw j a.length c)))),
 gt z (zm (.i g)),
 gt z fun S hS => cT (aE rfl) (.func _ _ call91) (ev2 (aX hS rfl) (ev2 (aX hS rfl) evn)) rfl (.cons (.d (gZ 0 rfl (bY (f := aF) fun _ => rfl))) (.cons (.same _) .nil)) (cX _ _ W) rfl,
 gt u (zpt (.b A) z),
 go (zpf (.b (A)) u),
 go (zm (.b (A))),
 gt n (aFg (aT e) rfl eT),
 gt n (zm (.i (a.length : Int))),
 gt n (zm (.i g)),
 gt n fun S hS => cT (aE rfl) (.func _ _ call171) (ev2 (aX hS rfl) (ev2 (aX hS rfl) (ev2 (aX hS rfl) evn))) rfl (BVs.refl _ _) (tW _ _ _ Q) rfl,
 gt n (zn rfl),
 go (zpf (.b (!y)) n),
 go (zm (.b (!y))),
 gp l,
 gp l,
 gp l,
 gp l,
 gq,
 gq,
 gq,
 gq,
 gq,
 gq,
 gq,
 gq,
 gq,
 gp l,
 go (zpt Z14 l), trivial⟩
            · exact bT (aH rfl (aK (ae rfl)))
           ·obtain ⟨a9, E, C⟩ := bns C;refine bch E (fun t E => ?_) (fun t E => ?_)
            ·obtain ⟨Y, U, E⟩ := bns E;obtain ⟨H, Z, E⟩ := bns E;obtain rfl := sIn E;obtain rfl := sIn C;refine ⟨[(34, 0, .i q), (35, 1, .b (decide (q < 0))), (36, 2, .b (decide (q < 0))), (37, 3, .i g), (38, 4, .b (!decide (g = (-1)))), (39, 5, .b (!decide (g = (-1)))), (40, 6, .d (.lit (vw j a.length c))), (41, 7, .i g), (42, 8, .b A), (43, 9, .b A), (44, 10, .b (A)), (45, 11, .b (A)), (46, 12, .agg (aT e)), (47, 13, .i (a.length : Int)), (48, 14, .i g), (49, 15, .b y), (50, 16, .b (!y)), (51, 17, .b (!y)), (52, 18, .b (!y)), (53, 19, .i (a.length : Int)), (54, 20, .i ((a.length : Int).tmod 2)), (55, 21, .b (decide (((a.length : Int).tmod 2) = 1))), (56, 22, .b (decide (((a.length : Int).tmod 2) = 1))), (57, 23, .agg (aT e)), (58, 24, .d (.lit (vw j a.length c))), (59, 25, .i (a.length : Int)), (60, 26, .i (w64 ((a.length : Int) - 1))), (61, 27, .ep (vw j a.length c) 1 (w64 ((a.length : Int) - 1)).toNat 0), (62, 28, .i Y), (63, 29, .i g), (64, 30, .b H), (65, 31, .b (!H)), (66, 32, .b (!H)), (67, 33, .b (!H))], ?_, ?_⟩
             · exact dk [0, 1, 2, 3, 304, 305, 6, 6, 60708, 30609, 310, 11, 12, 12, 12, 12131415, 1216, 1217, 18, 19, 1920, 1921, 1922, 23, 23, 23, 2326, 232527, 2328, 23, 23242930, 2331, 192332, 1933] ⟨go (zm (.i q)),
 go (zcm rfl rfl rfl),
 go (zm (.b (decide (q < 0)))),
 gt u (zm (.i g)),
 gt u (zcm rfl rfl rfl),
 gt u (zm (.b (!decide (g = (-1))))),
 gt z (zm (.d (.lit (vw j a.length c)))),
 gt z (zm (.i g)),
 gt z fun S hS => cT (aE rfl) (.func _ _ call91) (ev2 (aX hS rfl) (ev2 (aX hS rfl) evn)) rfl (.cons (.d (gZ 0 rfl (bY (f := aF) fun _ => rfl))) (.cons (.same _) .nil)) (cX _ _ W) rfl,
 gt u (zpt (.b A) z),
 go (zpf (.b (A)) u),
 go (zm (.b (A))),
 gt n (aFg (aT e) rfl eT),
 gt n (zm (.i (a.length : Int))),
 gt n (zm (.i g)),
 gt n fun S hS => cT (aE rfl) (.func _ _ call171) (ev2 (aX hS rfl) (ev2 (aX hS rfl) (ev2 (aX hS rfl) evn))) rfl (BVs.refl _ _) (tW _ _ _ Q) rfl,
 gt n (zn rfl),
 go (zpf (.b (!y)) n),
 go (zm (.b (!y))),
 gt l (zm (.i (a.length : Int))),
 gt l fun S hS => aJh (aE rfl) (aX hS rfl) rfl (by decide),
 gt l (zcm rfl rfl rfl),
 gt l (zm (.b (decide (((a.length : Int).tmod 2) = 1)))),
 gt t (aFg (aT e) rfl eT),
 gt t (zm (.d (.lit (vw j a.length c)))),
 gt t (zm (.i (a.length : Int))),
 gt t (zar rfl rfl rfl),
 gt t (zia 0 rfl rfl rfl bC.of (aW aF U)),
 gt t fun S hS => gJ (aE rfl) (aX hS rfl) (m := 0) rfl (dI aF U) rfl aQ,
 gt t (zm (.i g)),
 gt t fun S hS => cT (aE rfl) (.func _ _ call172) (ev2 (aX hS rfl) (ev2 (aX hS rfl) (ev2 (aX hS rfl) evn))) rfl (BVs.refl _ _) (aJn _ _ _ Z) rfl,
 gt t (zn rfl),
 gt l (zpt (.b (!H)) t),
 go (zpf (.b (!H)) l), trivial⟩
             · exact bT (aH rfl (aK (ae rfl)))
            ·obtain rfl := sIn E;obtain rfl := sIn C;refine ⟨[(34, 0, .i q), (35, 1, .b (decide (q < 0))), (36, 2, .b (decide (q < 0))), (37, 3, .i g), (38, 4, .b (!decide (g = (-1)))), (39, 5, .b (!decide (g = (-1)))), (40, 6, .d (.lit (vw j a.length c))), (41, 7, .i g), (42, 8, .b A), (43, 9, .b A), (44, 10, .b (A)), (45, 11, .b (A)), (46, 12, .agg (aT e)), (47, 13, .i (a.length : Int)), (48, 14, .i g), (49, 15, .b y), (50, 16, .b (!y)), (51, 17, .b (!y)), (52, 18, .b (!y)), (53, 19, .i (a.length : Int)), (54, 20, .i ((a.length : Int).tmod 2)), (55, 21, .b (decide (((a.length : Int).tmod 2) = 1))), (56, 22, .b (decide (((a.length : Int).tmod 2) = 1))), (57, 23, .tup []), (58, 24, .tup []), (59, 25, .tup []), (60, 26, .tup []), (61, 27, .tup []), (62, 28, .tup []), (63, 29, .tup []), (64, 30, .tup []), (65, 31, .tup []), (66, 32, .b false), (67, 33, .b (false))], ?_, ?_⟩
             · exact dk [0, 1, 2, 3, 304, 305, 6, 6, 60708, 30609, 310, 11, 12, 12, 12, 12131415, 1216, 1217, 18, 19, 1920, 1921, 1922, 23, 23, 23, 2326, 232527, 2328, 23, 23242930, 2331, 192332, 1933] ⟨go (zm (.i q)),
 go (zcm rfl rfl rfl),
 go (zm (.b (decide (q < 0)))),
 gt u (zm (.i g)),
 gt u (zcm rfl rfl rfl),
 gt u (zm (.b (!decide (g = (-1))))),
 gt z (zm (.d (.lit (vw j a.length c)))),
 gt z (zm (.i g)),
 gt z fun S hS => cT (aE rfl) (.func _ _ call91) (ev2 (aX hS rfl) (ev2 (aX hS rfl) evn)) rfl (.cons (.d (gZ 0 rfl (bY (f := aF) fun _ => rfl))) (.cons (.same _) .nil)) (cX _ _ W) rfl,
 gt u (zpt (.b A) z),
 go (zpf (.b (A)) u),
 go (zm (.b (A))),
 gt n (aFg (aT e) rfl eT),
 gt n (zm (.i (a.length : Int))),
 gt n (zm (.i g)),
 gt n fun S hS => cT (aE rfl) (.func _ _ call171) (ev2 (aX hS rfl) (ev2 (aX hS rfl) (ev2 (aX hS rfl) evn))) rfl (BVs.refl _ _) (tW _ _ _ Q) rfl,
 gt n (zn rfl),
 go (zpf (.b (!y)) n),
 go (zm (.b (!y))),
 gt l (zm (.i (a.length : Int))),
 gt l fun S hS => aJh (aE rfl) (aX hS rfl) rfl (by decide),
 gt l (zcm rfl rfl rfl),
 gt l (zm (.b (decide (((a.length : Int).tmod 2) = 1)))),
 gp t,
 gp t,
 gp t,
 gp t,
 gp t,
 gp t,
 gp t,
 gp t,
 gp t,
 gt l (zpf Z2 t),
 go (zpf Z43 l), trivial⟩
             · exact bT (aH rfl (aK (ae rfl)))
         ·obtain rfl := sIn P;obtain rfl := sIn N;have n : false = false := rfl;have G := aDv n G;obtain ⟨y, Q, G⟩ := bns G;obtain rfl := sIn G;refine bch C (fun l C => ?_) (fun l C => ?_)
          ·obtain rfl := sIn C;refine ⟨[(34, 0, .i q), (35, 1, .b (decide (q < 0))), (36, 2, .b (decide (q < 0))), (37, 3, .i g), (38, 4, .b (!decide (g = (-1)))), (39, 5, .b (!decide (g = (-1)))), (40, 6, .tup []), (41, 7, .tup []), (42, 8, .tup []), (43, 9, .b false), (44, 10, .b (false)), (45, 11, .b (false)), (46, 12, .agg (aT e)), (47, 13, .i (a.length : Int)), (48, 14, .i g), (49, 15, .b y), (50, 16, .b (!y)), (51, 17, .b (!y)), (52, 18, .b (!y)), (53, 19, .tup []), (54, 20, .tup []), (55, 21, .tup []), (56, 22, .tup []), (57, 23, .tup []), (58, 24, .tup []), (59, 25, .tup []), (60, 26, .tup []), (61, 27, .tup []), (62, 28, .tup []), (63, 29, .tup []), (64, 30, .tup []), (65, 31, .tup []), (66, 32, .tup []), (67, 33, .b true)], ?_, ?_⟩
           · exact dk [0, 1, 2, 3, 304, 305, 6, 6, 60708, 30609, 310, 11, 12, 12, 12, 12131415, 1216, 1217, 18, 19, 1920, 1921, 1922, 23, 23, 23, 2326, 232527, 2328, 23, 23242930, 2331, 192332, 1933] ⟨go (zm (.i q)),
 go (zcm rfl rfl rfl),
 go (zm (.b (decide (q < 0)))),
 gt u (zm (.i g)),
 gt u (zcm rfl rfl rfl),
 gt u (zm (.b (!decide (g = (-1))))),
 gp z,
 gp z,
 gp z,
 gt u (zpf Z2 z),
 go (zpf Z43 u),
 go (zm Z43),
 gt n (aFg (aT e) rfl eT),
 gt n (zm (.i (a.length : Int))),
 gt n (zm (.i g)),
 gt n fun S hS => cT (aE rfl) (.func _ _ call171) (ev2 (aX hS rfl) (ev2 (aX hS rfl) (ev2 (aX hS rfl) evn))) rfl (BVs.refl _ _) (tW _ _ _ Q) rfl,
 gt n (zn rfl),
 go (zpf (.b (!y)) n),
 go (zm (.b (!y))),
 gp l,
 gp l,
 gp l,
 gp l,
 gq,
 gq,
 gq,
 gq,
 gq,
 gq,
 gq,
 gq,
 gq,
 gp l,
 go (zpt Z14 l), trivial⟩
           · exact bT (aH rfl (aK (ae rfl)))
          ·obtain ⟨a9, E, C⟩ := bns C;refine bch E (fun t E => ?_) (fun t E => ?_)
           ·obtain ⟨Y, U, E⟩ := bns E;obtain ⟨H, Z, E⟩ := bns E;obtain rfl := sIn E;obtain rfl := sIn C;refine ⟨[(34, 0, .i q), (35, 1, .b (decide (q < 0))), (36, 2, .b (decide (q < 0))), (37, 3, .i g), (38, 4, .b (!decide (g = (-1)))), (39, 5, .b (!decide (g = (-1)))), (40, 6, .tup []), (41, 7, .tup []), (42, 8, .tup []), (43, 9, .b false), (44, 10, .b (false)), (45, 11, .b (false)), (46, 12, .agg (aT e)), (47, 13, .i (a.length : Int)), (48, 14, .i g), (49, 15, .b y), (50, 16, .b (!y)), (51, 17, .b (!y)), (52, 18, .b (!y)), (53, 19, .i (a.length : Int)), (54, 20, .i ((a.length : Int).tmod 2)), (55, 21, .b (decide (((a.length : Int).tmod 2) = 1))), (56, 22, .b (decide (((a.length : Int).tmod 2) = 1))), (57, 23, .agg (aT e)), (58, 24, .d (.lit (vw j a.length c))), (59, 25, .i (a.length : Int)), (60, 26, .i (w64 ((a.length : Int) - 1))), (61, 27, .ep (vw j a.length c) 1 (w64 ((a.length : Int) - 1)).toNat 0), (62, 28, .i Y), (63, 29, .i g), (64, 30, .b H), (65, 31, .b (!H)), (66, 32, .b (!H)), (67, 33, .b (!H))], ?_, ?_⟩
            · exact dk [0, 1, 2, 3, 304, 305, 6, 6, 60708, 30609, 310, 11, 12, 12, 12, 12131415, 1216, 1217, 18, 19, 1920, 1921, 1922, 23, 23, 23, 2326, 232527, 2328, 23, 23242930, 2331, 192332, 1933] ⟨go (zm (.i q)),
 go (zcm rfl rfl rfl),
 go (zm (.b (decide (q < 0)))),
 gt u (zm (.i g)),
 gt u (zcm rfl rfl rfl),
 gt u (zm (.b (!decide (g = (-1))))),
 gp z,
 gp z,
 gp z,
 gt u (zpf Z2 z),
 go (zpf Z43 u),
 go (zm Z43),
 gt n (aFg (aT e) rfl eT),
 gt n (zm (.i (a.length : Int))),
 gt n (zm (.i g)),
 gt n fun S hS => cT (aE rfl) (.func _ _ call171) (ev2 (aX hS rfl) (ev2 (aX hS rfl) (ev2 (aX hS rfl) evn))) rfl (BVs.refl _ _) (tW _ _ _ Q) rfl,
 gt n (zn rfl),
 go (zpf (.b (!y)) n),
 go (zm (.b (!y))),
 gt l (zm (.i (a.length : Int))),
 gt l fun S hS => aJh (aE rfl) (aX hS rfl) rfl (by decide),
 gt l (zcm rfl rfl rfl),
 gt l (zm (.b (decide (((a.length : Int).tmod 2) = 1)))),
 gt t (aFg (aT e) rfl eT),
 gt t (zm (.d (.lit (vw j a.length c)))),
 gt t (zm (.i (a.length : Int))),
 gt t (zar rfl rfl rfl),
 gt t (zia 0 rfl rfl rfl bC.of (aW aF U)),
 gt t fun S hS => gJ (aE rfl) (aX hS rfl) (m := 0) rfl (dI aF U) rfl aQ,
 gt t (zm (.i g)),
 gt t fun S hS => cT (aE rfl) (.func _ _ call172) (ev2 (aX hS rfl) (ev2 (aX hS rfl) (ev2 (aX hS rfl) evn))) rfl (BVs.refl _ _) (aJn _ _ _ Z) rfl,
 gt t (zn rfl),
 gt l (zpt (.b (!H)) t),
 go (zpf (.b (!H)) l), trivial⟩
            · exact bT (aH rfl (aK (ae rfl)))
           ·obtain rfl := sIn E;obtain rfl := sIn C;refine ⟨[(34, 0, .i q), (35, 1, .b (decide (q < 0))), (36, 2, .b (decide (q < 0))), (37, 3, .i g), (38, 4, .b (!decide (g = (-1)))), (39, 5, .b (!decide (g = (-1)))), (40, 6, .tup []), (41, 7, .tup []), (42, 8, .tup []), (43, 9, .b false), (44, 10, .b (false)), (45, 11, .b (false)), (46, 12, .agg (aT e)), (47, 13, .i (a.length : Int)), (48, 14, .i g), (49, 15, .b y), (50, 16, .b (!y)), (51, 17, .b (!y)), (52, 18, .b (!y)), (53, 19, .i (a.length : Int)), (54, 20, .i ((a.length : Int).tmod 2)), (55, 21, .b (decide (((a.length : Int).tmod 2) = 1))), (56, 22, .b (decide (((a.length : Int).tmod 2) = 1))), (57, 23, .tup []), (58, 24, .tup []), (59, 25, .tup []), (60, 26, .tup []), (61, 27, .tup []), (62, 28, .tup []), (63, 29, .tup []), (64, 30, .tup []), (65, 31, .tup []), (66, 32, .b false), (67, 33, .b (false))], ?_, ?_⟩
            · exact dk [0, 1, 2, 3, 304, 305, 6, 6, 60708, 30609, 310, 11, 12, 12, 12, 12131415, 1216, 1217, 18, 19, 1920, 1921, 1922, 23, 23, 23, 2326, 232527, 2328, 23, 23242930, 2331, 192332, 1933] ⟨go (zm (.i q)),
 go (zcm rfl rfl rfl),
 go (zm (.b (decide (q < 0)))),
 gt u (zm (.i g)),
 gt u (zcm rfl rfl rfl),
 gt u (zm (.b (!decide (g = (-1))))),
 gp z,
 gp z,
 gp z,
 gt u (zpf Z2 z),
 go (zpf Z43 u),
 go (zm Z43),
 gt n (aFg (aT e) rfl eT),
 gt n (zm (.i (a.length : Int))),
 gt n (zm (.i g)),
 gt n fun S hS => cT (aE rfl) (.func _ _ call171) (ev2 (aX hS rfl) (ev2 (aX hS rfl) (ev2 (aX hS rfl) evn))) rfl (BVs.refl _ _) (tW _ _ _ Q) rfl,
 gt n (zn rfl),
 go (zpf (.b (!y)) n),
 go (zm (.b (!y))),
 gt l (zm (.i (a.length : Int))),
 gt l fun S hS => aJh (aE rfl) (aX hS rfl) rfl (by decide),
 gt l (zcm rfl rfl rfl),
 gt l (zm (.b (decide (((a.length : Int).tmod 2) = 1)))),
 gp t,
 gp t,
 gp t,
 gp t,
 gp t,
 gp t,
 gp t,
 gp t,
 gp t,
 gt l (zpf Z2 t),
 go (zpf Z43 l), trivial⟩
            · exact bT (aH rfl (aK (ae rfl)))
       ·refine aB ?_;refine tih h (fun b0 h => ?_) (fun b0 h => ?_)
        ·refine bO ?_;refine .inl ⟨rfl, ?_⟩;refine aA (to (sar rfl rfl rfl) (tm (.i (w64 (L + 1))) (aB ?_)));exact ⟨(w64 (L + 1), ⟨(I.1.1, I.1.2), I.2⟩), h, aO [0, 1, 2] rfl rfl (aH rfl (aK (ae rfl)))⟩
        ·refine aU (aC ?_);obtain ⟨M, a0, h⟩ := bns h;refine iE mix 6 [0, 1, 2, 5, 9, 23, 24, 25] (fun O => [(68, .fn 170 [.cp [.j e.Size, .j e.Seeds, .sl 3 (e.Persons.map aR), .sl 1 (e.Lots.map aF)], .cp (Z26 ly), .cp [.sl 1 (B.map aF)], .bp o 0 0]), (72, .d (.lit (vw j M.length c))), (73, .i q)]) (fun O => [.arr (vw j M.length c) 3 1 (M.map aF), I.1.2, rE o 170 [.cp [.j e.Size, .j e.Seeds, .sl 3 (e.Persons.map aR), .sl 1 (e.Lots.map aF)], .cp (Z26 ly), .cp [.sl 1 (B.map aF)], .bp o 0 0]]) ?_ ?_
         ·refine ⟨0, fun O => [(68, 0, .fn 170 [.cp [.j e.Size, .j e.Seeds, .sl 3 (e.Persons.map aR), .sl 1 (e.Lots.map aF)], .cp (Z26 ly), .cp [.sl 1 (B.map aF)], .bp o 0 0]), (69, 1, .d (.lit (vw j a.length c))), (70, 2, .i g), (71, 3, .d (.sl 1 (([g]).map aF))), (72, 4, .d (.lit (vw j M.length c))), (73, 5, .i q)], fun O => [([(4, .arr (vw j M.length c) 3 1 (M.map aF))], .arr (vw j a.length c) 3 1 (a.map aF)), ([], I.1.2), ([], rE o 170 [.cp [.j e.Size, .j e.Seeds, .sl 3 (e.Persons.map aR), .sl 1 (e.Lots.map aF)], .cp (Z26 ly), .cp [.sl 1 (B.map aF)], .bp o 0 0])], ?_, ?_⟩
          · exact xok [(0, 0), (0, 5), (0, 5), (3, 5), (204, 0), (0, 0)] ⟨fun _ _ w _ k => xp w (aNm (i := 2) (aE rfl) (aX k rfl) (og k rfl rfl) aXx),
 fun _ _ w _ k => xp w (ym k (.d (.lit (vw j a.length c)))),
 fun _ _ w _ k => xp w (ym k (.i g)),
 fun _ _ w _ k => xp w (dE (aE rfl) bC rfl (pa2 (aX k rfl) pan) (rows := ([g]).map aF) rfl (bY (f := aF) fun _ => rfl) rfl (by decide)),
 fun O S hw hi hS => bCo (X := O) (p := 0) hS rfl rfl rfl (hw O) rfl rfl rfl (kQ (bBs (i := 0) (f := aF) (aE rfl) bC (aX hS rfl) (og hS rfl rfl) (aX hS rfl) (fun _ => rfl) hsz a0 (List.cons_ne_nil _ _)) (by rintro _ rfl; exact Ent.refl _)),
 fun _ _ w _ k => xp w (ym k (.i q)), trivial⟩
          · exact fun O => bT (aH rfl (aH rfl (aH rfl (aK (ae rfl)))))
         ·intro O;obtain ⟨b1, b2, h⟩ := bns h;refine gY (aO [1, 2, 0] rfl rfl (le_refl _)) ?_;refine bG rfl (dU (passed := [I.1.2, rE o 170 [.cp [.j e.Size, .j e.Seeds, .sl 3 (e.Persons.map aR), .sl 1 (e.Lots.map aF)], .cp (Z26 ly), .cp [.sl 1 (B.map aF)], .bp o 0 0], .arr (vw j M.length c) 3 1 (M.map aF)]) (aE rfl) rfl (.clo _ _ _ _ call170 rfl) (wT rfl) rfl (ih M q e B I.1.1 _ I.2 (bCm hsz a0) hsz b2)) ?_;rintro _ ⟨_, _, ⟨a1, rfl, a2, rfl⟩, rfl⟩;refine gY (aWj 2 a0 rfl) ?_;refine to (sn rfl) (aB ?_);refine tih h (fun a3 h => ?_) (fun a3 h => ?_)
          ·refine aC (aA (ta Z2 (aB ?_)));obtain rfl := sIn h;exact cD ⟨rfl, _, [a1, rE o 170 [.cp [.j e.Size, .j e.Seeds, .sl 3 (e.Persons.map aR), .sl 1 (e.Lots.map aF)], .cp (Z26 ly), .cp [.sl 1 (B.map aF)], .bp o 0 0], .arr (vw j a.length c) 3 1 (a.map aF)], [], _, .one (.tmp 8 (v := .b false) rfl), .refl _, .same _, a1, rfl, (bHp a2 a3), rfl⟩
          ·refine cA ?_;refine aA (to (sar rfl rfl rfl) (tm (.i (w64 (L + 1))) (aB ?_)));exact ⟨(w64 (L + 1), ⟨(b1.1, a1), (bHv a2 (bnf a3))⟩), h, aO [2, 0, 1] rfl rfl (aH rfl (aK (ae rfl)))⟩
     ·refine bO ?_;refine .inl ⟨rfl, ?_⟩;simp only [wS] at h;refine aC (aA (ta Z14 (aB ?_)));obtain rfl := sIn h;refine bK (aO [1, 2, 0] rfl rfl (le_refl _)) ?_;exact cD ⟨rfl, _, [I.1.2, rE o 170 [.cp [.j e.Size, .j e.Seeds, .sl 3 (e.Persons.map aR), .sl 1 (e.Lots.map aF)], .cp (Z26 ly), .cp [.sl 1 (B.map aF)], .bp o 0 0], .arr (vw j a.length c) 3 1 (a.map aF)], [], _, .one (.tmp 8 (v := .b true) rfl), .refl _, .same _, I.1.2, rfl, I.2, rfl⟩
theorem aMz {S : Type} (J K : S → MO → Prop) (ly : Nat) (l : S → (List Int) → Option (S × Bool)) (hy : ∀ (s : S) (m : MO) (x0 : List Int) (s' : S × Bool), J s m → l s x0 = some s' → aAw Tryz.prog ly [.d (.sl 1 (x0.map aF))] m (fun b m' => b = s'.2 ∧ JK J K s' m')) (f : List Int) (g : Int) (a : bA) (k : List Int) (sy : S) {r : S × Bool} {e j c : Nat} (m0 : MO) (hj : J sy m0) (hcap : f.length ≤ c) (hsz : (c : Int) = a.Size) (h : zY l f g a k sy = some r) : dP Tryz.prog 170 [.d (.lit (vw j f.length c)), .i g, .cp [.j a.Size, .j a.Seeds, .sl 3 (Z15 a), .sl 1 (Z36 a)], .cp (Z26 ly), .cp (Z39 k), .bp e 0 0] [m0, rE e 170 [.cp [.j a.Size, .j a.Seeds, .sl 3 (Z15 a), .sl 1 (Z36 a)], .cp (Z26 ly), .cp (Z39 k), .bp e 0 0], .arr (vw j f.length c) 3 1 (f.map aF)] (fun r' o' => ∃ m', r' = .b r.2 ∧ JK J K r m' ∧ o' = [m', rE e 170 [.cp [.j a.Size, .j a.Seeds, .sl 3 (Z15 a), .sl 1 (Z36 a)], .cp (Z26 ly), .cp (Z39 k), .bp e 0 0], .arr (vw j f.length c) 3 1 (f.map aF)]) := aKm J K ly l hy BIG f g a k sy m0 hj hcap hsz h

theorem aPg {S : Type} (J K : S → MO → Prop) (ly : Nat) (e : S → (List Int) → Option (S × Bool)) (hy : ∀ (s : S) (m : MO) (x0 : List Int) (s' : S × Bool), J s m → e s x0 = some s' → aAw Tryz.prog ly [.d (.sl 1 (x0.map aF))] m (fun b m' => b = s'.2 ∧ JK J K s' m')) (a : bA) (c : List Int) (sy : S) (m0 : MO) (hj : J sy m0) {r : S × Bool} (h : vE e a c sy = some r) : dP Tryz.prog 169 [.d (.lit (yv ly)), .cp (aT a), .cp (Z39 c)] [m0] (fun _ o' => ∃ m', JK J K r m' ∧ o' = [m']) := by
 unfold vE at h;refine qT func169 rfl (rs := []) results169 ntmps169 (Nat.le_of_ble_eq_true rfl) ?_;refine aC (aA ?_);refine bG rfl (cV (v := .d (.lit (yv ly))) (aE rfl) rfl rfl rfl) ?_;rintro _ ⟨b1, rfl⟩;refine aB (aC (aA ?_));refine bG rfl (cJ (zs := [.lit .nilFunc]) (aE rfl) zeroValue180 rfl rfl) ?_;rintro _ ⟨b2, rfl⟩;refine aB (aC (aA (to (aCm (aE rfl) rfl rfl) ?_)));refine gY (aO [0, 2, 1] rfl rfl (le_refl _)) ?_;apply aYg [m0, .box b2 0 [.lit .nilFunc]] [.box b1 0 (Z26 ly)] rfl;exact pQ (k := 5) (v := .fn 170 [.cp [.j a.Size, .j a.Seeds, .sl 3 (Z15 a), .sl 1 (Z36 a)], .cp (Z26 ly), .cp (Z39 c), .bp b2 0 0]) (aMb (.cons (.same _) (.cons (sF 0 rfl rfl (dvc (.same _) dvn)) (.cons (.same _) (.cons (.same _) .nil))))) (pQ (k := 3) (v := .cp (Z26 ly)) (sF 0 rfl rfl (dvc (.same _) dvn)) (aAx _ _));refine to (aVt (i := 1) rfl rfl rfl rfl sizeOf180) ?_;refine aB ?_;obtain ⟨x4, h5, h⟩ := bns h;refine iE mix 10 [] (fun X3 => [(6, .fn 170 [.cp [.j a.Size, .j a.Seeds, .sl 3 (Z15 a), .sl 1 (Z36 a)], .cp (Z26 ly), .cp (Z39 c), .bp b2 0 0]), (9, .d (.lit (vw (X3 3).b ([] : List Int).length x4))), (15, .i (Z16 a))]) (fun X3 => [m0, rE b2 170 [.cp [.j a.Size, .j a.Seeds, .sl 3 (Z15 a), .sl 1 (Z36 a)], .cp (Z26 ly), .cp (Z39 c), .bp b2 0 0], .arr (vw (X3 3).b ([] : List Int).length x4) 3 1 Z20]) ?_ ?_
 ·refine ⟨1, fun X3 => [(6, 0, .fn 170 [.cp [.j a.Size, .j a.Seeds, .sl 3 (Z15 a), .sl 1 (Z36 a)], .cp (Z26 ly), .cp (Z39 c), .bp b2 0 0]), (7, 1, .cp [.j a.Size]), (8, 2, .i a.Size), (9, 3, .d (.lit (vw (X3 3).b ([] : List Int).length x4))), (10, 4, .cp [.j a.Size]), (11, 5, .i a.Size), (12, 6, .cp [.sl 3 (Z15 a)]), (13, 7, .d (Z54 a)), (14, 8, .i (a.Persons.length : Int)), (15, 9, .i (Z16 a))], fun X3 => [([], m0), ([], rE b2 170 [.cp [.j a.Size, .j a.Seeds, .sl 3 (Z15 a), .sl 1 (Z36 a)], .cp (Z26 ly), .cp (Z39 c), .bp b2 0 0]), ([(3, .arr (vw (X3 3).b ([] : List Int).length x4) 3 1 Z20)], nob)], ?_, ?_⟩
  · exact xok [(0, 0), (0, 4), (2, 4), (3, 0), (0, 0), (5, 0), (0, 0), (7, 0), (8, 0), (609, 0)] ⟨fun _ _ w _ k => xp w (aNm (i := 1) (aE rfl) (aX k rfl) (og k rfl rfl) aXx),
 fun _ _ w _ k => xp w (yfc k [.j a.Size] rfl dD),
 fun _ _ w _ k => xp w (ylc k rfl aQ),
 fun X3 S hw hi hS => uH (X := X3) (p := 2) (v := fun x => .d (.lit (vw x.b ([] : List Int).length x4))) (mo := fun x => .arr (vw x.b ([] : List Int).length x4) 3 1 Z20) hS hi rfl rfl (fun _ => rfl) hw (fun _ => rfl) (fun _ => rfl) (fun _ => rfl) (fun _ => ⟨rfl, rfl, .inr rfl, ⟨rfl, rfl, .inr rfl, ⟨rfl, rfl, .inr rfl, ⟨rfl, rfl, .inl rfl, ⟨rfl, rfl, .inr rfl, ⟨rfl, rfl, .inr rfl, ⟨rfl, rfl, .inr rfl, ⟨rfl, rfl, .inr rfl, ⟨rfl, rfl, .inr rfl, ⟨rfl, rfl, .inr rfl, trivial⟩⟩⟩⟩⟩⟩⟩⟩⟩⟩) (fun _ => ⟨trivial, rfl, ⟨trivial, rfl, ⟨⟨rfl, .inl rfl, trivial⟩, rfl, trivial⟩⟩⟩) (kQ (bFw aF (aE rfl) bC rfl (aX hS rfl) h5 (aE rfl)) (by rintro _ ⟨w, rfl⟩; exact ⟨⟨w, undef⟩, aO [0, 1, 3] rfl rfl (le_refl _)⟩)),
 fun _ _ w _ k => xp w (yfc k [.j a.Size] rfl dD),
 fun _ _ w _ k => xp w (ylc k rfl aQ),
 fun _ _ w _ k => xp w (yfc k [.sl 3 (Z15 a)] rfl dN),
 fun _ _ w _ k => xp w (ylc k rfl fC),
 fun _ _ w _ k => xp w (yle k rfl fN.of),
 fun _ _ w _ k => xp w (yar k rfl rfl rfl), trivial⟩
  · exact fun X3 => bT (aH rfl (aH rfl (aH rfl (aK trivial))))
 ·intro X3;obtain ⟨y6, h7, h⟩ := bns h;refine bG rfl (dU (passed := [m0, rE b2 170 [.cp [.j a.Size, .j a.Seeds, .sl 3 (Z15 a), .sl 1 (Z36 a)], .cp (Z26 ly), .cp (Z39 c), .bp b2 0 0], .arr (vw (X3 3).b ([] : List Int).length x4) 3 1 Z20]) (aE rfl) rfl (.clo _ _ _ _ call170 rfl) (wT rfl) rfl (aMz J K ly e hy ([] : List Int) (Z16 a) a c sy _ hj (Nat.zero_le _) (bFj h5) h7)) ?_;rintro _ ⟨_, _, ⟨m8, rfl, f, rfl⟩, rfl⟩;refine aB ?_;obtain rfl := sIn h;exact ⟨_, [m8], [rE b2 170 [.cp [.j a.Size, .j a.Seeds, .sl 3 (Z15 a), .sl 1 (Z36 a)], .cp (Z26 ly), .cp (Z39 c), .bp b2 0 0], .arr (vw (X3 3).b ([] : List Int).length x4) 3 1 Z20], _, .none, .refl _, .same _, m8, f, rfl⟩

theorem aTg (b : bA) (c : List Int) {r : (List Int)} (h : tD b c = some r) : Fn Tryz.prog 110 [.agg (aT b), .d (Z8 c)] (.d (.sl 1 (r.map aF))) := by
 unfold tD at h;refine oT [.tmp 4] func110 results110 ntmps110 ?_;refine aC (aA ?_);refine bG rfl (cV (v := .agg (aT b)) (aE rfl) rfl rfl rfl) ?_;rintro _ ⟨b1, rfl⟩;refine to (sV 1 (aE rfl)) ?_;refine aB (aC (aA (to (fX 3 1 (.inl rfl) (aE rfl)) ?_)));refine aB (aC (aC (aA (tm (Z40 c) (to (sle rfl bC.of) (tm (.i 0) (aB (bD ?_))))))));refine bP (S := Int × Z32 × Value) [2, 8, 9] (fun s3 => [(5, .d (.lit s3.2.2)), (10, .i s3.1)]) (fun s3 => [.box b1 0 (aT b), .arr s3.2.2 3 1 (s3.2.1.map aF)]) (fun k s3 => mB c (c.length : Int) b k s3.1 s3.2.1) (fun _ => rfl) (0, ([] : List Int), (.slice none 0 0)) h (aO [0, 1] rfl rfl (aH rfl (aH rfl (aK (ae rfl))))) ?_;rintro k5 ⟨a, e, w4⟩ h;simp only [mB] at h;refine aC (aA (to (scm rfl rfl rfl) (aB (aC ?_))));refine tih h (fun c6 h => ?_) (fun c6 h => ?_)
 ·refine aU (aC (bD (aC (aA ?_))));obtain ⟨x7, h8, h⟩ := bns h;refine to (six rfl rfl bC.of (aW aF h8)) (to (slc rfl aQ) (ta (.i x7) (aB (aC (aA (tm (.i x7) (to (scm rfl rfl rfl) (aB ?_))))))));refine tih h (fun c9 h => ?_) (fun c9 h => ?_)
  ·refine aA (tm (.d (.lit w4)) (to (dE (aE rfl) bC rfl rfl (rows := ([(-1)]).map aF) rfl (bY (f := aF) fun _ => rfl) rfl (by decide)) ?_));obtain ⟨m, n, h⟩ := bns h;refine bG rfl (dL (i := 1) (aE rfl) bC rfl rfl rfl (fun _ => rfl) n rfl) ?_;rintro _ ⟨g, rfl⟩;refine ta (.d (.lit g)) ?_;refine cN ?_;refine aA (to (sar rfl rfl rfl) (tm (.i (w64 (a + 1))) (aB ?_)));exact ⟨(w64 (a + 1), m, g), h, aO [0, 1] rfl rfl (aH rfl (aH rfl (aK (ae rfl))))⟩
  ·refine aA (tm (.d (.lit w4)) (tfl 0 rfl rfl dN rfl fC (tm (.i x7) ?_)));obtain ⟨j, o, h⟩ := bns h;refine to (six rfl rfl fN.of (aW aR o)) (to (sfc [.j j.Player] rfl kZ) (to (slc rfl aQ) (to (dE (aE rfl) bC rfl rfl (rows := ([j.Player]).map aF) rfl (bY (f := aF) fun _ => rfl) rfl (by decide)) ?_)));obtain ⟨p, q, h⟩ := bns h;refine bG rfl (dL (i := 1) (aE rfl) bC rfl rfl rfl (fun _ => rfl) q rfl) ?_;rintro _ ⟨l, rfl⟩;refine ta (.d (.lit l)) ?_;refine cN ?_;refine aA (to (sar rfl rfl rfl) (tm (.i (w64 (a + 1))) (aB ?_)));exact ⟨(w64 (a + 1), p, l), h, aO [0, 1] rfl rfl (aH rfl (aH rfl (aK (ae rfl))))⟩
 ·refine bO ?_;refine .inl ⟨rfl, ?_⟩;simp only [aBb] at h;refine aC (aA (tm (.d (.lit w4)) (ta (.d (.lit w4)) (aB ?_))));obtain rfl := sIn h;refine bK (bE (pQ (k := 4) (v := .d (.sl 1 (e.map aF))) (.d (gZ 1 rfl (bY (f := aF) fun _ => rfl))) (aDu))) ?_;exact rt

theorem aUe (a : bA) (e : Int) {r : (List Int) × Bool} (h : sO a e = some r) : Fn Tryz.prog 52 [.agg (aT a), .i e] (.tup [.d (.sl 1 (r.1.map aF)), .b r.2]) := by
 unfold sO at h;refine kR func52 rfl (rs := [.cell 4 23, .cell 5 4]) results52 ntmps52 (Nat.le_of_ble_eq_true rfl) ?_;refine aC (aA ?_);refine bG rfl (cV (v := .agg (aT a)) (aE rfl) rfl rfl rfl) ?_;rintro _ ⟨b1, rfl⟩;refine bG rfl (cV (v := .i e) (aE rfl) rfl rfl rfl) ?_;rintro _ ⟨b2, rfl⟩;refine bG rfl (cJ (zs := [.sl 1 Z6]) (aE rfl) zeroValue23 rfl rfl) ?_;rintro _ ⟨b3, rfl⟩;refine bG rfl (cJ (zs := [.k false]) (aE rfl) zeroValue4 rfl rfl) ?_;rintro _ ⟨b4, rfl⟩;refine aB (aC (aC (aA (to (sla 0 (aT a) rfl rfl eT) ?_))));obtain ⟨x5, h6, h⟩ := bns h;refine to (eO (aE rfl) (.func _ _ call109) rfl rfl (aTf _ h6)) ?_;refine aB (bD ?_);obtain ⟨⟨s7, p⟩, h8, h⟩ := bns h;refine bCl (S := Int × Z32 × Bool) (S0 := Int × Z32 × Bool) (f := 169) (ps := [9]) (fun c => (c.1, c.2.1, c.2.2)) (fun c => [.box b1 0 (aT a), .box b2 0 [.j c.1], .box b3 0 [.sl 1 (c.2.1.map aF)], .box b4 0 [.k c.2.2]]) (bHl (fun g : List Int => .d (.sl 1 (g.map aF))) _) (e, ([] : List Int), false) (e, ([] : List Int), false) (s7, p) (aO [0, 1, 2, 3] rfl rfl (le_refl _)) rfl call169 rfl (by decide) rfl rfl (fun l J K hy m0 h0 => aPg (S := Int × Z32 × Bool) J K l _ (fun _ _ _ _ hJ hq => hy _ _ _ _ hJ ⟨_, rfl, hq⟩) a x5 _ m0 h0 h8) ?_ ?_ ?_
 ·rintro ⟨e9, j, k⟩ _ _ ⟨g, rfl, h⟩;refine ⟨rfl, ?_⟩;refine aA (ta (.d (.sl 1 (g.map aF))) (aB (bD (aC (aC (aA (to (sl 1 rfl rfl rfl aQ) (to (scm rfl rfl rfl) (aB ?_)))))))));refine tih h (fun q h => ?_) (fun q h => ?_)
  ·refine aC (aA (to (sla 0 (aT a) rfl rfl eT) (tm (.d (.sl 1 (g.map aF))) ?_)));obtain ⟨o, s, h⟩ := bns h;refine to (eO (aE rfl) (.func _ _ call110) rfl rfl (aTg _ _ s)) ?_;refine to (sst 2 rfl rfl sizeOf23 [.sl 1 (o.map aF)]) (to (sst 3 rfl rfl sizeOf4 [.k true]) (aB ?_));obtain rfl := sIn h;exact cD ⟨rfl, rfl, (e9, o, true), rfl, aO [0, 1, 2, 3] rfl rfl bBe⟩
  ·refine aU (aA (to (sl 1 rfl rfl rfl aQ) (to (sar rfl rfl rfl) (to (sst 1 rfl rfl sizeOf3 [.j (w64 (e9 - 1))]) ?_))));refine cN ?_;obtain rfl := sIn h;exact ⟨rfl, (w64 (e9 - 1), j, k), rfl, aO [0, 1, 2, 3] rfl rfl bBe⟩
 ·rintro ⟨e9, j, k⟩ m n;subst n;have h := zH m h;refine bHm ?_;refine aC (aA (to (sst 2 rfl rfl sizeOf23 Z64) (to (sst 3 rfl rfl sizeOf4 [.k false]) (aB ?_))));obtain rfl := sIn h;exact cD ⟨rfl, _, [.box b1 0 (aT a), .box b2 0 [.j e9], .box b3 0 Z64, .box b4 0 [.k false]], .two (.cell1 4 23 rfl (i := 2) rfl cC rfl) (.cell1 5 4 rfl (i := 3) rfl aFw rfl), .refl _, aEc (.cons (.d (.nil 1)) (.cons (.same _) .nil))⟩
 ·rintro ⟨e9, j, k⟩ m n;subst n;have h := aDv m h;obtain rfl := sIn h;exact cD ⟨rfl, _, [.box b1 0 (aT a), .box b2 0 [.j e9], .box b3 0 [.sl 1 (j.map aF)], .box b4 0 [.k k]], .two (.cell1 4 23 rfl (i := 2) rfl cC rfl) (.cell1 5 4 rfl (i := 3) rfl aFw rfl), .refl _, .same _⟩

theorem fP (d : Int) (c : Int) (a : Int) {r : Bool} (h : fL d c a = some r) : Fn Tryz.prog 116 [.i d, .i c, .i a] (.b r) := by
 unfold fL at h;refine oT [.tmp 6] func116 results116 ntmps116 ?_;refine aC (aA (ta Z2 (aB (aC (aA (tm (.i c) (tm (.i d) (to (scm rfl rfl rfl) (tm (Z35 c d) ?_)))))))));obtain ⟨b1, h2, h⟩ := bns h;refine aV 4 [] 14 b1 ?_ ?_
 ·refine bch h2 (fun c3 h2 => ?_) (fun c3 h2 => ?_)
  ·refine tk c3 (sm (.i d)) (tk c3 (sm (.i a)) (tk c3 (scm rfl rfl rfl) (to (spt (Z35 d a) c3) ?_)));obtain rfl := sIn h2;refine aB (aJ rfl trivial rfl)
  ·refine tp c3 (tp c3 (tp c3 (to (spf Z2 c3) ?_)));obtain rfl := sIn h2;refine aB (aJ rfl trivial rfl)
 ·refine ta (.b b1) (aB ?_);obtain rfl := sIn h;exact rt

theorem aNu (g : aP) {r : Bool} (h : qY g = some r) : Fn Tryz.prog 111 [.agg (bI g)] (.b r) := by
 unfold qY at h;refine oT [.tmp 2] func111 results111 ntmps111 ?_;refine aC (aA ?_);refine bG rfl (cV (v := .agg (bI g)) (aE rfl) rfl rfl rfl) ?_;rintro _ ⟨b1, rfl⟩;refine ta Z2 (aB (aC (aC ?_)));obtain ⟨r2, h3, h⟩ := bns h;obtain ⟨b4, h5, h⟩ := bns h;refine cI mix 13 [1] [(18, .b b4)] ?_ ?_
 ·refine bch h5 (fun c6 h5 => ?_) (fun c6 h5 => ?_)
  ·obtain rfl := sIn h5;refine ⟨[(6, 0, .bp b1 0 0), (7, 1, .i g.Rounds), (8, 2, .b r2), (9, 3, .b (!r2)), (10, 4, .b (!r2)), (11, 5, .tup []), (12, 6, .tup []), (13, 7, .tup []), (14, 8, .tup []), (15, 9, .tup []), (16, 10, .tup []), (17, 11, .tup []), (18, 12, .b true)], ?_, ?_⟩
   · exact dk [0, 1, 2, 3, 4, 5, 506, 507, 5, 509, 510, 50811, 512] ⟨go (zf rfl iN),
 go (zl 0 rfl rfl rfl aQ),
 go fun S hS => cT (aE rfl) (.func _ _ call116) (ev2 (aX hS rfl) (ev2 rfl (ev2 rfl evn))) rfl (BVs.refl _ _) (fP _ _ _ h3) rfl,
 go (zn rfl),
 go (zm (.b (!r2))),
 gp c6,
 gp c6,
 gp c6,
 gp c6,
 gp c6,
 gp c6,
 gp c6,
 go (zpt Z14 c6), trivial⟩
   · exact bT (aH rfl (aK (ae rfl)))
  ·obtain ⟨u7, h8, h5⟩ := bns h5;obtain rfl := sIn h5;refine ⟨[(6, 0, .bp b1 0 0), (7, 1, .i g.Rounds), (8, 2, .b r2), (9, 3, .b (!r2)), (10, 4, .b (!r2)), (11, 5, .bp b1 0 1), (12, 6, .d (.sl 1 (Z17 g))), (13, 7, .i (g.Slots.length : Int)), (14, 8, .bp b1 0 0), (15, 9, .i g.Rounds), (16, 10, .i (Z42 g)), (17, 11, .b (!decide ((g.Slots.length : Int) = (Z42 g)))), (18, 12, .b (!decide ((g.Slots.length : Int) = (Z42 g))))], ?_, ?_⟩
   · exact dk [0, 1, 2, 3, 4, 5, 506, 507, 5, 509, 510, 50811, 512] ⟨go (zf rfl iN),
 go (zl 0 rfl rfl rfl aQ),
 go fun S hS => cT (aE rfl) (.func _ _ call116) (ev2 (aX hS rfl) (ev2 rfl (ev2 rfl evn))) rfl (BVs.refl _ _) (fP _ _ _ h3) rfl,
 go (zn rfl),
 go (zm (.b (!r2))),
 gt c6 (zf rfl dW),
 gt c6 (zl 0 rfl rfl rfl cC),
 gt c6 (zle rfl bC.of),
 gt c6 (zf rfl iN),
 gt c6 (zl 0 rfl rfl rfl aQ),
 gt c6 fun S hS => aTn (aE rfl) rfl (aX hS rfl) (aFs h8),
 gt c6 (zcm rfl rfl rfl),
 go (zpf (.b (!decide ((g.Slots.length : Int) = (Z42 g)))) c6), trivial⟩
   · exact bT (aH rfl (aK (ae rfl)))
 ·refine aB ?_;refine tih h (fun c9 h => ?_) (fun c9 h => ?_)
  ·refine aC (aA (ta Z2 (aB ?_)));obtain rfl := sIn h;refine bK (bE (bH (l := [2]) (ae rfl))) ?_;exact rt
  ·refine aU (aC (aA ?_));refine bG rfl (aGd (aE rfl)) ?_;rintro _ ⟨t, rfl⟩;refine ta (.d (.lit (.map (some t)))) (aB (aC (aC (aA (tfl 0 rfl rfl dW rfl cC (to (sle rfl bC.of) (tm (.i 0) (aB (bD ?_)))))))));refine bP (S := Int × (List (Int × Int)) × (List Nat) × Nat) [1, 3, 21, 22] (fun o => [(23, .i o.1)]) (fun o => [.box b1 0 (bI g), .map t (o.2.1.map fun p : Int × Int => (VI p.1, (fun v : Int => AV.i v) p.2)) o.2.2.1 o.2.2.2]) (fun k o => jR g.Slots (g.Slots.length : Int) g k o.1 o.2.1) (fun _ => rfl) (0, ([] : List (Int × Int)), [], 0) h (aO [0, 1] rfl rfl (aH rfl (aK (ae rfl)))) ?_;rintro H ⟨f, c, u, s⟩ h;simp only [jR] at h;refine aC (aA (to (scm rfl rfl rfl) (aB (aC ?_))));refine tih h (fun w h => ?_) (fun w h => ?_)
   ·refine aU (aC (bD (aC (aA (tm (.i f) ?_)))));obtain ⟨e, x, h⟩ := bns h;refine to (six rfl rfl bC.of (aW aF x)) (to (slc rfl aQ) (ta (.i f) (ta (.i e) (aB (aC (aC (aA (tm (.i e) (to (scm rfl rfl rfl) (aB ?_))))))))));refine tih h (fun y h => ?_) (fun y h => ?_)
    ·refine aC (aC (aA (tfl 0 rfl rfl dW rfl cC (tm (.i f) (to (aQo (aE rfl) rfl rfl (.inr (.inr ⟨rfl, rfl⟩))) ?_)))));obtain ⟨I, A, h⟩ := bns h;refine to (six rfl rfl bC.of (aW aF A)) (to (slc rfl aQ) (to (scm rfl rfl rfl) (aB ?_)));refine tih h (fun B h => ?_) (fun B h => ?_)
     ·refine aC (aA (ta Z2 (aB ?_)));obtain rfl := sIn h;refine bK (bE (bH (l := [2]) (ae rfl))) ?_;exact rt
     ·refine aU ?_;refine bO ?_;refine .inl ⟨rfl, ?_⟩;refine aA (to (sar rfl rfl rfl) (tm (.i (w64 (f + 1))) (aB ?_)));exact ⟨(w64 (f + 1), c, u, s), h, aO [0, 1] rfl rfl (aH rfl (aK (ae rfl)))⟩
    ·refine aU (aC (aA (tm (.d (.lit (.map (some t)))) (tm (.i e) (to (aJg (av := (fun v : Int => AV.i v)) (l := c) (z := 0) (a := e) (m := 1) (aE rfl) aYy underlying258 zeroValue3 (fun _ _ => .d (.lit _ rfl)) rfl rfl rfl rfl (aKx (kv := VI) e)) ?_)))));refine to (sar rfl rfl rfl) (to (aGp (av := (fun v : Int => AV.i v)) (l := c) (v := w64 ((cW e 0 c) + 1)) (a := e) (m := 1) aYy underlying258 rfl rfl rfl rfl (aKx (kv := VI) e) rfl rfl) ?_);refine aB (aC (aA (tm (.d (.lit (.map (some t)))) (tm (.i e) (to (aJg (av := (fun v : Int => AV.i v)) (l := (gA e (w64 ((cW e 0 c) + 1)) c)) (z := 0) (a := e) (m := 1) (aE rfl) aYy underlying258 zeroValue3 (fun _ _ => .d (.lit _ rfl)) rfl rfl rfl rfl (aKx (kv := VI) e)) ?_)))));refine to (scm rfl rfl rfl) (tm (.b (decide (1 < (cW e 0 (gA e (w64 ((cW e 0 c) + 1)) c))))) ?_);obtain ⟨C, q, h⟩ := bns h;refine aV 4 [1, 3, 21, 22, 23] 49 C ?_ ?_
     ·refine bch q (fun j q => ?_) (fun j q => ?_)
      ·refine tp j (tp j (tp j (to (spt Z14 j) ?_)));obtain rfl := sIn q;refine aB (aJ rfl (ae rfl) rfl)
      ·refine tk j (sm (.i e)) ?_;obtain ⟨E, F, q⟩ := bns q;refine tk j (scr call116 (fP _ _ _ F)) (tk j (sn rfl) (to (spf (.b (!E)) j) ?_));obtain rfl := sIn q;refine aB (aJ rfl (ae rfl) rfl)
     ·refine aB ?_;refine tih h (fun G h => ?_) (fun G h => ?_)
      ·refine aC (aA (ta Z2 (aB ?_)));obtain rfl := sIn h;refine bK (bE (bH (l := [2]) (ae rfl))) ?_;exact rt
      ·refine cA ?_;refine aA (to (sar rfl rfl rfl) (tm (.i (w64 (f + 1))) (aB ?_)));exact ⟨(w64 (f + 1), (gA e (w64 ((cW e 0 c) + 1)) c), (mbs e c u s), (mck e c s)), h, aO [0, 1] rfl rfl (aH rfl (aK (ae rfl)))⟩
   ·refine bO ?_;refine .inl ⟨rfl, ?_⟩;simp only [xR] at h;refine aC (aA (ta Z14 (aB ?_)));obtain rfl := sIn h;refine bK (bE (bH (l := [2]) (ae rfl))) ?_;exact rt

theorem aCo (e : List aG) (g : aG → Option Bool) {r : Int} (c : Nat) (f : List AV) (j : ∀ args w, (callFunc c args).run Tryz.prog w = .ok (.enter c args) w) (l : ∀ (x0 : aG) r, g x0 = some r → Fn Tryz.prog c ([.agg (aM x0)] ++ f) (.b r)) (h : kE e g = some r) : Fn Tryz.prog 173 [.d (Z12 e), .fn c f] (.i r) := by
 unfold kE at h;refine oT [.tmp 4] func173 results173 ntmps173 ?_;refine aC (aA (ta (.i 0) (aB (aC (aC (aA (tm (Z51 e) (to (sle rfl iT.of) (tm (.i 0) (aB (bD ?_)))))))))));refine bP (S := Int) [0, 1, 7] (fun s1 => [(8, .i s1)]) (fun s1 => []) (fun k s1 => eP e g (e.length : Int) k s1) (fun _ => rfl) (0) h (aO [] rfl rfl (aH rfl (aK (ae rfl)))) ?_;rintro k2 a h;simp only [eP] at h;refine aC (aA (to (scm rfl rfl rfl) (aB (aC ?_))));refine tih h (fun c3 h => ?_) (fun c3 h => ?_)
 ·refine aU (aC (bD (aC (aA (tm (.i a) (ta (.i a) (aB (aC (aA (tm (.fn c f) (tm (Z51 e) (tm (.i a) ?_))))))))))));obtain ⟨x4, h5, h⟩ := bns h;refine to (six rfl rfl iT.of (aW aM h5)) (to (tG (aM x4) rfl mN) ?_);obtain ⟨r6, h7, h⟩ := bns h;refine to (cT (aE rfl) (.clo _ _ _ _ j rfl) (wT rfl) rfl (BVs.refl _ _) (l _ _  h7) rfl) ?_;refine aB ?_;refine tih h (fun c8 h => ?_) (fun c8 h => ?_)
  ·refine aC (aA (tm (.i a) (ta (.i a) (aB ?_))));obtain rfl := sIn h;exact rt
  ·refine cA ?_;refine aA (to (sar rfl rfl rfl) (tm (.i (w64 (a + 1))) (aB ?_)));exact ⟨(w64 (a + 1)), h, aO [] rfl rfl (aH rfl (aK (ae rfl)))⟩
 ·refine bO ?_;refine .inl ⟨rfl, ?_⟩;simp only [oO] at h;refine aC (aA (ta (.i (-1)) (aB ?_)));obtain rfl := sIn h;exact rt

theorem aAo (e : List aG) (i : aG → Option Bool) {r : Bool} (a : Nat) (c : List AV) (f : ∀ args w, (callFunc a args).run Tryz.prog w = .ok (.enter a args) w) (g : ∀ (x0 : aG) r, i x0 = some r → Fn Tryz.prog a ([.agg (aM x0)] ++ c) (.b r)) (h : iP e i = some r) : Fn Tryz.prog 112 [.d (Z12 e), .fn a c] (.b r) := by
 unfold iP at h;refine oT [.tmp 4] func112 results112 ntmps112 ?_;refine aC (aA (ta Z2 (aB (aC (aA (tm (Z51 e) (tm (.fn a c) ?_)))))));obtain ⟨r1, h2, h⟩ := bns h;refine to (scr call173 (aCo _ _ a c f g h2)) (to (scm rfl rfl rfl) (ta (.b (decide (0 ≤ r1))) (aB ?_)));obtain rfl := sIn h;exact rt

theorem aBu (c : aD) (a : aP) {r : Bool} (h : oB c a = some r) : Fn Tryz.prog 146 [.agg (aL c), .agg (bI a)] (.b r) := by
 unfold oB at h;refine oT [.tmp 4] func146 results146 ntmps146 ?_;refine aC (aA ?_);refine bG rfl (cV (v := .agg (aL c)) (aE rfl) rfl rfl rfl) ?_;rintro _ ⟨b1, rfl⟩;refine bG rfl (cV (v := .agg (bI a)) (aE rfl) rfl rfl rfl) ?_;rintro _ ⟨b2, rfl⟩;refine ta Z2 (aB (aC ?_));obtain ⟨r3, h4, h⟩ := bns h;obtain ⟨b5, h6, h⟩ := bns h;refine cI mix 19 [] [(23, .b b5)] ?_ ?_
 ·refine bch h6 (fun c7 h6 => ?_) (fun c7 h6 => ?_)
  ·obtain ⟨u8, h9, h6⟩ := bns h6;obtain ⟨e, f, h6⟩ := bns h6;obtain rfl := sIn h6;refine ⟨[(5, 0, .bp b1 0 0), (6, 1, .i c.round), (7, 2, .bp b2 0 0), (8, 3, .i a.Rounds), (9, 4, .i (w64 (a.Rounds - 1))), (10, 5, .b r3), (11, 6, .b r3), (12, 7, .bp b1 0 1), (13, 8, .i c.place), (14, 9, .bp b2 0 1), (15, 10, .d (.sl 1 (Z17 a))), (16, 11, .i (a.Slots.length : Int)), (17, 12, .bp b1 0 0), (18, 13, .i c.round), (19, 14, .i (w64 (c.round + 1))), (20, 15, .i ((a.Slots.length : Int).fdiv (2 ^ (min (w64 (c.round + 1)).toNat 64)))), (21, 16, .i (w64 (((a.Slots.length : Int).fdiv (2 ^ (min (w64 (c.round + 1)).toNat 64))) - 1))), (22, 17, .b e), (23, 18, .b e)], ?_, ?_⟩
   · exact dk [0, 1, 0, 3, 4, 205, 6, 7, 708, 7, 710, 711, 7, 713, 714, 71215, 716, 70917, 718] ⟨go (zf rfl wV),
 go (zl 0 rfl rfl rfl aQ),
 go (zf rfl iN),
 go (zl 1 rfl rfl rfl aQ),
 go (zar rfl rfl rfl),
 go fun S hS => cT (aE rfl) (.func _ _ call116) (ev2 (aX hS rfl) (ev2 rfl (ev2 (aX hS rfl) evn))) rfl (BVs.refl _ _) (fP _ _ _ h4) rfl,
 go (zm (.b r3)),
 gt c7 (zf rfl bAx),
 gt c7 (zl 0 rfl rfl rfl aQ),
 gt c7 (zf rfl dW),
 gt c7 (zl 1 rfl rfl rfl cC),
 gt c7 (zle rfl bC.of),
 gt c7 (zf rfl wV),
 gt c7 (zl 0 rfl rfl rfl aQ),
 gt c7 (zar rfl rfl rfl),
 gt c7 fun S hS => aDl (aE rfl) (aX hS rfl) (aX hS rfl) (aFs h9),
 gt c7 (zar rfl rfl rfl),
 gt c7 fun S hS => cT (aE rfl) (.func _ _ call116) (ev2 (aX hS rfl) (ev2 rfl (ev2 (aX hS rfl) evn))) rfl (BVs.refl _ _) (fP _ _ _ f) rfl,
 go (zpt (.b e) c7), trivial⟩
   · exact bT (aH rfl (aK trivial))
  ·obtain rfl := sIn h6;refine ⟨[(5, 0, .bp b1 0 0), (6, 1, .i c.round), (7, 2, .bp b2 0 0), (8, 3, .i a.Rounds), (9, 4, .i (w64 (a.Rounds - 1))), (10, 5, .b r3), (11, 6, .b r3), (12, 7, .tup []), (13, 8, .tup []), (14, 9, .tup []), (15, 10, .tup []), (16, 11, .tup []), (17, 12, .tup []), (18, 13, .tup []), (19, 14, .tup []), (20, 15, .tup []), (21, 16, .tup []), (22, 17, .tup []), (23, 18, .b false)], ?_, ?_⟩
   · exact dk [0, 1, 0, 3, 4, 205, 6, 7, 708, 7, 710, 711, 7, 713, 714, 71215, 716, 70917, 718] ⟨go (zf rfl wV),
 go (zl 0 rfl rfl rfl aQ),
 go (zf rfl iN),
 go (zl 1 rfl rfl rfl aQ),
 go (zar rfl rfl rfl),
 go fun S hS => cT (aE rfl) (.func _ _ call116) (ev2 (aX hS rfl) (ev2 rfl (ev2 (aX hS rfl) evn))) rfl (BVs.refl _ _) (fP _ _ _ h4) rfl,
 go (zm (.b r3)),
 gp c7,
 gp c7,
 gp c7,
 gp c7,
 gp c7,
 gp c7,
 gp c7,
 gp c7,
 gp c7,
 gp c7,
 gp c7,
 go (zpf Z2 c7), trivial⟩
   · exact bT (aH rfl (aK trivial))
 ·refine ta (.b b5) (aB ?_);obtain rfl := sIn h;refine bK (bE (bH (l := [4]) (ae rfl))) ?_;exact rt

theorem aNt (n : aP) (d : aG) {r : Bool} (h : tP n d = some r) : Fn Tryz.prog 114 [.agg (bI n), .agg (aM d)] (.b r) := by
 unfold tP at h;refine oT [.tmp 4] func114 results114 ntmps114 ?_;refine aC (aA ?_);refine bG rfl (cV (v := .agg (bI n)) (aE rfl) rfl rfl rfl) ?_;rintro _ ⟨b1, rfl⟩;refine bG rfl (cV (v := .agg (aM d)) (aE rfl) rfl rfl rfl) ?_;rintro _ ⟨b2, rfl⟩;refine ta Z2 (aB (aC (aC (aA (tfl 1 rfl rfl qD rfl aQ ?_)))));obtain ⟨r3, h4, h⟩ := bns h;refine to (scr call116 (fP _ _ _ h4)) (to (sn rfl) (aB ?_));refine tih h (fun c5 h => ?_) (fun c5 h => ?_)
 ·refine aC (aA (ta Z2 (aB ?_)));obtain rfl := sIn h;refine bK (bE (bH (l := [4]) (ae rfl))) ?_;exact rt
 ·refine aU (aC (aC (aA (tfl 1 rfl rfl qC rfl aQ (to (scm rfl rfl rfl) (aB ?_))))));refine tih h (fun c6 h => ?_) (fun c6 h => ?_)
  ·refine aC (aA (tfl 1 rfl rfl rF rfl aQ (to (scm rfl rfl rfl) (tm (.b (decide (d.Round = 0))) ?_))));obtain ⟨b7, h8, h⟩ := bns h;refine aV 8 [3] 24 b7 ?_ ?_
   ·refine bch h8 (fun c h8 => ?_) (fun c h8 => ?_)
    ·refine tkl 1 c rfl rfl lQ rfl aQ (tkl 0 c rfl rfl dW rfl cC (tk c (sle rfl bC.of) (tk c (sar rfl rfl rfl) ?_)));obtain ⟨q, s, h8⟩ := bns h8;refine tk c (scr call116 (fP _ _ _ s)) (to (spt (.b q) c) ?_);obtain rfl := sIn h8;refine aB (aJ rfl (ae rfl) rfl)
    ·refine tp c (tp c (tp c (tp c (tp c (tp c (tp c (to (spf Z2 c) ?_)))))));obtain rfl := sIn h8;refine aB (aJ rfl (ae rfl) rfl)
   ·refine tm (.b b7) ?_;obtain ⟨b9, j, h⟩ := bns h;refine aV 4 [] 29 b9 ?_ ?_
    ·refine bch j (fun g j => ?_) (fun g j => ?_)
     ·refine tkl 1 g rfl rfl aBf rfl aQ ?_;obtain ⟨t, u, j⟩ := bns j;refine tk g (scr call116 (fP _ _ _ u)) (to (spt (.b t) g) ?_);obtain rfl := sIn j;refine aB (aJ rfl trivial rfl)
     ·refine tp g (tp g (tp g (to (spf Z2 g) ?_)));obtain rfl := sIn j;refine aB (aJ rfl trivial rfl)
    ·refine ta (.b b9) (aB ?_);obtain rfl := sIn h;refine bK (bE (bH (l := [4]) (ae rfl))) ?_;exact rt
  ·refine aU (aC (aA (tfl 1 rfl rfl rF rfl aQ (tfl 1 rfl rfl lQ rfl aQ (to (cZ (aE rfl) aMo (zs := [.j 0, .j 0]) rfl rfl rfl rfl (es := [.j d.Round, .j d.Place]) rfl) ?_)))));refine bG rfl (cJ (zs := [.j 0, .j 0]) (aE rfl) zeroValue143 rfl rfl) ?_;rintro _ ⟨G, rfl⟩;refine to (sst 2 rfl rfl sizeOf143 (aL (aD.mk d.Round d.Place))) (aB (aC (aC (aA (tfl 1 rfl rfl qC rfl aQ ?_)))));obtain ⟨w, x, h⟩ := bns h;refine to (scr call116 (fP _ _ _ x)) (to (sn rfl) (tm (.b (!w)) ?_));obtain ⟨o, m, h⟩ := bns h;refine aV 4 [2, 3, 5] 43 o ?_ ?_
   ·refine bch m (fun i m => ?_) (fun i m => ?_)
    ·refine tp i (tp i (tp i (to (spt Z14 i) ?_)));obtain rfl := sIn m;refine aB (aJ rfl (ae rfl) rfl)
    ·refine tkl 1 i rfl rfl aBf rfl aQ (tk i (scm rfl rfl rfl) (to (spf (.b (!decide (d.Old = 0))) i) ?_));obtain rfl := sIn m;refine aB (aJ rfl (ae rfl) rfl)
   ·refine tm (.b o) ?_;obtain ⟨y, k, h⟩ := bns h;refine aV 5 [2, 3] 49 y ?_ ?_
    ·refine bch k (fun e k => ?_) (fun e k => ?_)
     ·refine tp e (tp e (tp e (tp e (to (spt Z14 e) ?_))));obtain rfl := sIn k;refine aB (aJ rfl (ae rfl) rfl)
     ·refine tk e (sla 2 (aL (aD.mk d.Round d.Place)) rfl rfl nZ) (tk e (sla 0 (bI n) rfl rfl kD) ?_);obtain ⟨z, A, k⟩ := bns k;refine tk e (scr call146 (aBu _ _ A)) (tk e (sn rfl) (to (spf (.b (!z)) e) ?_));obtain rfl := sIn k;refine aB (aJ rfl (ae rfl) rfl)
    ·refine aB ?_;refine tih h (fun B h => ?_) (fun B h => ?_)
     ·refine aC (aA (ta Z2 (aB ?_)));obtain rfl := sIn h;refine bK (bE (bH (l := [4]) (ae rfl))) ?_;exact rt
     ·refine aU (aC (aA (tfl 1 rfl rfl rF rfl aQ (to (scm rfl rfl rfl) (tm (.b (decide (0 < d.Round))) ?_)))));obtain ⟨p, f, h⟩ := bns h;refine aV 13 [] 66 p ?_ ?_
      ·refine bch f (fun a f => ?_) (fun a f => ?_)
       ·refine tp a (tp a (tp a (tp a (tp a (tp a (tp a (tp a (tp a (tp a (tp a (tp a (to (spt Z14 a) ?_))))))))))));obtain rfl := sIn f;refine aB (aJ rfl trivial rfl)
       ·refine tkl 0 a rfl rfl dW rfl cC (tkl 1 a rfl rfl lQ rfl aQ (tk a (sar rfl rfl rfl) (tkl 1 a rfl rfl lQ rfl aQ (tk a (sar rfl rfl rfl) (tk a (sar rfl rfl rfl) ?_)))));obtain ⟨H, C, f⟩ := bns f;refine tk a (aDm (aE rfl) bC.of rfl rfl rfl (aMp aF C)) ?_;obtain ⟨E, F, f⟩ := bns f;refine tk a (scr call91 (cX _ _ F)) (tk a (sn rfl) (to (spf (.b (!E)) a) ?_));obtain rfl := sIn f;refine aB (aJ rfl trivial rfl)
      ·refine ta (.b p) (aB ?_);obtain rfl := sIn h;refine bK (bE (bH (l := [4]) (ae rfl))) ?_;exact rt

theorem aNv (a : aG) (c : aP) {r : Bool} (h : qZ a c = some r) : Fn Tryz.prog 113 [.agg (aM a), .cp (bI c)] (.b r) := by
 unfold qZ at h;refine oT [.tmp 3] func113 results113 ntmps113 ?_;refine aC (aA ?_);refine bG rfl (cV (v := .agg (aM a)) (aE rfl) rfl rfl rfl) ?_;rintro _ ⟨b1, rfl⟩;refine ta Z2 (aB (aC (aA (to (tG (bI c) rfl kD) (to (sla 0 (aM a) rfl rfl mN) ?_)))));obtain ⟨r2, h3, h⟩ := bns h;refine to (scr call114 (aNt _ _ h3)) (to (sn rfl) (ta (.b (!r2)) (aB ?_)));obtain rfl := sIn h;refine bK (bE (bH (l := [3]) (ae rfl))) ?_;exact rt

theorem aAs (f : aP) (n : List Int) (o : List (aG × Int)) (g : Int) {Q : (aG × Bool) → Prop} {t u : Nat} {c : Value} {w : Nat} {j : Nat} {s : List Nat} {e : Nat} (h : jQ f n o g Q) : dP Tryz.prog 220 [.bp t u 0, .d (Z29 j), .i g] (Z11 t u f c w n j o s e) (fun r' o' => ∃ (r : aG × Bool), Q r ∧ r' = .tup [.agg (aM r.1), .b r.2] ∧ o' = (Z11 t u f c w n j o s e)) := by
 unfold jQ at h;refine iF func220 rfl (rs := [.cell 6 95, .tmp 7]) results220 ntmps220 (Nat.le_of_ble_eq_true rfl) ?_;refine aC (aA ?_);refine bG rfl (cJ (zs := [.j 0, .j 0, .j 0, .j 0, .j 0]) (aE rfl) zeroValue95 rfl rfl) ?_;rintro _ ⟨b1, rfl⟩;refine ta Z2 (aB (aC (aC (aA (tm (.d (Z29 j)) ?_)))));refine bG rfl (aYb (m := 2) (aE rfl) underlying260 rfl rfl) ?_;rintro _ ⟨q2, h4, rfl⟩;have h := aLe h h4;refine aB (bD ?_);refine xH [0, 2, 6, 10] (fun (s5 : aG × (List Nat)) => []) (fun (s5 : aG × (List Nat)) => [.arr c 3 1 (n.map aF), .box t u [.j f.Rounds, .sl 1 (Z17 f), .lit c, .lit (.map (some w))], .map j (o.map fun p : aG × Int => ((fun a : aG => Value.agg ((aM a).map bS).toArray) p.1, (fun v : Int => AV.i v) p.2)) s e, .box b1 0 (aM s5.1), .iter q2 j e s5.2 e]) (fun (k : Nat) (s5 : aG × (List Nat)) => jF Q g n f o k s5.1 (pW o s s5.2)) (fun _ h => h) (Z61, []) h (aO [1, 0, 2, 3, 4] rfl rfl (aK (ae rfl))) ?_;rintro k7 ⟨B, y⟩ h;simp only [jF] at h;refine aC (aA ?_);refine bG rfl (bBx (kv := (fun a : aG => Value.agg ((aM a).map bS).toArray)) (av := (fun v : Int => AV.i v)) (l := o) (mi := 4) (mm := 2) (aE rfl) rfl rfl rfl) ?_;rintro _ (⟨I, rfl⟩ | ⟨j9, C, p8, E, rfl⟩)
 ·have h := h.1 I;refine to (sex rfl rfl) (aB (aC ?_));refine aDq rfl (fun F => ?_) (fun F => ?_)
  ·exact absurd F (by decide)
  ·refine bO ?_;refine .inl ⟨rfl, ?_⟩;simp only [qO] at h;refine aC (aA (to (cZ (aE rfl) bCh (zs := [.j 0, .j 0, .j 0, .j 0, .j 0]) rfl rfl rfl rfl (es := [.j 0, .j 0, .j 0, .j 0, .j 0]) rfl) ?_));refine to (sst 3 rfl rfl sizeOf95 (aM Z61)) (ta Z2 (aB ?_));refine bK (aO [1, 0, 2, 3, 4] rfl rfl (le_refl _)) ?_;exact cD ⟨rfl, _, (Z11 t u f c w n j o s e), [.box b1 0 (aM Z61), .iter q2 j e y e], _, .two (.cell 6 95 rfl (i := 3) rfl mN (es := (aM Z61)) rfl rfl) (.tmp 7 (v := .b false) rfl), .refl _, .same _, (Z61, false), h, rfl, rfl⟩
 ·have h := aNf h E;refine to (sex rfl rfl) (aB (aC ?_));refine aDq rfl (fun G => ?_) (fun G => ?_)
  ·refine aU (bD (aC (aA (to (aYa (kv := (fun a : aG => Value.agg ((aM a).map bS).toArray)) (av := (fun v : Int => AV.i v)) (l := o) (mi := 4) (mm := 2) (ka := .agg (aM p8.1)) (aE rfl) rfl rfl rfl E (fun _ _ => .agg (aLa rfl))) ?_))));refine to (sex rfl rfl) ?_;refine bG rfl (cJ (zs := [.j 0, .j 0, .j 0, .j 0, .j 0]) (aE rfl) zeroValue95 rfl rfl) ?_;rintro _ ⟨z, rfl⟩;refine to (sst 5 rfl rfl sizeOf95 (aM p8.1)) (aB (aC ?_));obtain ⟨J, x, h⟩ := dT h;refine cI mix 16 [0, 2, 6, 8, 10] [(30, .b J)] ?_ ?_
   ·refine bch x (fun q x => ?_) (fun q x => ?_)
    ·obtain ⟨A, H, x⟩ := bns x;obtain rfl := sIn x;refine ⟨[(15, 0, .bp z 0 2), (16, 1, .i p8.1.Place), (17, 2, .i g), (18, 3, .b (decide (p8.1.Place = g))), (19, 4, .b (decide (p8.1.Place = g))), (20, 5, .bp z 0 4), (21, 6, .i p8.1.Old), (22, 7, .bp t u 0), (23, 8, .bp t u 0), (24, 9, .bp t u 2), (25, 10, .d (.lit c)), (26, 11, .i g), (27, 12, .ep c 1 g.toNat 0), (28, 13, .i A), (29, 14, .b (decide (p8.1.Old = A))), (30, 15, .b (decide (p8.1.Old = A)))], ?_, ?_⟩
     · exact dk [0, 1, 0, 203, 4, 5, 506, 5, 508, 509, 510, 5, 51112, 513, 50714, 515] ⟨go (zf rfl lQ),
 go (zl 5 rfl rfl rfl aQ),
 go (zm (.i g)),
 go (zcm rfl rfl rfl),
 go (zm (.b (decide (p8.1.Place = g)))),
 gt q (zf rfl aBf),
 gt q (zl 5 rfl rfl rfl aQ),
 gt q (zm (.bp t u 0)),
 gt q fun S hS => oY (aE rfl) (aX hS rfl),
 gt q (zf rfl pH),
 gt q (zl 1 rfl rfl rfl cC),
 gt q (zm (.i g)),
 gt q (zia 0 rfl rfl rfl bC.of (aW aF H)),
 gt q fun S hS => gJ (aE rfl) (aX hS rfl) (m := 0) rfl (dI aF H) rfl aQ,
 gt q (zcm rfl rfl rfl),
 go (zpt (.b (decide (p8.1.Old = A))) q), trivial⟩
     · exact bT (aH rfl (aK (ae rfl)))
    ·obtain rfl := sIn x;refine ⟨[(15, 0, .bp z 0 2), (16, 1, .i p8.1.Place), (17, 2, .i g), (18, 3, .b (decide (p8.1.Place = g))), (19, 4, .b (decide (p8.1.Place = g))), (20, 5, .tup []), (21, 6, .tup []), (22, 7, .tup []), (23, 8, .tup []), (24, 9, .tup []), (25, 10, .tup []), (26, 11, .tup []), (27, 12, .tup []), (28, 13, .tup []), (29, 14, .tup []), (30, 15, .b false)], ?_, ?_⟩
     · exact dk [0, 1, 0, 203, 4, 5, 506, 5, 508, 509, 510, 5, 51112, 513, 50714, 515] ⟨go (zf rfl lQ),
 go (zl 5 rfl rfl rfl aQ),
 go (zm (.i g)),
 go (zcm rfl rfl rfl),
 go (zm (.b (decide (p8.1.Place = g)))),
 gp q,
 gp q,
 gp q,
 gp q,
 gp q,
 gp q,
 gp q,
 gp q,
 gp q,
 gp q,
 go (zpf Z2 q), trivial⟩
     · exact bT (aH rfl (aK (ae rfl)))
   ·refine aB ?_;refine tip h (fun K h => ?_) (fun K h => ?_)
    ·refine aC (aA (to (sla 5 (aM p8.1) rfl rfl mN) (to (sst 3 rfl rfl sizeOf95 (aM p8.1)) (ta Z14 (aB ?_)))));refine bK (aO [1, 0, 2, 3, 4, 5] rfl rfl (le_refl _)) ?_;exact cD ⟨rfl, _, (Z11 t u f c w n j o s e), [.box b1 0 (aM p8.1), .iter q2 j e (y ++ [C]) e, .box z 0 (aM p8.1)], _, .two (.cell 6 95 rfl (i := 3) rfl mN (es := (aM p8.1)) rfl rfl) (.tmp 7 (v := .b true) rfl), .refl _, .same _, (p8.1, true), h, rfl, rfl⟩
    ·refine cA ?_;exact ⟨(B, (y ++ [C])), h, aO [0, 1, 2, 3, 4] rfl rfl (aK (ae rfl))⟩
  ·exact absurd G (by decide)

theorem aGg (e : aP) (w : List Int) (C : List (aG × Int)) {Q : (Bool × (List Int) × (List (aG × Int))) → Prop} {q s : Nat} {c : Value} {t : Nat} {g : Nat} {z : List Nat} {A : Nat} (h : mO e w C Q) : dP Tryz.prog 174 [.bp q s 0, .d (Z29 g)] [.box q s [.j e.Rounds, .sl 1 (Z17 e), .lit c, .lit (.map (some t))], .arr c 3 1 (w.map aF), .map g (C.map fun p : aG × Int => ((fun a : aG => Value.agg ((aM a).map bS).toArray) p.1, (fun v : Int => AV.i v) p.2)) z A] (fun r' o' => ∃ (r : Bool × (List Int) × (List (aG × Int))) (U : List Nat) (V : Nat), Q r ∧ r' = .b r.1 ∧ o' = [.box q s [.j e.Rounds, .sl 1 (Z17 e), .lit c, .lit (.map (some t))], .arr c 3 1 (r.2.1.map aF), .map g (r.2.2.map fun p : aG × Int => ((fun a : aG => Value.agg ((aM a).map bS).toArray) p.1, (fun v : Int => AV.i v) p.2)) U V]) := by
 unfold mO at h;refine iF func174 rfl (rs := [.tmp 4]) results174 ntmps174 (Nat.le_of_ble_eq_true rfl) ?_;refine aC (aA (ta Z2 (aB (aC (aA (tm (.bp q s 0) (to (oY (aE rfl) rfl) ?_)))))));refine to (sf rfl zK) (tfl 0 rfl rfl dW rfl cC ?_);obtain ⟨r1, h2, h⟩ := dT h;refine bG rfl (aDj (aE rfl) (.func _ _ call93) rfl rfl (rV _ h2)) ?_;rintro _ ⟨v3, rfl⟩;refine ta (.d (.lit v3)) (aB (aC (aC (aA (tm (.bp q s 0) (to (oY (aE rfl) rfl) ?_))))));refine tfl 0 rfl rfl pH rfl cC (to (iH (m := 1) (aE rfl) rfl rfl bC.of) ?_);refine tm (.i 0) (aB (bD ?_));refine xH [0, 1, 19] (fun (s4 : Int × (List Int) × (List (aG × Int)) × (List Int) × (List Nat) × Nat × Value) => [(5, .d (.lit s4.2.2.2.2.2.2)), (20, .i s4.1)]) (fun (s4 : Int × (List Int) × (List (aG × Int)) × (List Int) × (List Nat) × Nat × Value) => [.arr c 3 1 (s4.2.1.map aF), .box q s [.j e.Rounds, .sl 1 (Z17 e), .lit c, .lit (.map (some t))], .map g (s4.2.2.1.map fun p : aG × Int => ((fun a : aG => Value.agg ((aM a).map bS).toArray) p.1, (fun v : Int => AV.i v) p.2)) s4.2.2.2.2.1 s4.2.2.2.2.2.1, .arr s4.2.2.2.2.2.2 3 1 (s4.2.2.2.1.map aF)]) (fun (k : Nat) (s4 : Int × (List Int) × (List (aG × Int)) × (List Int) × (List Nat) × Nat × Value) => dA Q (w.length : Int) e k s4.1 s4.2.1 s4.2.2.1 s4.2.2.2.1) (fun _ h => h) (0, w, C, r1, z, A, v3) h (aO [1, 0, 2, 3] rfl rfl (aH rfl (aH rfl (aK (ae rfl))))) ?_;rintro k8 ⟨j, B, u, H, L, M, w7⟩ h;simp only [dA] at h;refine aC (aA (to (scm rfl rfl rfl) (aB (aC ?_))));refine tip h (fun c9 h => ?_) (fun c9 h => ?_)
 ·refine aU (aC (bD (aC (aA (tm (.i j) (ta (.i j) (aB (aC (aA (tm (.bp q s 0) (tm (.d (Z29 g)) (tm (.i j) ?_))))))))))));refine gY (aO [1, 0, 2, 3] rfl rfl (le_refl _)) ?_;refine bG rfl (dU (passed := [.box q s [.j e.Rounds, .sl 1 (Z17 e), .lit c, .lit (.map (some t))], .arr c 3 1 (B.map aF), .map g (u.map fun p : aG × Int => ((fun a : aG => Value.agg ((aM a).map bS).toArray) p.1, (fun v : Int => AV.i v) p.2)) L M]) (aE rfl) rfl (.func _ _ call220) rfl rfl (aAs e B u j h)) ?_;rintro _ ⟨_, _, ⟨I, h, rfl, rfl⟩, rfl⟩;refine tm (.tup [.agg (aM I.1), .b I.2]) (to (sex rfl rfl) (to (sex rfl rfl) ?_));refine bG rfl (cJ (zs := [.j 0, .j 0, .j 0, .j 0, .j 0]) (aE rfl) zeroValue95 rfl rfl) ?_;rintro _ ⟨W, rfl⟩;refine to (sst 4 rfl rfl sizeOf95 (aM I.1)) (ta (.b I.2) (aB ?_));refine vQ ?_;refine xH [0, 1, 6, 19, 20] (fun (x : Bool × (List Int) × (List (aG × Int)) × aG × (List Int) × (List Nat) × Nat × Nat × Value) => [(5, .d (.lit x.2.2.2.2.2.2.2.2)), (7, .bp x.2.2.2.2.2.2.2.1 0 0), (8, .b x.1)]) (fun (x : Bool × (List Int) × (List (aG × Int)) × aG × (List Int) × (List Nat) × Nat × Nat × Value) => [.arr c 3 1 (x.2.1.map aF), .box q s [.j e.Rounds, .sl 1 (Z17 e), .lit c, .lit (.map (some t))], .map g (x.2.2.1.map fun p : aG × Int => ((fun a : aG => Value.agg ((aM a).map bS).toArray) p.1, (fun v : Int => AV.i v) p.2)) x.2.2.2.2.2.1 x.2.2.2.2.2.2.1, .box x.2.2.2.2.2.2.2.1 0 (aM x.2.2.2.1), .arr x.2.2.2.2.2.2.2.2 3 1 (x.2.2.2.2.1.map aF)]) (fun (k : Nat) (x : Bool × (List Int) × (List (aG × Int)) × aG × (List Int) × (List Nat) × Nat × Nat × Value) => dY Q (dA Q (w.length : Int) e k8) j (w.length : Int) j e k x.1 x.2.1 x.2.2.1 x.2.2.2.1 x.2.2.2.2.1) (fun _ h => h) (I.2, B, u, I.1, H, L, M, W, w7) h (aO [1, 0, 2, 4, 3] rfl rfl (aH rfl (aH rfl (aH rfl (aK (ae rfl)))))) ?_;rintro a3 ⟨K, y, o, n, E, F, G, O, N⟩ h;simp only [dY] at h;refine aC (aC (aA (tm (.b K) (aB ?_))));refine tip h (fun X h => ?_) (fun X h => ?_)
  ·refine aU (aC (bD (aC (aC (aA (tm (.d (.lit N)) (tfl 3 rfl rfl qD rfl aQ ?_)))))));obtain ⟨a4, Y, h⟩ := dT h;refine to (sc call91 (cX _ _ Y) (.cons (.d (gZ 4 rfl (bY (f := aF) fun _ => rfl))) (.cons (.same _) .nil))) (aB ?_);refine tip h (fun Z h => ?_) (fun Z h => ?_)
   ·refine aC (aA (ta Z2 (aB ?_)));refine bK (aO [1, 0, 2, 3, 4] rfl rfl (le_refl _)) ?_;exact cD ⟨rfl, _, [.box q s [.j e.Rounds, .sl 1 (Z17 e), .lit c, .lit (.map (some t))], .arr c 3 1 (y.map aF), .map g (o.map fun p : aG × Int => ((fun a : aG => Value.agg ((aM a).map bS).toArray) p.1, (fun v : Int => AV.i v) p.2)) F G], [.box O 0 (aM n), .arr N 3 1 (E.map aF)], _, .one (.tmp 4 (v := .b false) rfl), .refl _, .same _, (false, y, o), F, G, h, rfl, rfl⟩
   ·refine aU (aC ?_);refine cI mix 7 [0, 1, 5, 6, 7, 19, 20] [(45, .d (.lit c)), (46, .i j), (48, .i n.Player)] ?_ ?_
    ·refine ⟨[(42, 0, .bp q s 0), (43, 1, .bp q s 0), (44, 2, .bp q s 2), (45, 3, .d (.lit c)), (46, 4, .i j), (47, 5, .bp O 0 3), (48, 6, .i n.Player)], ?_, ?_⟩
     · exact dk [0, 1, 2, 3, 0, 0, 6] ⟨go (zm (.bp q s 0)),
 go fun S hS => oY (aE rfl) (aX hS rfl),
 go (zf rfl pH),
 go (zl 1 rfl rfl rfl cC),
 go (zm (.i j)),
 go (zf rfl qD),
 go (zl 3 rfl rfl rfl aQ), trivial⟩
     · exact bT (aH rfl (aH rfl (aH rfl (aK (ae rfl)))))
    ·obtain ⟨a5, P, h⟩ := dT h;refine to (gS (m := 0) (aE rfl) rfl rfl rfl bC.of (aW aF P)) ?_;refine to (lM (l := 0) rfl rfl (dI aF P) rfl rfl rfl sizeOf3 rfl (aE rfl) (Nat.le_of_ble_eq_true rfl) (rows' := ((y.set j.toNat n.Player)).map aF) (uA _ _ _ _ rfl)) ?_;refine aB (aC (aA (tm (.d (.lit N)) (tfl 3 rfl rfl qD rfl aQ (to (dE (aE rfl) bC rfl rfl (rows := ([n.Player]).map aF) rfl (bY (f := aF) fun _ => rfl) rfl (by decide)) ?_)))));obtain ⟨a0, a1, h⟩ := dT h;refine bG rfl (dL (i := 4) (aE rfl) bC rfl rfl rfl (fun _ => rfl) a1 rfl) ?_;rintro _ ⟨T, rfl⟩;refine ta (.d (.lit T)) (aB (aA (tm (.d (Z29 g)) (to (sla 3 (aM n) rfl rfl mN) (to (bDw (av := (fun v : Int => AV.i v)) (l := o) (a := n) (m := 2) aUp underlying260 rfl rfl rfl rfl (sT (enc := aM) n rfl)) ?_)))));refine cN ?_;refine aC (aC (aA (to (sla 3 (aM n) rfl rfl mN) (aB (aA ?_)))));refine bG rfl (cJ (zs := [.j 0, .j 0, .j 0, .j 0, .j 0]) (aE rfl) zeroValue95 rfl rfl) ?_;rintro _ ⟨a2, rfl⟩;refine to (sst 5 rfl rfl sizeOf95 (aM n)) (aB (aA (tm (.bp q s 0) (tm (.d (Z29 g)) (tm (.i j) ?_)))));refine gY (aO [1, 0, 2, 3, 4, 5] rfl rfl (le_refl _)) ?_;refine bG rfl (dU (passed := [.box q s [.j e.Rounds, .sl 1 (Z17 e), .lit c, .lit (.map (some t))], .arr c 3 1 ((y.set j.toNat n.Player).map aF), .map g ((tE n o).map fun p : aG × Int => ((fun a : aG => Value.agg ((aM a).map bS).toArray) p.1, (fun v : Int => AV.i v) p.2)) (aGk n o F) G]) (aE rfl) rfl (.func _ _ call220) rfl rfl (aAs e (y.set j.toNat n.Player) (tE n o) j h)) ?_;rintro _ ⟨_, _, ⟨J, h, rfl, rfl⟩, rfl⟩;refine tm (.tup [.agg (aM J.1), .b J.2]) (to (sex rfl rfl) (to (sex rfl rfl) (to (sst 5 rfl rfl sizeOf95 (aM J.1)) (ta (.b J.2) (aB ?_)))));exact ⟨(J.2, (y.set j.toNat n.Player), (tE n o), J.1, a0, (aGk n o F), G, a2, T), h, aO [1, 0, 2, 5, 4] rfl rfl (aH rfl (aH rfl (aH rfl (aK (ae rfl)))))⟩
  ·refine bO ?_;refine .inl ⟨rfl, ?_⟩;simp only [nQ] at h;simp only [nP] at h;refine aA (to (sar rfl rfl rfl) (tm (.i (w64 (j + 1))) (aB ?_)));exact ⟨(w64 (j + 1), y, o, E, F, G, N), h, aO [0, 1, 2, 4] rfl rfl (aH rfl (aH rfl (aK (ae rfl))))⟩
 ·refine bO ?_;refine .inl ⟨rfl, ?_⟩;simp only [nO] at h;refine aC (aA (tm (.d (Z29 g)) (to (bDy (m := 2) (aE rfl) underlying260 rfl rfl) ?_)));refine to (scm rfl rfl rfl) (ta (.b (decide ((u.length : Int) = 0))) (aB ?_));refine bK (aO [1, 0, 2, 3] rfl rfl (le_refl _)) ?_;exact cD ⟨rfl, _, [.box q s [.j e.Rounds, .sl 1 (Z17 e), .lit c, .lit (.map (some t))], .arr c 3 1 (B.map aF), .map g (u.map fun p : aG × Int => ((fun a : aG => Value.agg ((aM a).map bS).toArray) p.1, (fun v : Int => AV.i v) p.2)) L M], [.arr w7 3 1 (H.map aF)], _, .one (.tmp 4 (v := .b (decide ((u.length : Int) = 0))) rfl), .refl _, .same _, (decide ((u.length : Int) = 0), B, u), L, M, h, rfl, rfl⟩

theorem rC (a : Int) (b : Int) {r : aD} (h : oP a b = some r) : Fn Tryz.prog 56 [.i a, .i b] (.agg (aL r)) := by
 unfold oP at h;refine kR func56 rfl (rs := [.cell 4 143]) results56 ntmps56 (Nat.le_of_ble_eq_true rfl) ?_;refine aC (aA ?_);refine bG rfl (cJ (zs := [.j 0, .j 0]) (aE rfl) zeroValue143 rfl rfl) ?_;rintro _ ⟨b1, rfl⟩;refine aB (aC (aA (tm (.i a) (tm (.i b) (tm (.i a) (to (sar rfl rfl rfl) ?_))))));obtain ⟨u2, h3, h⟩ := bns h;refine to (aDl (aE rfl) rfl rfl (aFs h3)) ?_;refine to (cZ (aE rfl) aMo (zs := [.j 0, .j 0]) rfl rfl rfl rfl (es := [.j a, .j (Z52 b a)]) rfl) ?_;refine to (sst 0 rfl rfl sizeOf143 (aL (aD.mk a (Z52 b a)))) (aB ?_);obtain rfl := sIn h;exact cD ⟨rfl, _, [.box b1 0 (aL (aD.mk a (Z52 b a)))], .one (.cell 4 143 rfl (i := 0) rfl nZ (es := (aL (aD.mk a (Z52 b a)))) rfl rfl), .refl _, .same _⟩

theorem aAt (g : aP) (o : List Int) (y : List (aD × Int)) (s : Int) (u : Int) {r : Bool × (List (aD × Int))} {j n : Nat} {e : Value} {f : Nat} {w : List Nat} {x : Nat} (h : nA g o y s u = some r) : dP Tryz.prog 175 [.bp j n 0, .i s, .i u] [.box j n [.j g.Rounds, .sl 1 (Z17 g), .lit e, .lit (.map (some f))], .arr e 3 1 (o.map aF), .map f (y.map fun p : aD × Int => ((fun a : aD => Value.agg ((aL a).map bS).toArray) p.1, (fun v : Int => AV.i v) p.2)) w x] (fun r' o' => ∃ (A : List Nat) (H : Nat), r' = .b r.1 ∧ o' = [.box j n [.j g.Rounds, .sl 1 (Z17 g), .lit e, .lit (.map (some f))], .arr e 3 1 (o.map aF), .map f (r.2.map fun p : aD × Int => ((fun a : aD => Value.agg ((aL a).map bS).toArray) p.1, (fun v : Int => AV.i v) p.2)) A H]) := by
 unfold nA at h;refine iF func175 rfl (rs := [.tmp 6]) results175 ntmps175 (Nat.le_of_ble_eq_true rfl) ?_;refine aC (aA (ta Z2 (aB (aC (aC (aA (tm (.i u) (to (sar rfl rfl rfl) (tm (.i 0) (aB (bD ?_)))))))))));refine bP (S := Int × (List (aD × Int)) × (List Nat) × Nat) [0, 1, 12] (fun s1 => [(13, .i s1.1)]) (fun s1 => [.arr e 3 1 (o.map aF), .map f (s1.2.1.map fun p : aD × Int => ((fun a : aD => Value.agg ((aL a).map bS).toArray) p.1, (fun v : Int => AV.i v) p.2)) s1.2.2.1 s1.2.2.2, .box j n [.j g.Rounds, .sl 1 (Z17 g), .lit e, .lit (.map (some f))]]) (fun k s1 => jG s (w64 (u + 1)) o g k s1.1 s1.2.1) (fun _ => rfl) (0, y, w, x) h (aO [1, 2, 0] rfl rfl (aH rfl (aK (ae rfl)))) ?_;rintro k4 ⟨t, c, A, C⟩ h;simp only [jG] at h;refine aC (aA (to (scm rfl rfl rfl) (aB (aC ?_))));refine tih h (fun c5 h => ?_) (fun c5 h => ?_)
 ·refine aU (aC (bD (aC (aA (tm (.i t) (ta (.i t) (aB (aC (aA (tm (.i t) (tm (.i s) ?_)))))))))));obtain ⟨r6, h7, h⟩ := bns h;refine to (eO (aE rfl) (.func _ _ call56) rfl rfl (rC _ _ h7)) ?_;refine bG rfl (cJ (zs := [.j 0, .j 0]) (aE rfl) zeroValue143 rfl rfl) ?_;rintro _ ⟨b8, rfl⟩;refine to (sst 3 rfl rfl sizeOf143 (aL r6)) (aB (aC (aC ?_)));refine cI mix 10 [0, 1, 8, 12, 13] [(9, .i (cW r6 0 c)), (27, .b (dO r6 c))] ?_ ?_
  ·refine ⟨[(20, 0, .bp j n 0), (21, 1, .bp j n 0), (22, 2, .bp j n 3), (23, 3, .d (Z29 f)), (24, 4, .agg (aL r6)), (25, 5, .tup [.i (cW r6 0 c), .b (dO r6 c)]), (19, 6, .tup [.i (cW r6 0 c), .b (dO r6 c)]), (26, 7, .i (cW r6 0 c)), (27, 8, .b (dO r6 c)), (9, 9, .i (cW r6 0 c))], ?_, ?_⟩
   · exact dk [0, 1, 2, 3, 0, 405, 6, 7, 7, 8] ⟨go (zm (.bp j n 0)),
 go fun S hS => oY (aE rfl) (aX hS rfl),
 go (zf rfl aCb),
 go (zl 2 rfl rfl rfl aHf),
 go (zla 3 (aL r6) rfl rfl nZ),
 go fun S hS => aQr (av := (fun v : Int => AV.i v)) (l := c) (z := 0) (a := r6) (m := 1) (aE rfl) aDw underlying139 zeroValue3 (fun _ _ => .d (.lit _ rfl)) (aX hS rfl) rfl rfl (aX hS rfl) (sT (enc := aL) r6 rfl),
 go (zm (.tup [.i (cW r6 0 c), .b (dO r6 c)])),
 go (zex rfl rfl),
 go (zex rfl rfl),
 go (za (.i (cW r6 0 c))), trivial⟩
   · exact bT (aH rfl (aH rfl (aK (ae rfl))))
  ·refine ta (.b (dO r6 c)) (aB (aC (aA (tm (.b (dO r6 c)) (tm (.b (dO r6 c)) ?_)))));obtain ⟨b9, B, h⟩ := bns h;refine aV 10 [0, 1, 8, 12, 13] 39 b9 ?_ ?_
   ·refine bch B (fun q B => ?_) (fun q B => ?_)
    ·refine tk q (sm (.i (cW r6 0 c))) (tk q (sm (.bp j n 0)) (tk q (oY (aE rfl) rfl) ?_));refine tkl 2 q rfl rfl pH rfl cC (tk q (sm (.i s)) ?_);obtain ⟨I, F, B⟩ := bns B;refine tk q (gS (m := 0) (aE rfl) rfl rfl rfl bC.of (aW aF F)) ?_;refine tk q (gJ (aE rfl) rfl (m := 0) rfl (dI aF F) rfl aQ) ?_;refine tk q (scm rfl rfl rfl) (to (spt (.b (!decide ((cW r6 0 c) = I))) q) ?_);obtain rfl := sIn B;refine aB (aJ rfl (ae rfl) rfl)
    ·refine tp q (tp q (tp q (tp q (tp q (tp q (tp q (tp q (tp q (to (spf Z2 q) ?_)))))))));obtain rfl := sIn B;refine aB (aJ rfl (ae rfl) rfl)
   ·refine aB ?_;refine tih h (fun J h => ?_) (fun J h => ?_)
    ·refine aC (aA (ta Z2 (aB ?_)));obtain rfl := sIn h;refine bK (aO [2, 0, 1, 3] rfl rfl (le_refl _)) ?_;exact cD ⟨rfl, _, [.box j n [.j g.Rounds, .sl 1 (Z17 g), .lit e, .lit (.map (some f))], .arr e 3 1 (o.map aF), .map f (c.map fun p : aD × Int => ((fun a : aD => Value.agg ((aL a).map bS).toArray) p.1, (fun v : Int => AV.i v) p.2)) A C], [.box b8 0 (aL r6)], _, .one (.tmp 6 (v := .b false) rfl), .refl _, .same _, A, C, rfl, rfl⟩
    ·refine aU ?_;obtain ⟨E, G, h⟩ := bns h;refine cI mix 12 [0, 1, 12, 13] [(43, .d (Z29 f)), (44, .agg (aL r6)), (51, .i E)] ?_ ?_
     ·refine ⟨[(40, 0, .bp j n 0), (41, 1, .bp j n 0), (42, 2, .bp j n 3), (43, 3, .d (Z29 f)), (44, 4, .agg (aL r6)), (45, 5, .bp j n 0), (46, 6, .bp j n 0), (47, 7, .bp j n 2), (48, 8, .d (.lit e)), (49, 9, .i s), (50, 10, .ep e 1 s.toNat 0), (51, 11, .i E)], ?_, ?_⟩
      · exact dk [0, 1, 2, 3, 0, 0, 6, 7, 8, 0, 910, 11] ⟨go (zm (.bp j n 0)),
 go fun S hS => oY (aE rfl) (aX hS rfl),
 go (zf rfl aCb),
 go (zl 2 rfl rfl rfl aHf),
 go (zla 3 (aL r6) rfl rfl nZ),
 go (zm (.bp j n 0)),
 go fun S hS => oY (aE rfl) (aX hS rfl),
 go (zf rfl pH),
 go (zl 2 rfl rfl rfl cC),
 go (zm (.i s)),
 go (zia 0 rfl rfl rfl bC.of (aW aF G)),
 go fun S hS => gJ (aE rfl) (aX hS rfl) (m := 0) rfl (dI aF G) rfl aQ, trivial⟩
      · exact bT (aH rfl (aH rfl (aH rfl (aK (ae rfl)))))
     ·refine to (aGp (av := (fun v : Int => AV.i v)) (l := c) (v := E) (a := r6) (m := 1) aDw underlying139 rfl rfl rfl rfl (sT (enc := aL) r6 rfl) rfl rfl) ?_;refine cN ?_;refine aA (to (sar rfl rfl rfl) (tm (.i (w64 (t + 1))) (aB ?_)));exact ⟨(w64 (t + 1), (gA r6 E c), (mbs r6 c A C), (mck r6 c C)), h, aO [0, 1, 2] rfl rfl (aH rfl (aK (ae rfl)))⟩
 ·refine bO ?_;refine .inl ⟨rfl, ?_⟩;simp only [uP] at h;refine aC (aA (ta Z14 (aB ?_)));obtain rfl := sIn h;refine bK (aO [2, 0, 1] rfl rfl (le_refl _)) ?_;exact cD ⟨rfl, _, [.box j n [.j g.Rounds, .sl 1 (Z17 g), .lit e, .lit (.map (some f))], .arr e 3 1 (o.map aF), .map f (c.map fun p : aD × Int => ((fun a : aD => Value.agg ((aL a).map bS).toArray) p.1, (fun v : Int => AV.i v) p.2)) A C], [], _, .one (.tmp 6 (v := .b true) rfl), .refl _, .same _, A, C, rfl, rfl⟩

theorem aPa (j : aP) (P : List aG) {Q : ((Option bJ) × Bool) → Prop} (h : vA j P Q) : dP Tryz.prog 115 (Z37 j P) [] (fun r' o' => ∃ (r : (Option bJ) × Bool), Q r ∧ r' = .tup [cR bF r.1, .b r.2] ∧ o' = []) := by
 unfold vA at h;refine iF func115 rfl (rs := [.tmp 4, .tmp 5]) results115 ntmps115 (Nat.le_of_ble_eq_true rfl) ?_;refine aC (aA ?_);refine bG rfl (cV (v := .agg (bI j)) (aE rfl) rfl rfl rfl) ?_;rintro _ ⟨b1, rfl⟩;refine ta (cR bF (none : Option bJ)) (ta Z2 (aB (aC ?_)));obtain ⟨r3, h4, h⟩ := dT h;refine iE mix 5 [1] (fun X2 => [(19, .agg (bI j)), (22, .d (.lit (X2 3).v)), (23, .d (.lit (.map (some (X2 4).b))))]) (fun X2 => [.box b1 0 (bI j), .arr (X2 3).v 3 1 (r3.map aF), .map (X2 4).b (([] : List (aD × Int)).map fun p : aD × Int => ((fun a : aD => Value.agg ((aL a).map bS).toArray) p.1, (fun v : Int => AV.i v) p.2)) ([]) 0]) ?_ ?_
 ·refine ⟨2, fun X2 => [(19, 0, .agg (bI j)), (20, 1, .bp b1 0 1), (21, 2, .d (.sl 1 (Z17 j))), (22, 3, .d (.lit (X2 3).v)), (23, 4, .d (.lit (.map (some (X2 4).b))))], fun X2 => [([], .box b1 0 (bI j)), ([(3, .arr (X2 3).v 3 1 (r3.map aF))], nob), ([(4, .map (X2 4).b (([] : List (aD × Int)).map fun p : aD × Int => ((fun a : aD => Value.agg ((aL a).map bS).toArray) p.1, (fun v : Int => AV.i v) p.2)) ([]) 0)], nob)], ?_, ?_⟩
  · exact xok [(0, 0), (0, 4), (2, 4), (3, 0), (0, 0)] ⟨fun _ _ w _ k => xp w (yla k 0 (bI j) rfl (og k rfl rfl) kD),
 fun _ _ w _ k => xp w (yf k rfl dW),
 fun _ _ w _ k => xp w (yl k 0 rfl (og k rfl rfl) rfl cC),
 fun X2 S hw hi hS => uH (X := X2) (p := 1) (v := fun x => .d (.lit x.v)) (mo := fun x => .arr x.v 3 1 (r3.map aF)) hS hi rfl rfl (fun _ => rfl) hw (fun _ => rfl) (fun _ => rfl) (fun _ => rfl) (fun _ => ⟨rfl, rfl, .inr rfl, ⟨rfl, rfl, .inr rfl, ⟨rfl, rfl, .inr rfl, ⟨rfl, rfl, .inl rfl, ⟨rfl, rfl, .inr rfl, trivial⟩⟩⟩⟩⟩) (fun _ => ⟨trivial, rfl, ⟨⟨rfl, .inl rfl, trivial⟩, rfl, ⟨⟨rfl, .inr rfl, trivial⟩, rfl, trivial⟩⟩⟩) (kQ (aDj (aE rfl) (.func _ _ call93) (ev2 (aX hS rfl) evn) rfl (rV _ h4)) (by rintro _ ⟨w, rfl⟩; exact ⟨⟨0, w⟩, aO [0, 3, 2] rfl rfl (le_refl _)⟩)),
 fun X2 S hw hi hS => uH (X := X2) (p := 2) (v := fun x => .d (.lit (.map (some x.b)))) (mo := fun x => .map x.b (([] : List (aD × Int)).map fun p : aD × Int => ((fun a : aD => Value.agg ((aL a).map bS).toArray) p.1, (fun v : Int => AV.i v) p.2)) ([]) 0) hS hi rfl rfl (fun _ => rfl) hw (fun _ => rfl) (fun _ => rfl) (fun _ => rfl) (fun _ => ⟨rfl, rfl, .inr rfl, ⟨rfl, rfl, .inr rfl, ⟨rfl, rfl, .inr rfl, ⟨rfl, rfl, .inr rfl, ⟨rfl, rfl, .inl rfl, trivial⟩⟩⟩⟩⟩) (fun _ => ⟨trivial, rfl, ⟨⟨rfl, .inr rfl, trivial⟩, rfl, ⟨⟨rfl, .inl rfl, trivial⟩, rfl, trivial⟩⟩⟩) (kQ (aGd (aE rfl)) (by rintro _ ⟨w, rfl⟩; exact ⟨⟨w, undef⟩, aO [0, 1, 3] rfl rfl (le_refl _)⟩)), trivial⟩
  · exact fun X2 => bT (aH rfl (aH rfl (aH rfl (aK (ae rfl)))))
 ·intro X2;refine to (cZ (aE rfl) bGb (zs := [.j 0, .sl 1 ((([] : List Int)).map aF), .sl 1 ((([] : List Int)).map aF), .lit (.map none)]) rfl rfl rfl rfl (es := [.j j.Rounds, .sl 1 (Z17 j), .lit (X2 3).v, .lit (.map (some (X2 4).b))]) rfl) ?_;refine bG rfl (cV (v := .agg [.j j.Rounds, .sl 1 (Z17 j), .lit (X2 3).v, .lit (.map (some (X2 4).b))]) (aE rfl) rfl rfl rfl) ?_;rintro _ ⟨b5, rfl⟩;refine ta (.bp b5 0 0) (aB (aC (aA ?_)));refine bG rfl (aGd (aE rfl)) ?_;rintro _ ⟨r6, rfl⟩;refine bG rfl (aGd (aE rfl)) ?_;rintro _ ⟨r7, rfl⟩;refine ta (.d (.lit (.map (some r6)))) (ta (.d (.lit (.map (some r7)))) (aB (aC (aC (aA (tm (Z51 P) (to (sle rfl iT.of) (tm (.i 0) (aB (bD ?_))))))))));refine xH [6, 7, 8, 28, 29] (fun (s8 : Int × (List (aG × Int)) × (List (aD × aG)) × (List Nat) × Nat × (List Nat) × Nat) => [(30, .i s8.1)]) (fun (s8 : Int × (List (aG × Int)) × (List (aD × aG)) × (List Nat) × Nat × (List Nat) × Nat) => [.arr (X2 3).v 3 1 (r3.map aF), .map (X2 4).b (([] : List (aD × Int)).map fun p : aD × Int => ((fun a : aD => Value.agg ((aL a).map bS).toArray) p.1, (fun v : Int => AV.i v) p.2)) ([]) 0, .box b5 0 [.j j.Rounds, .sl 1 (Z17 j), .lit (X2 3).v, .lit (.map (some (X2 4).b))], .map r6 (s8.2.1.map fun p : aG × Int => ((fun a : aG => Value.agg ((aM a).map bS).toArray) p.1, (fun v : Int => AV.i v) p.2)) s8.2.2.2.1 s8.2.2.2.2.1, .map r7 (s8.2.2.1.map fun p : aD × aG => ((fun a : aD => Value.agg ((aL a).map bS).toArray) p.1, (fun v : aG => AV.agg (aM v)) p.2)) s8.2.2.2.2.2.1 s8.2.2.2.2.2.2]) (fun (k : Nat) (s8 : Int × (List (aG × Int)) × (List (aD × aG)) × (List Nat) × Nat × (List Nat) × Nat) => jD Q P (P.length : Int) r3 ([] : List (aD × Int)) j k s8.1 s8.2.1 s8.2.2.1) (fun _ h => h) (0, ([] : List (aG × Int)), ([] : List (aD × aG)), [], 0, [], 0) h (aO [1, 2, 3, 4, 5] rfl rfl (aH rfl (aK (ae rfl)))) ?_;rintro d7 ⟨H, g, e, I, y, B, s⟩ h;simp only [jD] at h;refine aC (aA (to (scm rfl rfl rfl) (aB (aC ?_))));refine tip h (fun c0 h => ?_) (fun c0 h => ?_)
  ·refine aU (aC (bD (aC (aA ?_))));obtain ⟨c, c1, h⟩ := dT h;refine to (six rfl rfl iT.of (aW aM c1)) (to (tG (aM c) rfl mN) ?_);refine bG rfl (cJ (zs := [.j 0, .j 0, .j 0, .j 0, .j 0]) (aE rfl) zeroValue95 rfl rfl) ?_;rintro _ ⟨a0, rfl⟩;refine to (sst 5 rfl rfl sizeOf95 (aM c)) (aB (aC (aC (aA (tfl 5 rfl rfl qC rfl aQ (to (scm rfl rfl rfl) (aB ?_)))))));refine tip h (fun c2 h => ?_) (fun c2 h => ?_)
   ·refine aC ?_;refine iE mix 6 [6, 7, 8, 28, 29, 30] (fun L => [(37, .d (.lit (.map (some r6)))), (40, .i (w64 ((cW c 0 g) + 1))), (42, .i (vF c g I y))]) (fun L => [.arr (X2 3).v 3 1 (r3.map aF), .map (X2 4).b (([] : List (aD × Int)).map fun p : aD × Int => ((fun a : aD => Value.agg ((aL a).map bS).toArray) p.1, (fun v : Int => AV.i v) p.2)) ([]) 0, .box b5 0 [.j j.Rounds, .sl 1 (Z17 j), .lit (X2 3).v, .lit (.map (some (X2 4).b))], .map r6 ((tF c 0 g).map fun p : aG × Int => ((fun a : aG => Value.agg ((aM a).map bS).toArray) p.1, (fun v : Int => AV.i v) p.2)) (mbs c g I y) (mck c g y), .map r7 (e.map fun p : aD × aG => ((fun a : aD => Value.agg ((aL a).map bS).toArray) p.1, (fun v : aG => AV.agg (aM v)) p.2)) B s, .box a0 0 (aM c)]) ?_ ?_
    ·refine ⟨0, fun L => [(37, 0, .d (.lit (.map (some r6)))), (38, 1, .agg (aM c)), (39, 2, .i (cW c 0 g)), (40, 3, .i (w64 ((cW c 0 g) + 1))), (41, 4, .tup [.i (cW c 0 g), .i (vF c g I y)]), (42, 5, .i (vF c g I y))], fun L => [([], .arr (X2 3).v 3 1 (r3.map aF)), ([], .map (X2 4).b (([] : List (aD × Int)).map fun p : aD × Int => ((fun a : aD => Value.agg ((aL a).map bS).toArray) p.1, (fun v : Int => AV.i v) p.2)) ([]) 0), ([], .box b5 0 [.j j.Rounds, .sl 1 (Z17 j), .lit (X2 3).v, .lit (.map (some (X2 4).b))]), ([(4, .map r6 ((tF c 0 g).map fun p : aG × Int => ((fun a : aG => Value.agg ((aM a).map bS).toArray) p.1, (fun v : Int => AV.i v) p.2)) (mbs c g I y) (mck c g y))], .map r6 (g.map fun p : aG × Int => ((fun a : aG => Value.agg ((aM a).map bS).toArray) p.1, (fun v : Int => AV.i v) p.2)) I y), ([], .map r7 (e.map fun p : aD × aG => ((fun a : aD => Value.agg ((aL a).map bS).toArray) p.1, (fun v : aG => AV.agg (aM v)) p.2)) B s), ([], .box a0 0 (aM c))], ?_, ?_⟩
     · exact xok [(0, 5), (0, 5), (102, 0), (3, 0), (102, 0), (5, 0)] ⟨fun _ _ w _ k => xp w (ym k (.d (.lit (.map (some r6))))),
 fun _ _ w _ k => xp w (yla k 5 (aM c) rfl (og k rfl rfl) mN),
 fun _ _ w _ k => xp w (bBw (av := (fun v : Int => AV.i v)) (l := g) (z := 0) (a := c) (m := 3) (aE rfl) aUp underlying260 zeroValue3 (fun _ _ => .d (.lit _ rfl)) (aX k rfl) (og2 rfl) rfl (aX k rfl) (sT (enc := aM) c rfl)),
 fun _ _ w _ k => xp w (yar k rfl rfl rfl),
 fun L S hw hi hS => bCo (X := L) (p := 3) hS rfl rfl rfl (hw L) rfl rfl rfl (kQ (aZn (av := (fun v : Int => AV.i v)) (l := g) (z := 0) (a := c) (m := 3) (aE rfl) aUp underlying260 zeroValue3 (fun _ _ => .d (.lit _ rfl)) (aX hS rfl) (og hS rfl rfl) rfl (aX hS rfl) (sT (enc := aM) c rfl)) (by rintro _ rfl; exact Ent.refl _)),
 fun _ _ w _ k => xp w (yex k rfl rfl), trivial⟩
     · exact fun L => bT (aH rfl (aH rfl (aH rfl (aK (ae rfl)))))
    ·intro L;refine to (aTk (kv := (fun a : aG => Value.agg ((aM a).map bS).toArray)) (av := (fun v : Int => AV.i v)) (l := g) (z := 0) (v := w64 ((cW c 0 g) + 1)) (a := c) (m := 3) rfl rfl rfl rfl rfl) ?_;refine aB ?_;refine bO ?_;refine .inl ⟨rfl, ?_⟩;refine aA (to (sar rfl rfl rfl) (tm (.i (w64 (H + 1))) (aB ?_)));exact ⟨(w64 (H + 1), (gA c (w64 ((cW c 0 g) + 1)) g), e, (mbs c g I y), (mck c g y), B, s), h, aO [0, 1, 2, 3, 4] rfl rfl (aH rfl (aK (ae rfl)))⟩
   ·refine aU (aC (aA (tfl 5 rfl rfl rF rfl aQ (tfl 5 rfl rfl lQ rfl aQ (to (cZ (aE rfl) aMo (zs := [.j 0, .j 0]) rfl rfl rfl rfl (es := [.j c.Round, .j c.Place]) rfl) ?_)))));refine bG rfl (cJ (zs := [.j 0, .j 0]) (aE rfl) zeroValue143 rfl rfl) ?_;rintro _ ⟨c3, rfl⟩;refine to (sst 6 rfl rfl sizeOf143 (aL (aD.mk c.Round c.Place))) (aB (aC (aC (aA (tm (.d (.lit (.map (some r7)))) (to (sla 6 (aL (aD.mk c.Round c.Place)) rfl rfl nZ) (to (aQr (av := (fun v : aG => AV.agg (aM v))) (l := e) (z := (aG.mk 0 0 0 0 0)) (a := (aD.mk c.Round c.Place)) (m := 4) (aE rfl) aDw underlying261 zeroValue95 (fun _ _ => .agg (aLa rfl)) rfl rfl rfl rfl (sT (enc := aL) (aD.mk c.Round c.Place) rfl)) ?_)))))));refine tm (.tup [.agg (aM (cW (aD.mk c.Round c.Place) (aG.mk 0 0 0 0 0) e)), .b (dO (aD.mk c.Round c.Place) e)]) (to (sex rfl rfl) (to (sex rfl rfl) ?_));refine bG rfl (cJ (zs := [.j 0, .j 0, .j 0, .j 0, .j 0]) (aE rfl) zeroValue95 rfl rfl) ?_;rintro _ ⟨c4, rfl⟩;refine to (sst 7 rfl rfl sizeOf95 (aM (cW (aD.mk c.Round c.Place) (aG.mk 0 0 0 0 0) e))) (ta (.b (dO (aD.mk c.Round c.Place) e)) (aB (aC (aA (tm (.b (dO (aD.mk c.Round c.Place) e)) (tm (.b (dO (aD.mk c.Round c.Place) e)) ?_))))));obtain ⟨c5, T, h⟩ := dT h;refine aV 4 [6, 7, 8, 10, 11, 28, 29, 30] 59 c5 ?_ ?_
    ·refine bch T (fun J T => ?_) (fun J T => ?_)
     ·refine tk J (sla 7 (aM (cW (aD.mk c.Round c.Place) (aG.mk 0 0 0 0 0) e)) rfl rfl mN) (tk J (sla 5 (aM c) rfl rfl mN) (tk J (aMl (a := (cW (aD.mk c.Round c.Place) (aG.mk 0 0 0 0 0) e)) (b := c) (aE rfl) rfl rfl rfl rfl Tryz.eqGuardType95 aUg) ?_));refine to (spt (.b (!decide ((cW (aD.mk c.Round c.Place) (aG.mk 0 0 0 0 0) e) = c))) J) ?_;obtain rfl := sIn T;refine aB (aJ rfl (ae rfl) rfl)
     ·refine tp J (tp J (tp J (to (spf Z2 J) ?_)));obtain rfl := sIn T;refine aB (aJ rfl (ae rfl) rfl)
    ·refine aB ?_;refine tip h (fun c6 h => ?_) (fun c6 h => ?_)
     ·refine aC (aA (ta (cR bF (none : Option bJ)) (ta Z2 (aB ?_))));exact cD ⟨rfl, _, [], [.arr (X2 3).v 3 1 (r3.map aF), .map (X2 4).b (([] : List (aD × Int)).map fun p : aD × Int => ((fun a : aD => Value.agg ((aL a).map bS).toArray) p.1, (fun v : Int => AV.i v) p.2)) ([]) 0, .box b5 0 [.j j.Rounds, .sl 1 (Z17 j), .lit (X2 3).v, .lit (.map (some (X2 4).b))], .map r6 (g.map fun p : aG × Int => ((fun a : aG => Value.agg ((aM a).map bS).toArray) p.1, (fun v : Int => AV.i v) p.2)) I y, .map r7 (e.map fun p : aD × aG => ((fun a : aD => Value.agg ((aL a).map bS).toArray) p.1, (fun v : aG => AV.agg (aM v)) p.2)) B s, .box a0 0 (aM c), .box c3 0 (aL (aD.mk c.Round c.Place)), .box c4 0 (aM (cW (aD.mk c.Round c.Place) (aG.mk 0 0 0 0 0) e))], _, .two (.tmp 4 (v := cR bF (none : Option bJ)) rfl) (.tmp 5 (v := .b false) rfl), .refl _, .same _, ((none : Option bJ), false), h, rfl, rfl⟩
     ·refine aU (aA (tm (.d (.lit (.map (some r7)))) (to (sla 6 (aL (aD.mk c.Round c.Place)) rfl rfl nZ) (to (sla 5 (aM c) rfl rfl mN) (to (aGp (av := (fun v : aG => AV.agg (aM v))) (l := e) (v := c) (a := (aD.mk c.Round c.Place)) (m := 4) aDw underlying261 rfl rfl rfl rfl (sT (enc := aL) (aD.mk c.Round c.Place) rfl) rfl rfl) ?_)))));refine cN ?_;refine aA (to (sar rfl rfl rfl) (tm (.i (w64 (H + 1))) (aB ?_)));exact ⟨(w64 (H + 1), g, (gA (aD.mk c.Round c.Place) c e), I, y, (mbs (aD.mk c.Round c.Place) e B s), (mck (aD.mk c.Round c.Place) e s)), h, aO [0, 1, 2, 3, 4] rfl rfl (aH rfl (aK (ae rfl)))⟩
  ·refine bO ?_;refine .inl ⟨rfl, ?_⟩;simp only [uM] at h;refine aC (aC (aA (tm (.bp b5 0 0) (tm (.d (.lit (.map (some r6)))) ?_))));refine gY (aO [2, 0, 3, 1, 4] rfl rfl (le_refl _)) ?_;refine bG rfl (dU (passed := [.box b5 0 [.j j.Rounds, .sl 1 (Z17 j), .lit (X2 3).v, .lit (.map (some (X2 4).b))], .arr (X2 3).v 3 1 (r3.map aF), .map r6 (g.map fun p : aG × Int => ((fun a : aG => Value.agg ((aM a).map bS).toArray) p.1, (fun v : Int => AV.i v) p.2)) I y]) (aE rfl) rfl (.func _ _ call174) rfl rfl (aGg j r3 g h)) ?_;rintro _ ⟨_, _, ⟨C, b6, b7, h, rfl, rfl⟩, rfl⟩;refine to (sn rfl) (aB ?_);refine tip h (fun c7 h => ?_) (fun c7 h => ?_)
   ·refine aC (aA (ta (cR bF (none : Option bJ)) (ta Z2 (aB ?_))));exact cD ⟨rfl, _, [], [.box b5 0 [.j j.Rounds, .sl 1 (Z17 j), .lit (X2 3).v, .lit (.map (some (X2 4).b))], .arr (X2 3).v 3 1 (C.2.1.map aF), .map r6 (C.2.2.map fun p : aG × Int => ((fun a : aG => Value.agg ((aM a).map bS).toArray) p.1, (fun v : Int => AV.i v) p.2)) b6 b7, .map (X2 4).b (([] : List (aD × Int)).map fun p : aD × Int => ((fun a : aD => Value.agg ((aL a).map bS).toArray) p.1, (fun v : Int => AV.i v) p.2)) ([]) 0, .map r7 (e.map fun p : aD × aG => ((fun a : aD => Value.agg ((aL a).map bS).toArray) p.1, (fun v : aG => AV.agg (aM v)) p.2)) B s], _, .two (.tmp 4 (v := cR bF (none : Option bJ)) rfl) (.tmp 5 (v := .b false) rfl), .refl _, .same _, ((none : Option bJ), false), h, rfl, rfl⟩
   ·refine aU (aC (aC (aA (tm (.bp b5 0 0) (to (oY (aE rfl) rfl) ?_)))));refine tfl 0 rfl rfl pH rfl cC (to (iH (m := 1) (aE rfl) rfl rfl bC.of) ?_);refine tm (.i 0) (aB (bD ?_));refine xH [6, 8, 71, 72] (fun (M : Int × (List (aD × Int)) × (List Nat) × Nat) => [(73, .i M.1)]) (fun (M : Int × (List (aD × Int)) × (List Nat) × Nat) => [.arr (X2 3).v 3 1 (C.2.1.map aF), .map (X2 4).b (M.2.1.map fun p : aD × Int => ((fun a : aD => Value.agg ((aL a).map bS).toArray) p.1, (fun v : Int => AV.i v) p.2)) M.2.2.1 M.2.2.2, .box b5 0 [.j j.Rounds, .sl 1 (Z17 j), .lit (X2 3).v, .lit (.map (some (X2 4).b))], .map r7 (e.map fun p : aD × aG => ((fun a : aD => Value.agg ((aL a).map bS).toArray) p.1, (fun v : aG => AV.agg (aM v)) p.2)) B s]) (fun (k : Nat) (M : Int × (List (aD × Int)) × (List Nat) × Nat) => jE Q (C.2.1.length : Int) C.2.1 j e k M.1 M.2.1) (fun _ h => h) (0, ([] : List (aD × Int)), [], 0) h (aO [1, 3, 0, 4] rfl rfl (aH rfl (aK (ae rfl)))) ?_;rintro d8 ⟨u, G, U, V⟩ h;simp only [jE] at h;refine aC (aA (to (scm rfl rfl rfl) (aB (aC ?_))));refine tip h (fun c8 h => ?_) (fun c8 h => ?_)
    ·refine aU (aC (bD (aC (aA (tm (.i u) ?_)))));obtain ⟨a8, a9, h⟩ := dT h;refine to (gS (m := 0) (aE rfl) rfl rfl rfl bC.of (aW aF a9)) ?_;refine to (gJ (aE rfl) rfl (m := 0) rfl (dI aF a9) rfl aQ) ?_;refine ta (.i u) (ta (.i a8) (aB (aC (aA (tm (.i a8) (to (scm rfl rfl rfl) (aB ?_)))))));refine tip h (fun c9 h => ?_) (fun c9 h => ?_)
     ·refine aA (tm (.bp b5 0 0) (tm (.i u) (to (aQo (aE rfl) rfl rfl (.inr (.inr ⟨rfl, rfl⟩))) ?_)));obtain ⟨d0, d1, h⟩ := dT h;refine gY (aO [2, 0, 1, 3] rfl rfl (le_refl _)) ?_;refine bG rfl (dU (passed := [.box b5 0 [.j j.Rounds, .sl 1 (Z17 j), .lit (X2 3).v, .lit (.map (some (X2 4).b))], .arr (X2 3).v 3 1 (C.2.1.map aF), .map (X2 4).b (G.map fun p : aD × Int => ((fun a : aD => Value.agg ((aL a).map bS).toArray) p.1, (fun v : Int => AV.i v) p.2)) U V]) (aE rfl) rfl (.func _ _ call175) rfl rfl (aAt j C.2.1 G (aHw u 1) 0 d1)) ?_;rintro _ ⟨_, _, ⟨b8, b9, rfl, rfl⟩, rfl⟩;refine cN ?_;refine aA (to (sar rfl rfl rfl) (tm (.i (w64 (u + 1))) (aB ?_)));exact ⟨(w64 (u + 1), d0.2, b8, b9), h, aO [1, 2, 0, 3] rfl rfl (aH rfl (aK (ae rfl)))⟩
     ·refine cA ?_;refine aA (to (sar rfl rfl rfl) (tm (.i (w64 (u + 1))) (aB ?_)));exact ⟨(w64 (u + 1), G, U, V), h, aO [0, 1, 2, 3] rfl rfl (aH rfl (aK (ae rfl)))⟩
    ·refine bO ?_;refine .inl ⟨rfl, ?_⟩;simp only [uN] at h;refine aC (aC (aA (tm (.d (.lit (.map (some r7)))) ?_)));refine bG rfl (aYb (m := 3) (aE rfl) underlying261 rfl rfl) ?_;rintro _ ⟨Z, d2, rfl⟩;have h := aLe h d2;refine aB (bD ?_);refine xH [6, 86] (fun (N : (List (aD × Int)) × (List Nat) × Nat × (List Nat)) => []) (fun (N : (List (aD × Int)) × (List Nat) × Nat × (List Nat)) => [.arr (X2 3).v 3 1 (C.2.1.map aF), .map (X2 4).b (N.1.map fun p : aD × Int => ((fun a : aD => Value.agg ((aL a).map bS).toArray) p.1, (fun v : Int => AV.i v) p.2)) N.2.1 N.2.2.1, .box b5 0 [.j j.Rounds, .sl 1 (Z17 j), .lit (X2 3).v, .lit (.map (some (X2 4).b))], .map r7 (e.map fun p : aD × aG => ((fun a : aD => Value.agg ((aL a).map bS).toArray) p.1, (fun v : aG => AV.agg (aM v)) p.2)) B s, .iter Z r7 s N.2.2.2 s]) (fun (k : Nat) (N : (List (aD × Int)) × (List Nat) × Nat × (List Nat)) => lN Q C.2.1 j e k N.1 (pW e B N.2.2.2)) (fun _ h => h) (G, U, V, []) h (aO [0, 1, 2, 3, 4] rfl rfl (aK (ae rfl))) ?_;rintro d9 ⟨A, W, Y, K⟩ h;simp only [lN] at h;refine aC (aA ?_);refine bG rfl (bBx (kv := (fun a : aD => Value.agg ((aL a).map bS).toArray)) (av := (fun v : aG => AV.agg (aM v))) (l := e) (mi := 4) (mm := 3) (aE rfl) rfl rfl rfl) ?_;rintro _ (⟨d3, rfl⟩ | ⟨e0, a1, n, b0, rfl⟩)
     ·have h := h.1 d3;refine to (sex rfl rfl) (aB (aC ?_));refine aDq rfl (fun b2 => ?_) (fun b2 => ?_)
      ·exact absurd b2 (by decide)
      ·refine bO ?_;refine .inl ⟨rfl, ?_⟩;simp only [yT] at h;refine aC (aA (tm (.bp b5 0 0) (ta (.bp b5 0 0) (ta Z14 (aB ?_)))));exact cD ⟨rfl, _, [], [.arr (X2 3).v 3 1 (C.2.1.map aF), .map (X2 4).b (A.map fun p : aD × Int => ((fun a : aD => Value.agg ((aL a).map bS).toArray) p.1, (fun v : Int => AV.i v) p.2)) W Y, .box b5 0 [.j j.Rounds, .sl 1 (Z17 j), .lit (X2 3).v, .lit (.map (some (X2 4).b))], .map r7 (e.map fun p : aD × aG => ((fun a : aD => Value.agg ((aL a).map bS).toArray) p.1, (fun v : aG => AV.agg (aM v)) p.2)) B s, .iter Z r7 s K s], _, .two (.tmp 4 (v := .bp b5 0 0) rfl) (.tmp 5 (v := .b true) rfl), .refl _, aEc (.cons (sF 2 rfl rfl (dvc (.same _) (dvc (.same _) (dvc (gZ 0 rfl (bY (f := aF) fun _ => rfl)) (dvc (bHn (kv := (fun a : aD => Value.agg ((aL a).map bS).toArray)) (av := (fun v : Int => AV.i v)) (l := A) (enc := aF) (agg := false) 1 rfl (fun _ _ => rfl) (fun _ => rfl)) dvn))))) (.cons (.same _) .nil)), ((some (bJ.mk j C.2.1 A)), true), h, rfl, rfl⟩
     ·have h := aNf h b0;refine to (sex rfl rfl) (aB (aC ?_));refine aDq rfl (fun b3 => ?_) (fun b3 => ?_)
      ·refine aU (bD (aC (aA (to (aYa (kv := (fun a : aD => Value.agg ((aL a).map bS).toArray)) (av := (fun v : aG => AV.agg (aM v))) (l := e) (mi := 4) (mm := 3) (ka := .agg (aL n.1)) (aE rfl) rfl rfl rfl b0 (fun _ _ => .agg (aLa rfl))) ?_))));refine to (sex rfl rfl) (to (sex rfl rfl) ?_);refine bG rfl (cJ (zs := [.j 0, .j 0]) (aE rfl) zeroValue143 rfl rfl) ?_;rintro _ ⟨O, rfl⟩;refine bG rfl (cJ (zs := [.j 0, .j 0, .j 0, .j 0, .j 0]) (aE rfl) zeroValue95 rfl rfl) ?_;rintro _ ⟨a2, rfl⟩;refine to (sst 5 rfl rfl sizeOf143 (aL n.1)) (to (sst 6 rfl rfl sizeOf95 (aM n.2)) (aB (aC ?_)));refine cI mix 6 [6, 16, 86] [(95, .d (.lit (X2 3).v)), (97, .i n.2.Player)] ?_ ?_
       ·refine ⟨[(92, 0, .bp b5 0 0), (93, 1, .bp b5 0 0), (94, 2, .bp b5 0 2), (95, 3, .d (.lit (X2 3).v)), (96, 4, .bp a2 0 3), (97, 5, .i n.2.Player)], ?_, ?_⟩
        · exact dk [0, 1, 2, 3, 0, 5] ⟨go (zm (.bp b5 0 0)),
 go fun S hS => oY (aE rfl) (aX hS rfl),
 go (zf rfl pH),
 go (zl 2 rfl rfl rfl cC),
 go (zf rfl qD),
 go (zl 6 rfl rfl rfl aQ), trivial⟩
        · exact bT (aH rfl (aH rfl (aK (ae rfl))))
       ·obtain ⟨o, d4, h⟩ := dT h;refine to (sc call117 (xF _ _ d4) (.cons (.d (gZ 0 rfl (bY (f := aF) fun _ => rfl))) (.cons (.same _) .nil))) (ta (.i o) (aB (aC ?_)));obtain ⟨a3, F, h⟩ := dT h;refine aOw (a3) (fun t => ?_) (fun t => ?_)
        ·have h := aXn t h;refine cI mix 15 [6, 86] [(109, .b a3)] ?_ ?_
         ·refine bch F (fun q F => ?_) (fun q F => ?_)
          ·obtain rfl := sIn F;refine ⟨[(99, 0, .i o), (100, 1, .b (decide (o < 0))), (101, 2, .b (decide (o < 0))), (102, 3, .tup []), (103, 4, .tup []), (104, 5, .tup []), (105, 6, .tup []), (106, 7, .tup []), (107, 8, .tup []), (108, 9, .b true), (109, 10, .b (true)), (110, 11, .tup []), (111, 12, .tup []), (112, 13, .tup []), (113, 14, .tup [])], ?_, ?_⟩
           · exact dk [0, 1, 2, 3, 304, 3, 30506, 3, 30708, 309, 10, 11, 11, 11, 1114] ⟨go (zm (.i o)),
 go (zcm rfl rfl rfl),
 go (zm (.b (decide (o < 0)))),
 gp q,
 gp q,
 gp q,
 gp q,
 gp q,
 gp q,
 go (zpt Z14 q),
 go (zm (.b (true))),
 gp t,
 gp t,
 gp t,
 gp t, trivial⟩
           · exact bT (aH rfl (aK (ae rfl)))
          ·obtain ⟨E, a4, F⟩ := bns F;obtain rfl := sIn F;refine ⟨[(99, 0, .i o), (100, 1, .b (decide (o < 0))), (101, 2, .b (decide (o < 0))), (102, 3, .bp O 0 0), (103, 4, .i n.1.round), (104, 5, .i o), (105, 6, .agg (aL E)), (106, 7, .agg (aL n.1)), (107, 8, .b (!decide (E = n.1))), (108, 9, .b (!decide (E = n.1))), (109, 10, .b (!decide (E = n.1))), (110, 11, .tup []), (111, 12, .tup []), (112, 13, .tup []), (113, 14, .tup [])], ?_, ?_⟩
           · exact dk [0, 1, 2, 3, 304, 3, 30506, 3, 30708, 309, 10, 11, 11, 11, 1114] ⟨go (zm (.i o)),
 go (zcm rfl rfl rfl),
 go (zm (.b (decide (o < 0)))),
 gt q (zf rfl wV),
 gt q (zl 5 rfl rfl rfl aQ),
 gt q (zm (.i o)),
 gt q fun S hS => eO (aE rfl) (.func _ _ call56) (ev2 (aX hS rfl) (ev2 (aX hS rfl) evn)) rfl (rC _ _ a4),
 gt q (zla 5 (aL n.1) rfl rfl nZ),
 gt q fun S hS => aMl (a := E) (b := n.1) (aE rfl) (aX hS rfl) (aX hS rfl) rfl rfl Tryz.eqGuardType143 aGy,
 go (zpf (.b (!decide (E = n.1))) q),
 go (zm (.b (!decide (E = n.1)))),
 gp t,
 gp t,
 gp t,
 gp t, trivial⟩
           · exact bT (aH rfl (aK (ae rfl)))
         ·refine tp t (tp t (to (spt Z14 t) (aB ?_)));refine aDq rfl (fun b4 => ?_) (fun b4 => ?_)
          ·refine aC (aA (ta (cR bF (none : Option bJ)) (ta Z2 (aB ?_))));exact cD ⟨rfl, _, [], [.arr (X2 3).v 3 1 (C.2.1.map aF), .map (X2 4).b (A.map fun p : aD × Int => ((fun a : aD => Value.agg ((aL a).map bS).toArray) p.1, (fun v : Int => AV.i v) p.2)) W Y, .box b5 0 [.j j.Rounds, .sl 1 (Z17 j), .lit (X2 3).v, .lit (.map (some (X2 4).b))], .map r7 (e.map fun p : aD × aG => ((fun a : aD => Value.agg ((aL a).map bS).toArray) p.1, (fun v : aG => AV.agg (aM v)) p.2)) B s, .iter Z r7 s (K ++ [a1]) s, .box O 0 (aL n.1), .box a2 0 (aM n.2)], _, .two (.tmp 4 (v := cR bF (none : Option bJ)) rfl) (.tmp 5 (v := .b false) rfl), .refl _, .same _, ((none : Option bJ), false), h, rfl, rfl⟩
          ·exact absurd b4 (by decide)
        ·have h := aXm t h;refine cI mix 15 [6, 86] [(109, .b a3), (110, .bp b5 0 0), (111, .i o), (112, .bp O 0 0), (113, .i n.1.round)] ?_ ?_
         ·refine bch F (fun q F => ?_) (fun q F => ?_)
          ·obtain rfl := sIn F;refine ⟨[(99, 0, .i o), (100, 1, .b (decide (o < 0))), (101, 2, .b (decide (o < 0))), (102, 3, .tup []), (103, 4, .tup []), (104, 5, .tup []), (105, 6, .tup []), (106, 7, .tup []), (107, 8, .tup []), (108, 9, .b true), (109, 10, .b (true)), (110, 11, .bp b5 0 0), (111, 12, .i o), (112, 13, .bp O 0 0), (113, 14, .i n.1.round)], ?_, ?_⟩
           · exact dk [0, 1, 2, 3, 304, 3, 30506, 3, 30708, 309, 10, 11, 11, 11, 1114] ⟨go (zm (.i o)),
 go (zcm rfl rfl rfl),
 go (zm (.b (decide (o < 0)))),
 gp q,
 gp q,
 gp q,
 gp q,
 gp q,
 gp q,
 go (zpt Z14 q),
 go (zm (.b (true))),
 gt t (zm (.bp b5 0 0)),
 gt t (zm (.i o)),
 gt t (zf rfl wV),
 gt t (zl 5 rfl rfl rfl aQ), trivial⟩
           · exact bT (aH rfl (aH rfl (aH rfl (aH rfl (aH rfl (aK (ae rfl)))))))
          ·obtain ⟨E, a4, F⟩ := bns F;obtain rfl := sIn F;refine ⟨[(99, 0, .i o), (100, 1, .b (decide (o < 0))), (101, 2, .b (decide (o < 0))), (102, 3, .bp O 0 0), (103, 4, .i n.1.round), (104, 5, .i o), (105, 6, .agg (aL E)), (106, 7, .agg (aL n.1)), (107, 8, .b (!decide (E = n.1))), (108, 9, .b (!decide (E = n.1))), (109, 10, .b (!decide (E = n.1))), (110, 11, .bp b5 0 0), (111, 12, .i o), (112, 13, .bp O 0 0), (113, 14, .i n.1.round)], ?_, ?_⟩
           · exact dk [0, 1, 2, 3, 304, 3, 30506, 3, 30708, 309, 10, 11, 11, 11, 1114] ⟨go (zm (.i o)),
 go (zcm rfl rfl rfl),
 go (zm (.b (decide (o < 0)))),
 gt q (zf rfl wV),
 gt q (zl 5 rfl rfl rfl aQ),
 gt q (zm (.i o)),
 gt q fun S hS => eO (aE rfl) (.func _ _ call56) (ev2 (aX hS rfl) (ev2 (aX hS rfl) evn)) rfl (rC _ _ a4),
 gt q (zla 5 (aL n.1) rfl rfl nZ),
 gt q fun S hS => aMl (a := E) (b := n.1) (aE rfl) (aX hS rfl) (aX hS rfl) rfl rfl Tryz.eqGuardType143 aGy,
 go (zpf (.b (!decide (E = n.1))) q),
 go (zm (.b (!decide (E = n.1)))),
 gt t (zm (.bp b5 0 0)),
 gt t (zm (.i o)),
 gt t (zf rfl wV),
 gt t (zl 5 rfl rfl rfl aQ), trivial⟩
           · exact bT (aH rfl (aH rfl (aH rfl (aH rfl (aH rfl (aK (ae rfl)))))))
         ·obtain ⟨a5, d5, h⟩ := dT h;refine gY (aO [2, 0, 1, 3, 4, 5, 6] rfl rfl (le_refl _)) ?_;refine aYf rfl rfl (aE rfl) rfl t (dU (passed := [.box b5 0 [.j j.Rounds, .sl 1 (Z17 j), .lit (X2 3).v, .lit (.map (some (X2 4).b))], .arr (X2 3).v 3 1 (C.2.1.map aF), .map (X2 4).b (A.map fun p : aD × Int => ((fun a : aD => Value.agg ((aL a).map bS).toArray) p.1, (fun v : Int => AV.i v) p.2)) W Y]) (aE rfl) rfl (.func _ _ call175) rfl rfl (aAt j C.2.1 A o n.1.round d5)) ?_;rintro _ ⟨_, _, ⟨a6, a7, rfl, rfl⟩, rfl⟩;refine tk t (sn rfl) (to (spf (.b (!a5.1)) t) (aB ?_));refine tip h (fun d6 h => ?_) (fun d6 h => ?_)
          ·refine aC (aA (ta (cR bF (none : Option bJ)) (ta Z2 (aB ?_))));exact cD ⟨rfl, _, [], [.box b5 0 [.j j.Rounds, .sl 1 (Z17 j), .lit (X2 3).v, .lit (.map (some (X2 4).b))], .arr (X2 3).v 3 1 (C.2.1.map aF), .map (X2 4).b (a5.2.map fun p : aD × Int => ((fun a : aD => Value.agg ((aL a).map bS).toArray) p.1, (fun v : Int => AV.i v) p.2)) a6 a7, .map r7 (e.map fun p : aD × aG => ((fun a : aD => Value.agg ((aL a).map bS).toArray) p.1, (fun v : aG => AV.agg (aM v)) p.2)) B s, .iter Z r7 s (K ++ [a1]) s, .box O 0 (aL n.1), .box a2 0 (aM n.2)], _, .two (.tmp 4 (v := cR bF (none : Option bJ)) rfl) (.tmp 5 (v := .b false) rfl), .refl _, .same _, ((none : Option bJ), false), h, rfl, rfl⟩
          ·refine cA ?_;exact ⟨(a5.2, a6, a7, (K ++ [a1])), h, aO [1, 2, 0, 3, 4] rfl rfl (aK (ae rfl))⟩
      ·exact absurd b3 (by decide)

end Go.Am
