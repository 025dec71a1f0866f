/- The functions compute what the shallow ones say: printed by program. -/
import Derived.Test.YtoflekecpkjghaaGreatPgSh
import Derived.Test.YtoflekecpkjghaaGreatAmFam2
import Derived.Test.YtoflekecpkjghaaGreatAmRange
import Derived.Test.YtoflekecpkjghaaGreatAmSort
import Derived.Test.YtoflekecpkjghaaGreatPgShelf
import Derived.Test.YtoflekecpkjghaaGreatAmSub
import Derived.Test.YtoflekecpkjghaaGreatBkDet
import Derived.Test.YtoflekecpkjghaaGreatChecked
import Derived.Test.YtoflekecpkjghaaGreatAmShort
import Derived.KernelRfl
namespace Go.Am
open Go.Proofs
set_option maxRecDepth 100000
set_option maxHeartbeats 40000000

abbrev D.j (n : Int) : D := .lit (.int .i64 n)
abbrev D.k (b : Bool) : D := .lit (.bool b)
abbrev VI (n : Int) : Value := .int .i64 n
abbrev Z0 := min (1 : Int).toNat 64
abbrev Z1 (p0 : bA) : AV := .cp [.j p0.Tree.Rounds, .sl 1 (p0.Tree.Slots.map aL), .sl 1 (p0.players.map aL), .mp false (p0.won.map fun p : aG × Int => ((fun a : aG => Value.agg ((aQ a).map bT).toArray) p.1, aL p.2))]
abbrev Z2 := aS.mk ([] : List Int) ([] : List (List Int))
abbrev Z3 : AV := .b false
abbrev Z4 : List D := [.sl 1 ((([] : List Int)).map aL), .sl 1 ((([] : List (List Int))).map dE)]
abbrev Z5 := aT (aP.mk (aR.mk 2 ([1, 2, 3, 4])) ([(aE.mk 1 0 0 1 0)]) ([100, 300, 1001]) 40 ([(bR.mk 1 11 12), (bR.mk 2 21 22), (bR.mk 3 31 (-1)), (bR.mk 4 41 (-1))]) ([(fX.mk 11 250)]) ([(eO.mk 21 3 2), (eO.mk 22 1 3)]) ([(aI.mk 1 1 21 30), (aI.mk 2 2 11 2), (aI.mk 3 1 31 160)]))
abbrev Z6 (p0 : List aE) : D := .sl 5 (p0.map aJ)
abbrev Z7 (p0 : Nat) (p1 : Nat) (p2 : aR) (p3 : Value) (p4 : Nat) (p5 : List Int) (p6 : Nat) (p7 : List (aE × Int)) (p8 : List Nat) (p9 : Nat) : List MO := [.box p0 p1 [.j p2.Rounds, .sl 1 (p2.Slots.map aL), .lit p3, .lit (.map (some p4))], .arr p3 3 1 (p5.map aL), .map p6 (p7.map fun p : aE × Int => ((fun a : aE => Value.agg ((aJ a).map bT).toArray) p.1, (fun v : Int => AV.i v) p.2)) p8 p9]
abbrev Z8 (p0 : List Int) : D := .sl 1 (p0.map aL)
abbrev Z9 (p0 : aR) := p0.Slots.map aL
abbrev Z10 : AV := .b true
abbrev Z11 := aY.mk 0 0 0 0 0 0 0 0 0
abbrev Z12 (p0 : List (List Int)) : D := .sl 1 (p0.map dE)
abbrev Z13 := bX (cG.mk 0 0)
abbrev Z14 := (([] : List Int)).map aL
abbrev Z15 : List MO := [.arr (.slice none 0 0) 3 1 (([] : List Int).map aL)]
abbrev Z16 : List MO := [.arr (.slice none 0 0) 76 4 (([] : List aI).map aD)]
abbrev Z17 (p0 : aP) : D := .sl 1 (p0.Prizes.map aL)
abbrev Z18 (p0 : Nat) : D := .lit (.map (some p0))
abbrev Z19 (p0 : Value) : AV := .d (.lit p0)
abbrev Z20 (p0 : aR) := w64 (1 * 2 ^ (min p0.Rounds.toNat 64))
abbrev Z21 (p0 : bA) := p0.Tree.Slots.map aL
abbrev Z22 (p0 : Value) (p1 : List aI) : List MO := [.arr p0 76 4 (p1.map aD)]
abbrev Z23 (p0 : aP) := w64 (p0.Tree.Rounds - 1)
abbrev Z24 (p0 : Int) (p1 : Int) := p0.fdiv (2 ^ (min (w64 (p1 + 1)).toNat 64))
abbrev Z25 := [(bR.mk 1 11 12), (bR.mk 2 21 22), (bR.mk 3 31 (-1)), (bR.mk 4 41 (-1))]
abbrev Z26 := List Int
abbrev Z27 (p0 : List aE) : AV := .d (Z6 p0)
abbrev Z28 (p0 : aP) : D := .sl 2 (p0.Levies.map cX)
abbrev Z29 : D := .lit (.slice none 0 0)
abbrev Z30 (p0 : aR) (p1 : List aE) : List AV := [.agg (aZ p0), .d (Z6 p1)]
abbrev Z31 := [(aI.mk 1 1 21 30), (aI.mk 2 2 11 2), (aI.mk 3 1 31 160)]
abbrev Z32 (p0 : aP) : List AV := [.agg (aT p0)]
abbrev Z33 (p0 : Int) (p1 : Int) : AV := .b (decide (p0 ≤ p1))
abbrev Z34 (p0 : aP) : AV := .b (!decide ((p0.Prizes.length : Int) = (w64 (p0.Tree.Rounds + 1))))
abbrev Z35 := aE.mk 0 0 0 0 0
abbrev Z36 := (([] : List aE)).map aJ
abbrev Z37 := (([] : List bR)).map bK
abbrev Z38 := (([] : List fX)).map cX
abbrev Z39 := (([] : List eO)).map dO
abbrev Z40 := (([] : List aI)).map aD
abbrev Z41 (p0 : List Int) : AV := .d (Z8 p0)
abbrev Z42 (p0 : bA) := p0.players.map aL
theorem mix : Tryz.prog.follows .mixedOrders = true := Checked.mixed Tryz.checked

theorem eR : mA Tryz.prog 31 9 := ⟨Tryz.isAgg31, Tryz.sizeOf31⟩
theorem oL : cJ Tryz.prog 37 0 0 := cB Tryz.runUnderlying37 rfl rfl Tryz.sizeOf3
theorem aO : kM Tryz.prog 3 := ⟨Tryz.isAgg3, Tryz.sizeOf3⟩
theorem rG : cJ Tryz.prog 37 1 1 := cB Tryz.runUnderlying37 rfl rfl Tryz.sizeOf3
theorem yE : cJ Tryz.prog 42 1 1 := cB Tryz.runUnderlying42 rfl rfl Tryz.sizeOf3
theorem jN : cJ Tryz.prog 46 2 2 := cB Tryz.runUnderlying46 rfl rfl Tryz.sizeOf3
theorem oM : cJ Tryz.prog 46 1 1 := cB Tryz.runUnderlying46 rfl rfl Tryz.sizeOf3
theorem hZ : cJ Tryz.prog 31 0 0 := cB Tryz.runUnderlying31 rfl rfl Tryz.sizeOf24
theorem iT : mA Tryz.prog 24 2 := ⟨Tryz.isAgg24, Tryz.sizeOf24⟩
theorem nF : cJ Tryz.prog 31 1 2 := cB Tryz.runUnderlying31 rfl rfl Tryz.sizeOf25
theorem rT : kM Tryz.prog 25 := ⟨Tryz.isAgg25, Tryz.sizeOf25⟩
theorem sT : cJ Tryz.prog 46 0 0 := cB Tryz.runUnderlying46 rfl rfl Tryz.sizeOf3
theorem uB : mA Tryz.prog 46 3 := ⟨Tryz.isAgg46, Tryz.sizeOf46⟩
theorem iO : cJ Tryz.prog 31 2 3 := cB Tryz.runUnderlying31 rfl rfl Tryz.sizeOf22
theorem cD : kM Tryz.prog 22 := ⟨Tryz.isAgg22, Tryz.sizeOf22⟩
theorem bG : SliceTy Tryz.prog 22 3 1 8 (.int .i64 0) := ⟨Tryz.underlying22, ⟨Tryz.t3, by kernel_rfl, rfl, rfl, rfl⟩, rfl, by decide⟩
theorem eA : cJ Tryz.prog 24 1 1 := cB Tryz.runUnderlying24 rfl rfl Tryz.sizeOf22
theorem fO : SliceTy Tryz.prog 25 67 5 40 (.agg #[.int .i64 0, .int .i64 0, .int .i64 0, .int .i64 0, .int .i64 0]) := ⟨Tryz.underlying25, ⟨Tryz.t67, by kernel_rfl, rfl, rfl, rfl⟩, rfl, by decide⟩
theorem jX : cJ Tryz.prog 31 4 5 := cB Tryz.runUnderlying31 rfl rfl Tryz.sizeOf26
theorem oA : kM Tryz.prog 26 := ⟨Tryz.isAgg26, Tryz.sizeOf26⟩
theorem nP : SliceTy Tryz.prog 26 46 3 24 (.agg #[.int .i64 0, .int .i64 0, .int .i64 0]) := ⟨Tryz.underlying26, ⟨Tryz.t46, by kernel_rfl, rfl, rfl, rfl⟩, rfl, by decide⟩
theorem sS : cJ Tryz.prog 31 5 6 := cB Tryz.runUnderlying31 rfl rfl Tryz.sizeOf27
theorem xL : kM Tryz.prog 27 := ⟨Tryz.isAgg27, Tryz.sizeOf27⟩
theorem wA : SliceTy Tryz.prog 27 78 2 16 (.agg #[.int .i64 0, .int .i64 0]) := ⟨Tryz.underlying27, ⟨Tryz.t78, by kernel_rfl, rfl, rfl, rfl⟩, rfl, by decide⟩
theorem yD : cJ Tryz.prog 31 6 7 := cB Tryz.runUnderlying31 rfl rfl Tryz.sizeOf28
theorem aDj : kM Tryz.prog 28 := ⟨Tryz.isAgg28, Tryz.sizeOf28⟩
theorem aAg : SliceTy Tryz.prog 28 80 3 24 (.agg #[.int .i64 0, .int .i64 0, .int .i64 0]) := ⟨Tryz.underlying28, ⟨Tryz.t80, by kernel_rfl, rfl, rfl, rfl⟩, rfl, by decide⟩
theorem pW : cJ Tryz.prog 31 7 8 := cB Tryz.runUnderlying31 rfl rfl Tryz.sizeOf29
theorem uV : kM Tryz.prog 29 := ⟨Tryz.isAgg29, Tryz.sizeOf29⟩
theorem dA : SliceTy Tryz.prog 29 76 4 32 (.agg #[.int .i64 0, .int .i64 0, .int .i64 0, .int .i64 0]) := ⟨Tryz.underlying29, ⟨Tryz.t76, by kernel_rfl, rfl, rfl, rfl⟩, rfl, by decide⟩
theorem hY : cJ Tryz.prog 24 0 0 := cB Tryz.runUnderlying24 rfl rfl Tryz.sizeOf3
theorem aJv : cJ Tryz.prog 31 3 4 := cB Tryz.runUnderlying31 rfl rfl Tryz.sizeOf3
theorem mB : mA Tryz.prog 67 5 := ⟨Tryz.isAgg67, Tryz.sizeOf67⟩
theorem nG : cJ Tryz.prog 67 3 3 := cB Tryz.runUnderlying67 rfl rfl Tryz.sizeOf3
theorem mF : cJ Tryz.prog 67 0 0 := cB Tryz.runUnderlying67 rfl rfl Tryz.sizeOf3
theorem oN : cJ Tryz.prog 67 1 1 := cB Tryz.runUnderlying67 rfl rfl Tryz.sizeOf3
theorem kG : cJ Tryz.prog 67 2 2 := cB Tryz.runUnderlying67 rfl rfl Tryz.sizeOf3
theorem yH : cJ Tryz.prog 67 4 4 := cB Tryz.runUnderlying67 rfl rfl Tryz.sizeOf3
theorem aDp : nB Tryz.prog 126 (.agg #[.slice none 0 0, .slice none 0 0]) [(0, 1), (1, 1)] := ⟨Tryz.zeroValue126, _, Tryz.runUnderlying126, fun w => by simp [Tryz.sizeOf22, Tryz.sizeOf32]⟩
theorem wT : cJ Tryz.prog 126 1 1 := cB Tryz.runUnderlying126 rfl rfl Tryz.sizeOf32
theorem aHm : kM Tryz.prog 32 := ⟨Tryz.isAgg32, Tryz.sizeOf32⟩
theorem tY : SliceTy Tryz.prog 32 22 1 24 (.slice none 0 0) := ⟨Tryz.underlying32, ⟨Tryz.t22, by kernel_rfl, rfl, rfl, rfl⟩, rfl, by decide⟩
theorem aAl : mA Tryz.prog 126 2 := ⟨Tryz.isAgg126, Tryz.sizeOf126⟩
theorem aOx : aJl Tryz.prog 67 aJ := by
  rintro ⟨a0, a1, a2, a3, a4⟩ ⟨b0, b1, b2, b3, b4⟩ w
  simp [aJ, bT, go_sem, Op.eqFields, Program.fieldsOf] <;> (repeat' split) <;> simp_all
theorem yJ : cJ Tryz.prog 78 0 0 := cB Tryz.runUnderlying78 rfl rfl Tryz.sizeOf3
theorem aJw : cJ Tryz.prog 78 1 1 := cB Tryz.runUnderlying78 rfl rfl Tryz.sizeOf3
theorem aKm : mA Tryz.prog 80 3 := ⟨Tryz.isAgg80, Tryz.sizeOf80⟩
theorem yK : cJ Tryz.prog 80 0 0 := cB Tryz.runUnderlying80 rfl rfl Tryz.sizeOf3
theorem aEe : cJ Tryz.prog 80 1 1 := cB Tryz.runUnderlying80 rfl rfl Tryz.sizeOf3
theorem aJx : cJ Tryz.prog 80 2 2 := cB Tryz.runUnderlying80 rfl rfl Tryz.sizeOf3
theorem aIf : nB Tryz.prog 46 (.agg #[.int .i64 0, .int .i64 0, .int .i64 0]) [(0, 1), (1, 1), (2, 1)] := ⟨Tryz.zeroValue46, _, Tryz.runUnderlying46, fun w => by simp [Tryz.sizeOf3]⟩
theorem gO : mA Tryz.prog 76 4 := ⟨Tryz.isAgg76, Tryz.sizeOf76⟩
theorem nH : cJ Tryz.prog 76 0 0 := cB Tryz.runUnderlying76 rfl rfl Tryz.sizeOf3
theorem aEd : cJ Tryz.prog 76 2 2 := cB Tryz.runUnderlying76 rfl rfl Tryz.sizeOf3
theorem uP : cJ Tryz.prog 76 1 1 := cB Tryz.runUnderlying76 rfl rfl Tryz.sizeOf3
theorem yI : cJ Tryz.prog 76 3 3 := cB Tryz.runUnderlying76 rfl rfl Tryz.sizeOf3
theorem aKx : aJl Tryz.prog 76 aD := by
  rintro ⟨a0, a1, a2, a3⟩ ⟨b0, b1, b2, b3⟩ w
  simp [aD, bT, go_sem, Op.eqFields, Program.fieldsOf] <;> (repeat' split) <;> simp_all
theorem xB : mA Tryz.prog 42 9 := ⟨Tryz.isAgg42, Tryz.sizeOf42⟩
theorem aIe : nB Tryz.prog 42 (.agg #[.int .i64 0, .int .i64 0, .int .i64 0, .int .i64 0, .int .i64 0, .int .i64 0, .int .i64 0, .int .i64 0, .int .i64 0]) [(0, 1), (1, 1), (2, 1), (3, 1), (4, 1), (5, 1), (6, 1), (7, 1), (8, 1)] := ⟨Tryz.zeroValue42, _, Tryz.runUnderlying42, fun w => by simp [Tryz.sizeOf3]⟩
theorem bAa : aJl Tryz.prog 42 bJ := by
  rintro ⟨a0, a1, a2, a3, a4, a5, a6, a7, a8⟩ ⟨b0, b1, b2, b3, b4, b5, b6, b7, b8⟩ w
  simp [bJ, bT, go_sem, Op.eqFields, Program.fieldsOf] <;> (repeat' split) <;> simp_all
theorem aBc : cJ Tryz.prog 42 5 5 := cB Tryz.runUnderlying42 rfl rfl Tryz.sizeOf3
theorem bAs : nB Tryz.prog 24 (.agg #[.int .i64 0, .slice none 0 0]) [(0, 1), (1, 1)] := ⟨Tryz.zeroValue24, _, Tryz.runUnderlying24, fun w => by simp [Tryz.sizeOf22, Tryz.sizeOf3]⟩
theorem aVv : nB Tryz.prog 67 (.agg #[.int .i64 0, .int .i64 0, .int .i64 0, .int .i64 0, .int .i64 0]) [(0, 1), (1, 1), (2, 1), (3, 1), (4, 1)] := ⟨Tryz.zeroValue67, _, Tryz.runUnderlying67, fun w => by simp [Tryz.sizeOf3]⟩
theorem bAu : nB Tryz.prog 78 (.agg #[.int .i64 0, .int .i64 0]) [(0, 1), (1, 1)] := ⟨Tryz.zeroValue78, _, Tryz.runUnderlying78, fun w => by simp [Tryz.sizeOf3]⟩
theorem aVw : nB Tryz.prog 80 (.agg #[.int .i64 0, .int .i64 0, .int .i64 0]) [(0, 1), (1, 1), (2, 1)] := ⟨Tryz.zeroValue80, _, Tryz.runUnderlying80, fun w => by simp [Tryz.sizeOf3]⟩
theorem aQg : nB Tryz.prog 76 (.agg #[.int .i64 0, .int .i64 0, .int .i64 0, .int .i64 0]) [(0, 1), (1, 1), (2, 1), (3, 1)] := ⟨Tryz.zeroValue76, _, Tryz.runUnderlying76, fun w => by simp [Tryz.sizeOf3]⟩
theorem bAt : nB Tryz.prog 31 (.agg #[.int .i64 0, .slice none 0 0, .slice none 0 0, .slice none 0 0, .int .i64 0, .slice none 0 0, .slice none 0 0, .slice none 0 0, .slice none 0 0]) [(0, 2), (2, 1), (3, 1), (4, 1), (5, 1), (6, 1), (7, 1), (8, 1)] := ⟨Tryz.zeroValue31, _, Tryz.runUnderlying31, fun w => by simp [Tryz.sizeOf22, Tryz.sizeOf24, Tryz.sizeOf25, Tryz.sizeOf26, Tryz.sizeOf27, Tryz.sizeOf28, Tryz.sizeOf29, Tryz.sizeOf3]⟩
theorem aTe : vF Tryz.prog 3 VI := aUs Tryz.underlying3
theorem aMp : nB Tryz.prog 155 (.agg #[.int .i64 0, .int .i64 0]) [(0, 1), (1, 1)] := ⟨Tryz.zeroValue155, _, Tryz.runUnderlying155, fun w => by simp [Tryz.sizeOf3]⟩
theorem wP : mA Tryz.prog 155 2 := ⟨Tryz.isAgg155, Tryz.sizeOf155⟩
theorem uO : cJ Tryz.prog 155 0 0 := cB Tryz.runUnderlying155 rfl rfl Tryz.sizeOf3
theorem aUp : cJ Tryz.prog 155 1 1 := cB Tryz.runUnderlying155 rfl rfl Tryz.sizeOf3
theorem aZk : nB Tryz.prog 153 (.agg #[.int .i64 0, .slice none 0 0, .slice none 0 0, .map none]) [(0, 2), (2, 1), (3, 1)] := ⟨Tryz.zeroValue153, _, Tryz.runUnderlying153, fun w => by simp [Tryz.sizeOf151, Tryz.sizeOf22, Tryz.sizeOf24]⟩
theorem aZt (b : Bool) (a : aE) (w : World) : (Instr.checkKey b 10000 67 (.agg ((aJ a).map bT).toArray)).run Tryz.prog w = .ok () w := by
  obtain ⟨a1, a2, a3, a4, a5⟩ := a;rw [show (10000 : Nat) = 9990 + 10 from rfl]
  generalize (9990 : Nat) = m
  simp [Instr.checkKey, aJ, bT, go_sem, Std.Legacy.Range.forIn_eq_forIn_range', Std.Legacy.Range.size]
theorem aPg : vF Tryz.prog 67 (fun a : aE => Value.agg ((aJ a).map bT).toArray) :=
  aGx Tryz.underlying67 aOx aZt (fun a w => aPe _ rfl _ _) (by
    rintro ⟨a1, a2, a3, a4, a5⟩ ⟨b1, b2, b3, b4, b5⟩ h
    simp [aJ] at h ⊢
    simp_all) (fun _ => rfl)
theorem aMh : aJl Tryz.prog 155 aQ := by
  rintro ⟨a0, a1⟩ ⟨b0, b1⟩ w
  simp [aQ, bT, go_sem, Op.eqFields, Program.fieldsOf] <;> (repeat' split) <;> simp_all
theorem aYp (b : Bool) (a : aG) (w : World) : (Instr.checkKey b 10000 155 (.agg ((aQ a).map bT).toArray)).run Tryz.prog w = .ok () w := by
  obtain ⟨a1, a2⟩ := a;rw [show (10000 : Nat) = 9990 + 10 from rfl]
  generalize (9990 : Nat) = m
  simp [Instr.checkKey, aQ, bT, go_sem, Std.Legacy.Range.forIn_eq_forIn_range', Std.Legacy.Range.size]
theorem aAn : vF Tryz.prog 155 (fun a : aG => Value.agg ((aQ a).map bT).toArray) :=
  aGx Tryz.underlying155 aMh aYp (fun a w => aPe _ rfl _ _) (by
    rintro ⟨a1, a2⟩ ⟨b1, b2⟩ h
    simp [aQ] at h ⊢
    simp_all) (fun _ => rfl)
theorem pI : cJ Tryz.prog 153 1 2 := cB Tryz.runUnderlying153 rfl rfl Tryz.sizeOf22
theorem zA : cJ Tryz.prog 153 0 0 := cB Tryz.runUnderlying153 rfl rfl Tryz.sizeOf24
theorem aBy : cJ Tryz.prog 153 2 3 := cB Tryz.runUnderlying153 rfl rfl Tryz.sizeOf151
theorem aIk : kM Tryz.prog 151 := ⟨Tryz.isAgg151, Tryz.sizeOf151⟩
theorem aOn : mA Tryz.prog 78 2 := ⟨Tryz.isAgg78, Tryz.sizeOf78⟩
theorem zI : nB Tryz.prog 37 (.agg #[.int .i64 0, .int .i64 0]) [(0, 1), (1, 1)] := ⟨Tryz.zeroValue37, _, Tryz.runUnderlying37, fun w => by simp [Tryz.sizeOf3]⟩
theorem vO : mA Tryz.prog 37 2 := ⟨Tryz.isAgg37, Tryz.sizeOf37⟩
theorem aBb : cJ Tryz.prog 42 2 2 := cB Tryz.runUnderlying42 rfl rfl Tryz.sizeOf3
theorem yF : cJ Tryz.prog 42 3 3 := cB Tryz.runUnderlying42 rfl rfl Tryz.sizeOf3
theorem yG : cJ Tryz.prog 42 4 4 := cB Tryz.runUnderlying42 rfl rfl Tryz.sizeOf3
theorem aBd : cJ Tryz.prog 42 6 6 := cB Tryz.runUnderlying42 rfl rfl Tryz.sizeOf3
theorem aBe : cJ Tryz.prog 42 7 7 := cB Tryz.runUnderlying42 rfl rfl Tryz.sizeOf3
theorem aEc : cJ Tryz.prog 42 8 8 := cB Tryz.runUnderlying42 rfl rfl Tryz.sizeOf3
theorem aOd : SliceTy Tryz.prog 59 42 9 72 (.agg #[.int .i64 0, .int .i64 0, .int .i64 0, .int .i64 0, .int .i64 0, .int .i64 0, .int .i64 0, .int .i64 0, .int .i64 0]) := ⟨Tryz.underlying59, ⟨Tryz.t42, by kernel_rfl, rfl, rfl, rfl⟩, rfl, by decide⟩

theorem aJt (a : aP) {r : Bool} (h : nD a = some r) : Fn Tryz.prog 21 (Z32 a) (.b r) := by
 unfold nD at h;refine oT [.tmp 2] Tryz.func21 Tryz.results21 Tryz.ntmps21 ?_;refine aC (aA ?_);refine bB rfl (eB (v := .agg (aT a)) (aF rfl) rfl rfl rfl) ?_;rintro _ ⟨b1, rfl⟩;refine ta Z3 (aB (aC (aA (to (sf rfl hZ) (tfl 0 rfl rfl eA rfl cD (to (sle rfl bG.of) (to (scm rfl rfl rfl) (tm (.b (decide (8 < (a.Tree.Slots.length : Int)))) ?_))))))));obtain ⟨b2, h3, h⟩ := bns h;refine aW 5 [1] 13 b2 ?_ ?_
 ·refine bch h3 (fun c h3 => ?_) (fun c h3 => ?_)
  ·refine tp c (tp c (tp c (tp c (to (spt Z10 c) ?_))));obtain rfl := sIn h3;refine aB (aK rfl ⟨rfl, trivial⟩ rfl)
  ·refine tkl 0 c rfl rfl nF rfl rT (tk c (sle rfl fO.of) (tk c (scm rfl rfl rfl) (to (spf (.b (decide (20 < (a.Slips.length : Int)))) c) ?_)));obtain rfl := sIn h3;refine aB (aK rfl ⟨rfl, trivial⟩ rfl)
 ·refine tm (.b b2) ?_;obtain ⟨b4, h5, h⟩ := bns h;refine aW 5 [1] 19 b4 ?_ ?_
  ·refine bch h5 (fun d h5 => ?_) (fun d h5 => ?_)
   ·refine tp d (tp d (tp d (tp d (to (spt Z10 d) ?_))));obtain rfl := sIn h5;refine aB (aK rfl ⟨rfl, trivial⟩ rfl)
   ·refine tkl 0 d rfl rfl iO rfl cD (tk d (sle rfl bG.of) (tk d (scm rfl rfl rfl) (to (spf (.b (decide (20 < (a.Prizes.length : Int)))) d) ?_)));obtain rfl := sIn h5;refine aB (aK rfl ⟨rfl, trivial⟩ rfl)
  ·refine tm (.b b4) ?_;obtain ⟨b6, h7, h⟩ := bns h;refine aW 5 [1] 25 b6 ?_ ?_
   ·refine bch h7 (fun e h7 => ?_) (fun e h7 => ?_)
    ·refine tp e (tp e (tp e (tp e (to (spt Z10 e) ?_))));obtain rfl := sIn h7;refine aB (aK rfl ⟨rfl, trivial⟩ rfl)
    ·refine tkl 0 e rfl rfl jX rfl oA (tk e (sle rfl nP.of) (tk e (scm rfl rfl rfl) (to (spf (.b (decide (40 < (a.Teams.length : Int)))) e) ?_)));obtain rfl := sIn h7;refine aB (aK rfl ⟨rfl, trivial⟩ rfl)
   ·refine tm (.b b6) ?_;obtain ⟨b8, h9, h⟩ := bns h;refine aW 5 [1] 31 b8 ?_ ?_
    ·refine bch h9 (fun f h9 => ?_) (fun f h9 => ?_)
     ·refine tp f (tp f (tp f (tp f (to (spt Z10 f) ?_))));obtain rfl := sIn h9;refine aB (aK rfl ⟨rfl, trivial⟩ rfl)
     ·refine tkl 0 f rfl rfl sS rfl xL (tk f (sle rfl wA.of) (tk f (scm rfl rfl rfl) (to (spf (.b (decide (40 < (a.Levies.length : Int)))) f) ?_)));obtain rfl := sIn h9;refine aB (aK rfl ⟨rfl, trivial⟩ rfl)
    ·refine tm (.b b8) ?_;obtain ⟨m, j, h⟩ := bns h;refine aW 5 [1] 37 m ?_ ?_
     ·refine bch j (fun g j => ?_) (fun g j => ?_)
      ·refine tp g (tp g (tp g (tp g (to (spt Z10 g) ?_))));obtain rfl := sIn j;refine aB (aK rfl ⟨rfl, trivial⟩ rfl)
      ·refine tkl 0 g rfl rfl yD rfl aDj (tk g (sle rfl aAg.of) (tk g (scm rfl rfl rfl) (to (spf (.b (decide (40 < (a.Rates.length : Int)))) g) ?_)));obtain rfl := sIn j;refine aB (aK rfl ⟨rfl, trivial⟩ rfl)
     ·refine tm (.b m) ?_;obtain ⟨n, k, h⟩ := bns h;refine aW 5 [] 43 n ?_ ?_
      ·refine bch k (fun i k => ?_) (fun i k => ?_)
       ·refine tp i (tp i (tp i (tp i (to (spt Z10 i) ?_))));obtain rfl := sIn k;refine aB (aK rfl trivial rfl)
       ·refine tkl 0 i rfl rfl pW rfl uV (tk i (sle rfl dA.of) (tk i (scm rfl rfl rfl) (to (spf (.b (decide (60 < (a.Items.length : Int)))) i) ?_)));obtain rfl := sIn k;refine aB (aK rfl trivial rfl)
      ·refine ta (.b n) (aB ?_);obtain rfl := sIn h;refine bL (bC (bE (l := [2]) ⟨rfl, trivial⟩)) ?_;exact rt

theorem iH (d : Int) (c : Int) (a : Int) {r : Bool} (h : eP d c a = some r) : Fn Tryz.prog 109 [.i d, .i c, .i a] (.b r) := by
 unfold eP at h;refine oT [.tmp 6] Tryz.func109 Tryz.results109 Tryz.ntmps109 ?_;refine aC (aA (ta Z3 (aB (aC (aA (tm (.i d) (tm (.i c) (to (scm rfl rfl rfl) (tm (Z33 c d) ?_)))))))));obtain ⟨b1, h2, h⟩ := bns h;refine aW 4 [] 14 b1 ?_ ?_
 ·refine bch h2 (fun c3 h2 => ?_) (fun c3 h2 => ?_)
  ·refine tk c3 (sm (.i d)) (tk c3 (sm (.i a)) (tk c3 (scm rfl rfl rfl) (to (spt (Z33 d a) c3) ?_)));obtain rfl := sIn h2;refine aB (aK rfl trivial rfl)
  ·refine tp c3 (tp c3 (tp c3 (to (spf Z3 c3) ?_)));obtain rfl := sIn h2;refine aB (aK rfl trivial rfl)
 ·refine ta (.b b1) (aB ?_);obtain rfl := sIn h;exact rt

theorem aFx (j : aR) {r : Bool} (h : mM j = some r) : Fn Tryz.prog 83 [.agg (aZ j)] (.b r) := by
 unfold mM at h;refine oT [.tmp 2] Tryz.func83 Tryz.results83 Tryz.ntmps83 ?_;refine aC (aA ?_);refine bB rfl (eB (v := .agg (aZ j)) (aF rfl) rfl rfl rfl) ?_;rintro _ ⟨b1, rfl⟩;refine ta Z3 (aB (aC (aC (aA (tfl 0 rfl rfl hY rfl aO ?_)))));obtain ⟨r2, h3, h⟩ := bns h;refine to (scr Tryz.call109 (iH _ _ _ h3)) (to (sn rfl) (tm (.b (!r2)) ?_));obtain ⟨b4, h5, h⟩ := bns h;refine aW 9 [1] 18 b4 ?_ ?_
 ·refine bch h5 (fun e h5 => ?_) (fun e h5 => ?_)
  ·refine tp e (tp e (tp e (tp e (tp e (tp e (tp e (tp e (to (spt Z10 e) ?_))))))));obtain rfl := sIn h5;refine aB (aK rfl ⟨rfl, trivial⟩ rfl)
  ·refine tkl 0 e rfl rfl eA rfl cD (tk e (sle rfl bG.of) (tkl 0 e rfl rfl hY rfl aO (tk e (qN (aF rfl) rfl Tryz.runUnderlying3 Tryz.runUnderlying113) ?_)));obtain ⟨T, C, h5⟩ := bns h5;refine tk e (aOc (aF rfl) rfl rfl (aBz C)) ?_;refine tk e (scm rfl rfl rfl) (to (spf (.b (!decide ((j.Slots.length : Int) = (w64 (1 * 2 ^ (min (uw j.Rounds).toNat 64)))))) e) ?_);obtain rfl := sIn h5;refine aB (aK rfl ⟨rfl, trivial⟩ rfl)
 ·refine aB ?_;refine tih h (fun c6 h => ?_) (fun c6 h => ?_)
  ·refine aC (aA (ta Z3 (aB ?_)));obtain rfl := sIn h;refine bL (bC (bE (l := [2]) ⟨rfl, trivial⟩)) ?_;exact rt
  ·refine aU (aC (aC (aA (ta (.i 0) (aB (aX ?_))))));refine bP (S := Int) [1] (fun s7 => [(3, .i s7)]) (fun s7 => [.box b1 0 (aZ j)]) (fun k s7 => gS j k s7) (fun _ => rfl) (0) h (aN [0] rfl rfl (aH rfl (aM ⟨rfl, trivial⟩))) ?_;rintro k8 a h;simp only [gS] at h;refine aC (aC (aA (tm (.i a) (tfl 0 rfl rfl eA rfl cD (to (sle rfl bG.of) (to (scm rfl rfl rfl) (aB ?_)))))));refine tih h (fun c9 h => ?_) (fun c9 h => ?_)
   ·refine aU (aC (aX (aC (aC (aA (tfl 0 rfl rfl eA rfl cD (tm (.i a) ?_)))))));obtain ⟨U, E, h⟩ := bns h;refine to (six rfl rfl bG.of (aV aL E)) (to (slc rfl aO) ?_);obtain ⟨F, G, h⟩ := bns h;refine to (scr Tryz.call109 (iH _ _ _ G)) (to (sn rfl) (tm (.b (!F)) ?_));obtain ⟨H, q, h⟩ := bns h;refine aW 21 [1, 3] 54 H ?_ ?_
    ·refine bch q (fun c q => ?_) (fun c q => ?_)
     ·refine tp c (tp c (tp c (tp c (tq (tq (tq (tq (tq (tq (tp c (tp c (tq (tq ?_)))))))))))));refine tq (tq (tq (tq (tq (tp c (to (spt Z10 c) ?_))))));obtain rfl := sIn q;refine aB (aK rfl ⟨rfl, rfl, trivial⟩ rfl)
     ·refine tk c (sm (.i a)) (tk c (bBi (aF rfl) rfl rfl (by decide)) ?_);refine tk c (scm rfl rfl rfl) (tk c (sm (.b (decide ((a.tmod 2) = 1)))) ?_);obtain ⟨y, s, q⟩ := bns q;refine aW 7 [1, 3, 33, 34, 35, 36, 37] 44 y ?_ ?_
      ·refine bch s (fun n s => ?_) (fun n s => ?_)
       ·refine tkl 0 n rfl rfl eA rfl cD (tk n (sm (.i a)) ?_);obtain ⟨I, J, s⟩ := bns s;refine tk n (six rfl rfl bG.of (aV aL J)) (tk n (slc rfl aO) (tk n (scm rfl rfl rfl) (tk c (spt (.b (decide (I = (-1)))) n) ?_)));obtain rfl := sIn s;refine aB (aK rfl ⟨rfl, rfl, rfl, rfl, rfl, rfl, rfl, trivial⟩ rfl)
       ·refine tp n (tp n (tp n (tp n (tp n (tp n (tk c (spf Z3 n) ?_))))));obtain rfl := sIn s;refine aB (aK rfl ⟨rfl, rfl, rfl, rfl, rfl, rfl, rfl, trivial⟩ rfl)
      ·refine tk c (sm (.b y)) ?_;obtain ⟨z, t, q⟩ := bns q;refine aW 8 [1, 3, 33, 34, 35, 36, 37, 44, 45] 53 z ?_ ?_
       ·refine bch t (fun g t => ?_) (fun g t => ?_)
        ·refine tkl 0 g rfl rfl eA rfl cD (tk g (sm (.i a)) (tk g (sar rfl rfl rfl) ?_));obtain ⟨K, L, t⟩ := bns t;refine tk g (six rfl rfl bG.of (aV aL L)) (tk g (slc rfl aO) (tk g (scm rfl rfl rfl) (tk c (spt (.b (decide (K = (-1)))) g) ?_)));obtain rfl := sIn t;refine aB (aK rfl ⟨rfl, rfl, rfl, rfl, rfl, rfl, rfl, rfl, rfl, trivial⟩ rfl)
        ·refine tp g (tp g (tp g (tp g (tp g (tp g (tp g (tk c (spf Z3 g) ?_)))))));obtain rfl := sIn t;refine aB (aK rfl ⟨rfl, rfl, rfl, rfl, rfl, rfl, rfl, rfl, rfl, trivial⟩ rfl)
       ·refine to (spf (.b z) c) ?_;obtain rfl := sIn q;refine aB (aK rfl ⟨rfl, rfl, trivial⟩ rfl)
    ·refine aB ?_;refine tih h (fun M h => ?_) (fun M h => ?_)
     ·refine aC (aA (ta Z3 (aB ?_)));obtain rfl := sIn h;refine bL (bC (bE (l := [2]) ⟨rfl, trivial⟩)) ?_;exact rt
     ·refine aU (aC (aA (ta (.i 0) (aB ?_))));refine tN ?_;refine bP (S := Int) [1, 3] (fun x => [(4, .i x)]) (fun x => [.box b1 0 (aZ j)]) (fun k x => gT (gS j k8) a j k x) (fun _ => rfl) (0) h (aN [0] rfl rfl (aH rfl (aM ⟨rfl, rfl, trivial⟩))) ?_;rintro V f h;simp only [gT] at h;refine aC (aC (aA (tm (.i f) (tm (.i a) (to (scm rfl rfl rfl) (aB ?_))))));refine tih h (fun N h => ?_) (fun N h => ?_)
      ·refine aU (aC (aX (aC ?_)));obtain ⟨o, A, h⟩ := bns h;obtain ⟨p, B, h⟩ := bns h;obtain ⟨O, u, h⟩ := bns h;refine cN mix 19 [1, 3, 4] [(78, .b O)] ?_ ?_
       ·refine bch u (fun m u => ?_) (fun m u => ?_)
        ·obtain ⟨w, P, u⟩ := bns u;obtain rfl := sIn u;refine ⟨[(60, 0, .bp b1 0 1), (61, 1, .d (.sl 1 (Z9 j))), (62, 2, .i f), (63, 3, .cp [.j o]), (64, 4, .i o), (65, 5, .bp b1 0 1), (66, 6, .d (.sl 1 (Z9 j))), (67, 7, .i a), (68, 8, .cp [.j p]), (69, 9, .i p), (70, 10, .b (decide (o = p))), (71, 11, .b (decide (o = p))), (72, 12, .bp b1 0 1), (73, 13, .d (.sl 1 (Z9 j))), (74, 14, .i a), (75, 15, .cp [.j w]), (76, 16, .i w), (77, 17, .b (!decide (w = (-1)))), (78, 18, .b (!decide (w = (-1))))], ?_, ?_⟩
         · exact dk [0, 1, 0, 203, 4, 0, 6, 0, 708, 9, 510, 11, 12, 1213, 12, 121415, 1216, 1217, 1218] ⟨go (zf rfl eA),
      go (zl 0 rfl rfl rfl cD),
      go (zm (.i f)),
      go (zix rfl rfl bG.of (aV aL A)),
      go (zlc rfl aO),
      go (zf rfl eA),
      go (zl 0 rfl rfl rfl cD),
      go (zm (.i a)),
      go (zix rfl rfl bG.of (aV aL B)),
      go (zlc rfl aO),
      go (zcm rfl rfl rfl),
      go (zm (.b (decide (o = p)))),
      gt m (zf rfl eA),
      gt m (zl 0 rfl rfl rfl cD),
      gt m (zm (.i a)),
      gt m (zix rfl rfl bG.of (aV aL P)),
      gt m (zlc rfl aO),
      gt m (zcm rfl rfl rfl),
      go (zpt (.b (!decide (w = (-1)))) m), trivial⟩
         · exact cC (aH rfl (aM ⟨rfl, rfl, rfl, trivial⟩))
        ·obtain rfl := sIn u;refine ⟨[(60, 0, .bp b1 0 1), (61, 1, .d (.sl 1 (Z9 j))), (62, 2, .i f), (63, 3, .cp [.j o]), (64, 4, .i o), (65, 5, .bp b1 0 1), (66, 6, .d (.sl 1 (Z9 j))), (67, 7, .i a), (68, 8, .cp [.j p]), (69, 9, .i p), (70, 10, .b (decide (o = p))), (71, 11, .b (decide (o = p))), (72, 12, .tup []), (73, 13, .tup []), (74, 14, .tup []), (75, 15, .tup []), (76, 16, .tup []), (77, 17, .tup []), (78, 18, .b false)], ?_, ?_⟩
         · exact dk [0, 1, 0, 203, 4, 0, 6, 0, 708, 9, 510, 11, 12, 1213, 12, 121415, 1216, 1217, 1218] ⟨go (zf rfl eA),
      go (zl 0 rfl rfl rfl cD),
      go (zm (.i f)),
      go (zix rfl rfl bG.of (aV aL A)),
      go (zlc rfl aO),
      go (zf rfl eA),
      go (zl 0 rfl rfl rfl cD),
      go (zm (.i a)),
      go (zix rfl rfl bG.of (aV aL B)),
      go (zlc rfl aO),
      go (zcm rfl rfl rfl),
      go (zm (.b (decide (o = p)))),
      gp m,
      gp m,
      gp m,
      gp m,
      gp m,
      gp m,
      go (zpf Z3 m), trivial⟩
         · exact cC (aH rfl (aM ⟨rfl, rfl, rfl, trivial⟩))
       ·refine aB ?_;refine tih h (fun Q h => ?_) (fun Q h => ?_)
        ·refine aC (aA (ta Z3 (aB ?_)));obtain rfl := sIn h;refine bL (bC (bE (l := [2]) ⟨rfl, trivial⟩)) ?_;exact rt
        ·refine cL ?_;refine aA (tm (.i f) (to (sar rfl rfl rfl) (ta (.i (w64 (f + 1))) (aB ?_))));exact ⟨(w64 (f + 1)), h, aN [0] rfl rfl (aH rfl (aM ⟨rfl, rfl, trivial⟩))⟩
      ·refine bQ ?_;refine .inl ⟨rfl, ?_⟩;simp only [sP] at h;simp only [sO] at h;refine aA (tm (.i a) (to (sar rfl rfl rfl) (ta (.i (w64 (a + 1))) (aB ?_))));exact ⟨(w64 (a + 1)), h, aN [0] rfl rfl (aH rfl (aM ⟨rfl, trivial⟩))⟩
   ·refine bQ ?_;refine .inl ⟨rfl, ?_⟩;simp only [sN] at h;refine aC (aA (ta Z10 (aB ?_)));obtain rfl := sIn h;refine bL (bC (bE (l := [2]) ⟨rfl, trivial⟩)) ?_;exact rt

theorem qB (b : aR) (a : Int) {r : Int} (h : jI b a = some r) : Fn Tryz.prog 44 [.agg (aZ b), .i a] (.i r) := by
 unfold jI at h;refine oT [.tmp 4] Tryz.func44 Tryz.results44 Tryz.ntmps44 ?_;refine aC (aA ?_);refine bB rfl (eB (v := .agg (aZ b)) (aF rfl) rfl rfl rfl) ?_;rintro _ ⟨b1, rfl⟩;refine ta (.i 0) (aB (aC (aA (tfl 0 rfl rfl hY rfl aO (to (sar rfl rfl rfl) (tm (.i a) (to (sar rfl rfl rfl) (to (qN (aF rfl) rfl Tryz.runUnderlying3 Tryz.runUnderlying113) ?_))))))));obtain ⟨u2, h3, h⟩ := bns h;refine to (aOc (aF rfl) rfl rfl (aBz h3)) ?_;refine ta (.i (w64 (1 * 2 ^ (min (uw (w64 ((w64 (b.Rounds - 1)) - a))).toNat 64)))) (aB ?_);obtain rfl := sIn h;refine bL (bC (bE (l := [4]) ⟨rfl, trivial⟩)) ?_;exact rt

theorem aDz (d : aR) (a : Int) (c : Int) {r : Bool} (h : nT d a c = some r) : Fn Tryz.prog 110 [.agg (aZ d), .i a, .i c] (.b r) := by
 unfold nT at h;refine oT [.tmp 6] Tryz.func110 Tryz.results110 Tryz.ntmps110 ?_;refine aC (aA ?_);refine bB rfl (eB (v := .agg (aZ d)) (aF rfl) rfl rfl rfl) ?_;rintro _ ⟨b1, rfl⟩;refine ta Z3 (aB (aC (aA (tm (.i a) (tfl 0 rfl rfl hY rfl aO (to (sar rfl rfl rfl) ?_))))));obtain ⟨r2, h3, h⟩ := bns h;refine to (scr Tryz.call109 (iH _ _ _ h3)) (tm (.b r2) ?_);obtain ⟨b4, h5, h⟩ := bns h;refine aW 7 [] 19 b4 ?_ ?_
 ·refine bch h5 (fun c6 h5 => ?_) (fun c6 h5 => ?_)
  ·refine tk c6 (sm (.i c)) (tk c6 (sla 0 (aZ d) rfl rfl iT) (tk c6 (sm (.i a)) ?_));obtain ⟨r7, h8, h5⟩ := bns h5;refine tk c6 (scr Tryz.call44 (qB _ _ h8)) (tk c6 (sar rfl rfl rfl) ?_);obtain ⟨r9, e, h5⟩ := bns h5;refine tk c6 (scr Tryz.call109 (iH _ _ _ e)) (to (spt (.b r9) c6) ?_);obtain rfl := sIn h5;refine aB (aK rfl trivial rfl)
  ·refine tp c6 (tp c6 (tp c6 (tp c6 (tp c6 (tp c6 (to (spf Z3 c6) ?_))))));obtain rfl := sIn h5;refine aB (aK rfl trivial rfl)
 ·refine ta (.b b4) (aB ?_);obtain rfl := sIn h;refine bL (bC (bE (l := [6]) ⟨rfl, trivial⟩)) ?_;exact rt

theorem aFy (p : aR) (n : aE) {r : Bool} (h : oW p n = some r) : Fn Tryz.prog 84 [.agg (aZ p), .agg (aJ n)] (.b r) := by
 unfold oW at h;refine oT [.tmp 4] Tryz.func84 Tryz.results84 Tryz.ntmps84 ?_;refine aC (aA ?_);refine bB rfl (eB (v := .agg (aZ p)) (aF rfl) rfl rfl rfl) ?_;rintro _ ⟨b1, rfl⟩;refine bB rfl (eB (v := .agg (aJ n)) (aF rfl) rfl rfl rfl) ?_;rintro _ ⟨b2, rfl⟩;refine ta Z3 (aB (aC (aC (aA (tfl 1 rfl rfl nG rfl aO ?_)))));obtain ⟨r3, h4, h⟩ := bns h;refine to (scr Tryz.call109 (iH _ _ _ h4)) (to (sn rfl) (aB ?_));refine tih h (fun c5 h => ?_) (fun c5 h => ?_)
 ·refine aC (aA (ta Z3 (aB ?_)));obtain rfl := sIn h;refine bL (bC (bE (l := [4]) ⟨rfl, trivial⟩)) ?_;exact rt
 ·refine aU (aC (aC (aA (tfl 1 rfl rfl mF rfl aO (to (scm rfl rfl rfl) (aB ?_))))));refine tih h (fun c6 h => ?_) (fun c6 h => ?_)
  ·refine aC (aA (tfl 1 rfl rfl oN rfl aO (to (scm rfl rfl rfl) (tm (.b (decide (n.Round = 0))) ?_))));obtain ⟨b7, h8, h⟩ := bns h;refine aW 8 [3] 23 b7 ?_ ?_
   ·refine bch h8 (fun d h8 => ?_) (fun d h8 => ?_)
    ·refine tkl 1 d rfl rfl kG rfl aO (tkl 0 d rfl rfl eA rfl cD (tk d (sle rfl bG.of) (tk d (sar rfl rfl rfl) ?_)));obtain ⟨u, w, h8⟩ := bns h8;refine tk d (scr Tryz.call109 (iH _ _ _ w)) (to (spt (.b u) d) ?_);obtain rfl := sIn h8;refine aB (aK rfl ⟨rfl, trivial⟩ rfl)
    ·refine tp d (tp d (tp d (tp d (tp d (tp d (tp d (to (spf Z3 d) ?_)))))));obtain rfl := sIn h8;refine aB (aK rfl ⟨rfl, trivial⟩ rfl)
   ·refine tm (.b b7) ?_;obtain ⟨b9, j, h⟩ := bns h;refine aW 4 [] 28 b9 ?_ ?_
    ·refine bch j (fun g j => ?_) (fun g j => ?_)
     ·refine tkl 1 g rfl rfl yH rfl aO ?_;obtain ⟨x, y, j⟩ := bns j;refine tk g (scr Tryz.call109 (iH _ _ _ y)) (to (spt (.b x) g) ?_);obtain rfl := sIn j;refine aB (aK rfl trivial rfl)
     ·refine tp g (tp g (tp g (to (spf Z3 g) ?_)));obtain rfl := sIn j;refine aB (aK rfl trivial rfl)
    ·refine ta (.b b9) (aB ?_);obtain rfl := sIn h;refine bL (bC (bE (l := [4]) ⟨rfl, trivial⟩)) ?_;exact rt
  ·refine aU (aC (aC (aA (tfl 1 rfl rfl mF rfl aO ?_))));obtain ⟨z, A, h⟩ := bns h;refine to (scr Tryz.call109 (iH _ _ _ A)) (to (sn rfl) (tm (.b (!z)) ?_));obtain ⟨q, k, h⟩ := bns h;refine aW 8 [2, 3] 41 q ?_ ?_
   ·refine bch k (fun e k => ?_) (fun e k => ?_)
    ·refine tp e (tp e (tp e (tp e (tp e (tp e (tp e (to (spt Z10 e) ?_)))))));obtain rfl := sIn k;refine aB (aK rfl ⟨rfl, rfl, trivial⟩ rfl)
    ·refine tk e (sla 0 (aZ p) rfl rfl iT) (tkl 1 e rfl rfl oN rfl aO (tkl 1 e rfl rfl kG rfl aO ?_));obtain ⟨B, C, k⟩ := bns k;refine tk e (scr Tryz.call110 (aDz _ _ _ C)) (tk e (sn rfl) (to (spf (.b (!B)) e) ?_));obtain rfl := sIn k;refine aB (aK rfl ⟨rfl, rfl, trivial⟩ rfl)
   ·refine tm (.b q) ?_;obtain ⟨E, o, h⟩ := bns h;refine aW 4 [2, 3] 46 E ?_ ?_
    ·refine bch o (fun i o => ?_) (fun i o => ?_)
     ·refine tp i (tp i (tp i (to (spt Z10 i) ?_)));obtain rfl := sIn o;refine aB (aK rfl ⟨rfl, rfl, trivial⟩ rfl)
     ·refine tkl 1 i rfl rfl yH rfl aO (tk i (scm rfl rfl rfl) (to (spf (.b (!decide (n.Old = 0))) i) ?_));obtain rfl := sIn o;refine aB (aK rfl ⟨rfl, rfl, trivial⟩ rfl)
    ·refine aB ?_;refine tih h (fun F h => ?_) (fun F h => ?_)
     ·refine aC (aA (ta Z3 (aB ?_)));obtain rfl := sIn h;refine bL (bC (bE (l := [4]) ⟨rfl, trivial⟩)) ?_;exact rt
     ·refine aU (aC (aA (tfl 1 rfl rfl oN rfl aO (to (scm rfl rfl rfl) (tm (.b (decide (0 < n.Round))) ?_)))));obtain ⟨s, f, h⟩ := bns h;refine aW 20 [] 70 s ?_ ?_
      ·refine bch f (fun a f => ?_) (fun a f => ?_)
       ·refine tp a (tp a (tp a (tp a (tp a (tp a (tp a (tp a (tp a (tq (tq (tq (tq (tq ?_)))))))))))));refine tq (tq (tq (tq (tp a (to (spt Z10 a) ?_)))));obtain rfl := sIn f;refine aB (aK rfl trivial rfl)
       ·refine tkl 0 a rfl rfl eA rfl cD (tkl 1 a rfl rfl kG rfl aO (tk a (sar rfl rfl rfl) ?_));obtain ⟨G, H, f⟩ := bns f;refine tk a (six rfl rfl bG.of (aV aL H)) (tk a (slc rfl aO) (tk a (scm rfl rfl rfl) (tk a (sm (.b (!decide (G = (-1))))) ?_)));obtain ⟨t, m, f⟩ := bns f;refine aW 10 [50] 69 t ?_ ?_
        ·refine bch m (fun c m => ?_) (fun c m => ?_)
         ·refine tkl 0 c rfl rfl eA rfl cD (tkl 1 c rfl rfl kG rfl aO (tk c (sar rfl rfl rfl) (tk c (sar rfl rfl rfl) ?_)));obtain ⟨I, J, m⟩ := bns m;refine tk c (six rfl rfl bG.of (aV aL J)) (tk c (slc rfl aO) (tk c (scm rfl rfl rfl) (tk a (spt (.b (!decide (I = (-1)))) c) ?_)));obtain rfl := sIn m;refine aB (aK rfl ⟨rfl, trivial⟩ rfl)
         ·refine tp c (tp c (tp c (tp c (tp c (tp c (tp c (tp c (tp c (tk a (spf Z3 c) ?_)))))))));obtain rfl := sIn m;refine aB (aK rfl ⟨rfl, trivial⟩ rfl)
        ·refine to (spf (.b t) a) ?_;obtain rfl := sIn f;refine aB (aK rfl trivial rfl)
      ·refine ta (.b s) (aB ?_);obtain rfl := sIn h;refine bL (bC (bE (l := [4]) ⟨rfl, trivial⟩)) ?_;exact rt

theorem zQ (p : List aE) {r : (List aE)} (h : oF p = some r) : Fn Tryz.prog 42 [.d (Z6 p)] (.d (.sl 5 (r.map aJ))) := by
 unfold oF at h;refine oT [.tmp 2] Tryz.func42 Tryz.results42 Tryz.ntmps42 ?_;refine aC (aA (to (aCi 5 (aF rfl)) ?_));refine aB (aC (aA (to (iK 67 5 (.inl rfl) (aF rfl)) ?_)));refine aB (aC (aC (aA (ta (.i 0) (aB (aX ?_))))));refine bP (S := Int × (List aE) × Value) [0] (fun s2 => [(3, .d (.lit s2.2.2)), (4, .i s2.1)]) (fun s2 => [.arr s2.2.2 67 5 (s2.2.1.map aJ)]) (fun k s2 => eT p k s2.1 s2.2.1) (fun _ => rfl) (0, ([] : List aE), (.slice none 0 0)) h (aN [0] rfl rfl (aH rfl (aH rfl (aM ⟨rfl, trivial⟩)))) ?_;rintro k4 ⟨g, o, w3⟩ h;simp only [eT] at h;refine aC (aC (aA (tm (.i g) (tm (Z27 p) (to (sle rfl fO.of) (to (scm rfl rfl rfl) (aB ?_)))))));refine tih h (fun c5 h => ?_) (fun c5 h => ?_)
 ·refine aU (aC (aX (aC (aA (ta Z3 (aB (aC (aC (aA (ta (.i 0) (aB (aX ?_))))))))))));refine bP (S := Bool × Int) [0, 3, 4] (fun s6 => [(5, .b s6.1), (6, .i s6.2)]) (fun s6 => [.arr w3 67 5 (o.map aJ)]) (fun k s6 => iX (eT p k4) p g o k s6.1 s6.2) (fun _ => rfl) (false, 0) h (aN [0] rfl rfl (aH rfl (aH rfl (aM ⟨rfl, rfl, rfl, trivial⟩)))) ?_;rintro k7 ⟨c, j⟩ h;simp only [iX] at h;refine aC (aC (aA (tm (.i j) (tm (.d (.lit w3)) (to (kB (m := 0) (aF rfl) rfl rfl fO.of) ?_)))));refine to (scm rfl rfl rfl) (aB ?_);refine tih h (fun c8 h => ?_) (fun c8 h => ?_)
  ·refine aU (aC (aX ?_));obtain ⟨b9, q, h⟩ := bns h;refine cN mix 12 [0, 3, 4, 6] [(30, .b b9)] ?_ ?_
   ·refine bch q (fun e q => ?_) (fun e q => ?_)
    ·obtain rfl := sIn q;refine ⟨[(19, 0, .b c), (20, 1, .b c), (21, 2, .tup []), (22, 3, .tup []), (23, 4, .tup []), (24, 5, .tup []), (25, 6, .tup []), (26, 7, .tup []), (27, 8, .tup []), (28, 9, .tup []), (29, 10, .tup []), (30, 11, .b true)], ?_, ?_⟩
     · exact dk [0, 1, 2, 2, 20304, 205, 2, 2, 20708, 209, 20610, 211] ⟨go (zm (.b c)),
      go (zm (.b c)),
      gp e,
      gp e,
      gp e,
      gp e,
      gp e,
      gp e,
      gp e,
      gp e,
      gp e,
      go (zpt Z10 e), trivial⟩
     · exact cC (aH rfl (aM ⟨rfl, rfl, rfl, rfl, trivial⟩))
    ·obtain ⟨s, t, q⟩ := bns q;obtain ⟨n, x, q⟩ := bns q;obtain rfl := sIn q;refine ⟨[(19, 0, .b c), (20, 1, .b c), (21, 2, .d (.lit w3)), (22, 3, .i j), (23, 4, .ep w3 5 j.toNat 0), (24, 5, .agg (aJ s)), (25, 6, .d (Z6 p)), (26, 7, .i g), (27, 8, .cp [.j n.Kind, .j n.Round, .j n.Place, .j n.Player, .j n.Old]), (28, 9, .agg (aJ n)), (29, 10, .b (decide (s = n))), (30, 11, .b (decide (s = n)))], ?_, ?_⟩
     · exact dk [0, 1, 2, 2, 20304, 205, 2, 2, 20708, 209, 20610, 211] ⟨go (zm (.b c)),
      go (zm (.b c)),
      gt e (zm (.d (.lit w3))),
      gt e (zm (.i j)),
      gt e (zia 0 rfl rfl rfl fO.of (aV aJ t)),
      gt e fun S hS => dX (aF rfl) (bF hS rfl) (l := 0) rfl (dM aJ t) mB (es := (aJ s)) rfl rfl,
      gt e (zm (Z27 p)),
      gt e (zm (.i g)),
      gt e (zix rfl rfl fO.of (aV aJ x)),
      gt e (aYb (aJ n) rfl mB),
      gt e fun S hS => aTo (a := s) (b := n) (aF rfl) (bF hS rfl) (bF hS rfl) rfl rfl Tryz.eqGuardType67 aOx,
      go (zpf (.b (decide (s = n))) e), trivial⟩
     · exact cC (aH rfl (aM ⟨rfl, rfl, rfl, rfl, trivial⟩))
   ·refine ta (.b b9) ?_;refine cM ?_;refine aA (tm (.i j) (to (sar rfl rfl rfl) (ta (.i (w64 (j + 1))) (aB ?_))));exact ⟨(b9, w64 (j + 1)), h, aN [0] rfl rfl (aH rfl (aH rfl (aM ⟨rfl, rfl, rfl, trivial⟩)))⟩
  ·refine bQ ?_;refine .inl ⟨rfl, ?_⟩;simp only [nV] at h;refine aC (aA (tm (.b c) (to (sn rfl) (aB ?_))));refine tih h (fun y h => ?_) (fun y h => ?_)
   ·refine aA (tm (.d (.lit w3)) (tm (Z27 p) (tm (.i g) ?_)));obtain ⟨u, z, h⟩ := bns h;refine to (six rfl rfl fO.of (aV aJ z)) (to (qF (aJ u) rfl mB) (to (fL (aF rfl) fO rfl rfl (rows := ([u]).map aJ) rfl (cV (f := aJ) fun _ => rfl) rfl (by decide)) ?_));obtain ⟨A, B, h⟩ := bns h;refine bB rfl (gM (i := 0) (aF rfl) fO rfl rfl rfl (fun _ => rfl) B rfl) ?_;rintro _ ⟨w, rfl⟩;refine ta (.d (.lit w)) ?_;refine cM ?_;simp only [lR] at h;refine aA (tm (.i g) (to (sar rfl rfl rfl) (ta (.i (w64 (g + 1))) (aB ?_))));exact ⟨(w64 (g + 1), A, w), h, aN [0] rfl rfl (aH rfl (aH rfl (aM ⟨rfl, trivial⟩)))⟩
   ·refine cL ?_;simp only [lR] at h;refine aA (tm (.i g) (to (sar rfl rfl rfl) (ta (.i (w64 (g + 1))) (aB ?_))));exact ⟨(w64 (g + 1), o, w3), h, aN [0] rfl rfl (aH rfl (aH rfl (aM ⟨rfl, trivial⟩)))⟩
 ·refine bQ ?_;refine .inl ⟨rfl, ?_⟩;simp only [uM] at h;refine aC (aA (tm (.d (.lit w3)) (ta (.d (.lit w3)) (aB ?_))));obtain rfl := sIn h;refine bL (bC (wQ (k := 2) (v := .d (.sl 5 (o.map aJ))) (.d (nX 0 rfl (cV (f := aJ) fun _ => rfl))) (aCy))) ?_;exact rt

theorem aKw (c : List Int) (e : Int) {r : Bool} (h : tC c e = some r) : Fn Tryz.prog 43 [.d (Z8 c), .i e] (.b r) := by
 unfold tC at h;refine oT [.tmp 4] Tryz.func43 Tryz.results43 Tryz.ntmps43 ?_;refine aC (aA (ta Z3 (aB (aC (aC (aA (ta (.i 0) (aB (aX ?_)))))))));refine bP (S := Int) [0, 1] (fun s1 => [(5, .i s1)]) (fun s1 => []) (fun k s1 => lE c e k s1) (fun _ => rfl) (0) h (aN [] rfl rfl (aH rfl (aM ⟨rfl, rfl, trivial⟩))) ?_;rintro k2 a h;simp only [lE] at h;refine aC (aC (aA (tm (.i a) (tm (Z41 c) (to (sle rfl bG.of) (to (scm rfl rfl rfl) (aB ?_)))))));refine tih h (fun c3 h => ?_) (fun c3 h => ?_)
 ·refine aU (aC (aX (aC (aA (tm (Z41 c) (tm (.i a) ?_))))));obtain ⟨x4, h5, h⟩ := bns h;refine to (six rfl rfl bG.of (aV aL h5)) (to (slc rfl aO) (tm (.i e) (to (scm rfl rfl rfl) (aB ?_))));refine tih h (fun c6 h => ?_) (fun c6 h => ?_)
  ·refine aC (aA (ta Z10 (aB ?_)));obtain rfl := sIn h;exact rt
  ·refine cL ?_;refine aA (tm (.i a) (to (sar rfl rfl rfl) (ta (.i (w64 (a + 1))) (aB ?_))));exact ⟨(w64 (a + 1)), h, aN [] rfl rfl (aH rfl (aM ⟨rfl, rfl, trivial⟩))⟩
 ·refine bQ ?_;refine .inl ⟨rfl, ?_⟩;simp only [wE] at h;refine aC (aA (ta Z3 (aB ?_)));obtain rfl := sIn h;exact rt

theorem sR (t : aR) (N : List aE) {r : (List Int) × Bool} (h : gU t N = some r) : Fn Tryz.prog 16 (Z30 t N) (.tup [.d (.sl 1 (r.1.map aL)), .b r.2]) := by
 unfold gU at h;refine oT [.tmp 4, .tmp 5] Tryz.func16 Tryz.results16 Tryz.ntmps16 ?_;refine aC (aA ?_);refine bB rfl (eB (v := .agg (aZ t)) (aF rfl) rfl rfl rfl) ?_;rintro _ ⟨b1, rfl⟩;refine to (aCi 1 (aF rfl)) ?_;refine ta Z3 (aB (aC (aA (tm (Z27 N) ?_))));obtain ⟨r2, h3, h⟩ := bns h;refine to (eY (aF rfl) (.func _ _ Tryz.call42) rfl rfl (zQ _ h3)) ?_;refine ta (.d (.sl 5 (r2.map aJ))) (aB (aC (aA ?_)));refine bB rfl (aHw (aF rfl) bG rfl rfl (rows := (([] : List Int)).map aL) rfl (cV (f := aL) fun _ => rfl) rfl (by decide)) ?_;rintro _ ⟨v4, rfl⟩;refine tfl 0 rfl rfl eA rfl cD ?_;obtain ⟨x5, h6, h⟩ := bns h;refine bB rfl (gM (i := 1) (aF rfl) bG rfl rfl rfl (fun _ => rfl) h6 rfl) ?_;rintro _ ⟨v7, rfl⟩;refine ta (.d (.lit v7)) (aB (aC (aA (to (iK 3 1 (.inl rfl) (aF rfl)) ?_))));refine aB (aC (aA (ta (.i 0) (aB (aC (aC (aA (ta (.i 0) (aB (aX ?_))))))))));refine bP (S := Int × Int × Z26 × Z26 × Value × Value) [2, 6] (fun s9 => [(7, .d (.lit s9.2.2.2.2.2)), (8, .d (.lit s9.2.2.2.2.1)), (9, .i s9.1), (10, .i s9.2.1)]) (fun s9 => [.box b1 0 (aZ t), .arr s9.2.2.2.2.1 3 1 (s9.2.2.1.map aL), .arr s9.2.2.2.2.2 3 1 (s9.2.2.2.1.map aL)]) (fun k s9 => eH r2 t k s9.1 s9.2.1 s9.2.2.1 s9.2.2.2.1) (fun _ => rfl) (0, 0, ([] : List Int), x5, (.slice none 0 0), v7) h (aN [0, 2, 1] rfl rfl (aH rfl (aH rfl (aH rfl (aH rfl (aM ⟨rfl, rfl, trivial⟩)))))) ?_;rintro O ⟨B, n, e, M, H, a3⟩ h;simp only [eH] at h;refine aC (aC (aA (tm (.i n) (tfl 0 rfl rfl eA rfl cD (to (sle rfl bG.of) (to (scm rfl rfl rfl) (aB ?_)))))));refine tih h (fun a4 h => ?_) (fun a4 h => ?_)
 ·refine aU (aC (aX (aC (aA (tfl 0 rfl rfl eA rfl cD (tm (.i n) ?_))))));obtain ⟨P, a5, h⟩ := bns h;refine to (six rfl rfl bG.of (aV aL a5)) (to (slc rfl aO) (ta (.i P) (aB (aC (aC (aA (ta Z10 (aB (aX ?_)))))))));refine bP (S := Int × Int × Bool × Z26 × Value) [2, 6, 8, 10] (fun y => [(7, .d (.lit y.2.2.2.2)), (9, .i y.1), (11, .i y.2.1), (12, .b y.2.2.1)]) (fun y => [.box b1 0 (aZ t), .arr H 3 1 (e.map aL), .arr y.2.2.2.2 3 1 (y.2.2.2.1.map aL)]) (fun k y => gK (eH r2 t O) r2 n t e k y.1 y.2.1 y.2.2.1 y.2.2.2.1) (fun _ => rfl) (B, P, true, M, a3) h (aN [0, 1, 2] rfl rfl (aH rfl (aH rfl (aH rfl (aH rfl (aM ⟨rfl, rfl, rfl, rfl, trivial⟩)))))) ?_;rintro a6 ⟨g, j, J, w, K⟩ h;simp only [gK] at h;refine aC (aC (aA (tm (.b J) (aB ?_))));refine tih h (fun a7 h => ?_) (fun a7 h => ?_)
  ·refine aU (aX (aC (aA (ta Z3 (aB (aC (aA (to (iK 3 1 (.inl rfl) (aF rfl)) ?_))))))));refine aB (aC (aC (aA (ta (.i 0) (aB (aX ?_))))));refine bP (S := Int × Z26 × Value) [2, 6, 7, 8, 9, 10, 11, 12] (fun A => [(13, .d (.lit A.2.2)), (14, .i A.1)]) (fun A => [.box b1 0 (aZ t), .arr H 3 1 (e.map aL), .arr A.2.2 3 1 (A.2.1.map aL), .arr K 3 1 (w.map aL)]) (fun k A => fG (eH r2 t O) (gK (eH r2 t O) r2 n t e a6) r2 g n j false t e w k A.1 A.2.1) (fun _ => rfl) (0, ([] : List Int), (.slice none 0 0)) h (aN [0, 1, 3, 2] rfl rfl (aH rfl (aH rfl (aM ⟨rfl, rfl, rfl, rfl, rfl, rfl, rfl, rfl, trivial⟩)))) ?_;rintro d1 ⟨a, x, C⟩ h;simp only [fG] at h;refine aC (aC (aA (tm (.i a) (tm (.d (.sl 5 (r2.map aJ))) (to (sle rfl fO.of) (to (scm rfl rfl rfl) (aB ?_)))))));refine tih h (fun a8 h => ?_) (fun a8 h => ?_)
   ·refine aU (aC (aX (aC (aA (tm (.d (.sl 5 (r2.map aJ))) (tm (.i a) ?_))))));obtain ⟨Q, a9, h⟩ := bns h;refine to (six rfl rfl fO.of (aV aJ a9)) (to (sfc [.j Q.Kind] rfl mF) (to (slc rfl aO) (to (scm rfl rfl rfl) (tm (.b (decide (Q.Kind = 5))) ?_))));obtain ⟨T, E, h⟩ := bns h;refine aW 8 [2, 6, 7, 8, 9, 10, 11, 12, 13, 14] 55 T ?_ ?_
    ·refine bch E (fun o E => ?_) (fun o E => ?_)
     ·refine tk o (sm (.d (.sl 5 (r2.map aJ)))) (tk o (sm (.i a)) ?_);obtain ⟨U, b0, E⟩ := bns E;refine tk o (six rfl rfl fO.of (aV aJ b0)) (tk o (sfc [.j U.Place] rfl kG) (tk o (slc rfl aO) (tk o (sm (.i n)) (tk o (scm rfl rfl rfl) (to (spt (.b (decide (U.Place = n))) o) ?_)))));obtain rfl := sIn E;refine aB (aK rfl ⟨rfl, rfl, rfl, rfl, rfl, rfl, rfl, rfl, rfl, rfl, trivial⟩ rfl)
     ·refine tp o (tp o (tp o (tp o (tp o (tp o (tp o (to (spf Z3 o) ?_)))))));obtain rfl := sIn E;refine aB (aK rfl ⟨rfl, rfl, rfl, rfl, rfl, rfl, rfl, rfl, rfl, rfl, trivial⟩ rfl)
    ·refine tm (.b T) ?_;obtain ⟨b2, F, h⟩ := bns h;refine aW 8 [2, 6, 7, 8, 9, 10, 11, 12, 13, 14] 64 b2 ?_ ?_
     ·refine bch F (fun p F => ?_) (fun p F => ?_)
      ·refine tk p (sm (.d (.sl 5 (r2.map aJ)))) (tk p (sm (.i a)) ?_);obtain ⟨V, b3, F⟩ := bns F;refine tk p (six rfl rfl fO.of (aV aJ b3)) (tk p (sfc [.j V.Old] rfl yH) (tk p (slc rfl aO) (tk p (sm (.i j)) (tk p (scm rfl rfl rfl) (to (spt (.b (decide (V.Old = j))) p) ?_)))));obtain rfl := sIn F;refine aB (aK rfl ⟨rfl, rfl, rfl, rfl, rfl, rfl, rfl, rfl, rfl, rfl, trivial⟩ rfl)
      ·refine tp p (tp p (tp p (tp p (tp p (tp p (tp p (to (spf Z3 p) ?_)))))));obtain rfl := sIn F;refine aB (aK rfl ⟨rfl, rfl, rfl, rfl, rfl, rfl, rfl, rfl, rfl, rfl, trivial⟩ rfl)
     ·refine aB ?_;refine tih h (fun b4 h => ?_) (fun b4 h => ?_)
      ·refine aA (tm (.d (.lit C)) (tm (.d (.sl 5 (r2.map aJ))) (tm (.i a) ?_)));obtain ⟨W, b5, h⟩ := bns h;refine to (six rfl rfl fO.of (aV aJ b5)) (to (sfc [.j W.Player] rfl nG) (to (slc rfl aO) (to (fL (aF rfl) bG rfl rfl (rows := ([W.Player]).map aL) rfl (cV (f := aL) fun _ => rfl) rfl (by decide)) ?_)));obtain ⟨b6, b7, h⟩ := bns h;refine bB rfl (gM (i := 2) (aF rfl) bG rfl rfl rfl (fun _ => rfl) b7 rfl) ?_;rintro _ ⟨X, rfl⟩;refine ta (.d (.lit X)) ?_;refine cM ?_;refine aA (tm (.i a) (to (sar rfl rfl rfl) (ta (.i (w64 (a + 1))) (aB ?_))));exact ⟨(w64 (a + 1), b6, X), h, aN [0, 1, 2, 3] rfl rfl (aH rfl (aH rfl (aM ⟨rfl, rfl, rfl, rfl, rfl, rfl, rfl, rfl, trivial⟩)))⟩
      ·refine cL ?_;refine aA (tm (.i a) (to (sar rfl rfl rfl) (ta (.i (w64 (a + 1))) (aB ?_))));exact ⟨(w64 (a + 1), x, C), h, aN [0, 1, 2, 3] rfl rfl (aH rfl (aH rfl (aM ⟨rfl, rfl, rfl, rfl, rfl, rfl, rfl, rfl, trivial⟩)))⟩
   ·refine bQ ?_;refine .inl ⟨rfl, ?_⟩;simp only [lN] at h;refine aC (aC (aA (tm (.d (.lit C)) (to (kB (m := 2) (aF rfl) rfl rfl bG.of) ?_))));refine to (scm rfl rfl rfl) (tm (.b (decide (1 < (x.length : Int)))) ?_);obtain ⟨b8, G, h⟩ := bns h;refine aW 11 [2, 6, 7, 8, 9, 10, 11, 12, 13] 87 b8 ?_ ?_
    ·refine bch G (fun s G => ?_) (fun s G => ?_)
     ·refine tp s (tp s (tp s (tp s (tq (tq (tq (tq (tq (tp s (to (spt Z10 s) ?_))))))))));obtain rfl := sIn G;refine aB (aK rfl ⟨rfl, rfl, rfl, rfl, rfl, rfl, rfl, rfl, rfl, trivial⟩ rfl)
     ·refine tk s (sm (.d (.lit C))) (tk s (kB (m := 2) (aF rfl) rfl rfl bG.of) ?_);refine tk s (scm rfl rfl rfl) (tk s (sm (.b (decide ((x.length : Int) = 1)))) ?_);obtain ⟨Y, z, G⟩ := bns G;refine aW 6 [2, 6, 7, 8, 9, 10, 11, 12, 13, 76, 77, 78, 79, 80] 86 Y ?_ ?_
      ·refine bch z (fun u z => ?_) (fun u z => ?_)
       ·refine tk u (sm (.d (.lit K))) (tk u (sm (.d (.lit C))) ?_);obtain ⟨d2, Z, z⟩ := bns z;refine tk u (iB (m := 2) (aF rfl) rfl rfl rfl bG.of (aV aL Z)) ?_;refine tk u (iY (aF rfl) rfl (m := 2) rfl (dM aL Z) rfl aO) ?_;obtain ⟨b9, c0, z⟩ := bns z;refine tk u (sc Tryz.call43 (aKw _ _ c0) (.cons (.d (nX 3 rfl (cV (f := aL) fun _ => rfl))) (.cons (.same _) .nil))) (tk s (spt (.b b9) u) ?_);obtain rfl := sIn z;refine aB (aK rfl ⟨rfl, rfl, rfl, rfl, rfl, rfl, rfl, rfl, rfl, rfl, rfl, rfl, rfl, rfl, trivial⟩ rfl)
       ·refine tp u (tp u (tp u (tp u (tp u (tk s (spf Z3 u) ?_)))));obtain rfl := sIn z;refine aB (aK rfl ⟨rfl, rfl, rfl, rfl, rfl, rfl, rfl, rfl, rfl, rfl, rfl, rfl, rfl, rfl, trivial⟩ rfl)
      ·refine to (spf (.b Y) s) ?_;obtain rfl := sIn G;refine aB (aK rfl ⟨rfl, rfl, rfl, rfl, rfl, rfl, rfl, rfl, rfl, trivial⟩ rfl)
    ·refine aB ?_;refine tih h (fun c1 h => ?_) (fun c1 h => ?_)
     ·refine aC (aA (to (aCi 1 (aF rfl)) ?_));refine ta Z3 (aB ?_);obtain rfl := sIn h;refine bL (bC (bE (l := [4, 5]) ⟨rfl, rfl, trivial⟩)) ?_;exact cI ⟨rfl, _, .two _ _, rfl, rfl⟩
     ·refine aU (aC (aA (tm (.d (.lit C)) (to (kB (m := 2) (aF rfl) rfl rfl bG.of) ?_))));refine to (scm rfl rfl rfl) (aB ?_);refine tih h (fun c2 h => ?_) (fun c2 h => ?_)
      ·refine aC (aA (tm (.d (.lit C)) ?_));obtain ⟨L, a0, h⟩ := bns h;refine to (iB (m := 2) (aF rfl) rfl rfl rfl bG.of (aV aL a0)) ?_;refine to (iY (aF rfl) rfl (m := 2) rfl (dM aL a0) rfl aO) ?_;refine ta (.i L) (aB (aC (aA (tm (.d (.lit K)) (tm (.i L) (to (fL (aF rfl) bG rfl rfl (rows := ([L]).map aL) rfl (cV (f := aL) fun _ => rfl) rfl (by decide)) ?_))))));obtain ⟨c3, c4, h⟩ := bns h;refine bB rfl (gM (i := 3) (aF rfl) bG rfl rfl rfl (fun _ => rfl) c4 rfl) ?_;rintro _ ⟨a1, rfl⟩;refine ta (.d (.lit a1)) (aB (aC (aA (tm (.i g) (to (sar rfl rfl rfl) (ta (.i (w64 (g + 1))) (aB (aA (ta Z10 ?_)))))))));refine cM ?_;simp only [jR] at h;exact ⟨(w64 (g + 1), L, true, c3, a1), h, aN [0, 1, 3] rfl rfl (aH rfl (aH rfl (aH rfl (aH rfl (aM ⟨rfl, rfl, rfl, rfl, trivial⟩)))))⟩
      ·refine cL ?_;simp only [jR] at h;exact ⟨(g, j, false, w, K), h, aN [0, 1, 3] rfl rfl (aH rfl (aH rfl (aH rfl (aH rfl (aM ⟨rfl, rfl, rfl, rfl, trivial⟩)))))⟩
  ·refine bQ ?_;refine .inl ⟨rfl, ?_⟩;simp only [oE] at h;refine aA (tm (.d (.lit H)) (tm (.i j) (to (fL (aF rfl) bG rfl rfl (rows := ([j]).map aL) rfl (cV (f := aL) fun _ => rfl) rfl (by decide)) ?_)));obtain ⟨c5, c6, h⟩ := bns h;refine bB rfl (gM (i := 1) (aF rfl) bG rfl rfl rfl (fun _ => rfl) c6 rfl) ?_;rintro _ ⟨a2, rfl⟩;refine ta (.d (.lit a2)) ?_;refine cM ?_;simp only [rP] at h;refine aA (tm (.i n) (to (sar rfl rfl rfl) (ta (.i (w64 (n + 1))) (aB ?_))));exact ⟨(g, w64 (n + 1), c5, w, a2, K), h, aN [0, 1, 2] rfl rfl (aH rfl (aH rfl (aH rfl (aH rfl (aM ⟨rfl, rfl, trivial⟩)))))⟩
 ·refine bQ ?_;refine .inl ⟨rfl, ?_⟩;simp only [rO] at h;refine aC (aC (aA (ta (.i 0) (aB (aX ?_)))));refine bP (S := Int × Int) [6, 8] (fun I => [(9, .i I.1), (15, .i I.2)]) (fun I => [.arr H 3 1 (e.map aL)]) (fun k I => fH r2 e k I.1 I.2) (fun _ => rfl) (B, 0) h (aN [1] rfl rfl (aH rfl (aH rfl (aM ⟨rfl, rfl, trivial⟩)))) ?_;rintro d3 ⟨c, q⟩ h;simp only [fH] at h;refine aC (aC (aA (tm (.i q) (tm (.d (.sl 5 (r2.map aJ))) (to (sle rfl fO.of) (to (scm rfl rfl rfl) (aB ?_)))))));refine tih h (fun c7 h => ?_) (fun c7 h => ?_)
  ·refine aU (aC (aX (aC (aA (tm (.d (.sl 5 (r2.map aJ))) (tm (.i q) ?_))))));obtain ⟨c8, c9, h⟩ := bns h;refine to (six rfl rfl fO.of (aV aJ c9)) (to (sfc [.j c8.Kind] rfl mF) (to (slc rfl aO) (to (scm rfl rfl rfl) (aB ?_))));refine tih h (fun d0 h => ?_) (fun d0 h => ?_)
   ·refine aA (tm (.i c) (to (sar rfl rfl rfl) (ta (.i (w64 (c - 1))) ?_)));refine cM ?_;refine aA (tm (.i q) (to (sar rfl rfl rfl) (ta (.i (w64 (q + 1))) (aB ?_))));exact ⟨(w64 (c - 1), w64 (q + 1)), h, aN [0] rfl rfl (aH rfl (aH rfl (aM ⟨rfl, rfl, trivial⟩)))⟩
   ·refine cL ?_;refine aA (tm (.i q) (to (sar rfl rfl rfl) (ta (.i (w64 (q + 1))) (aB ?_))));exact ⟨(c, w64 (q + 1)), h, aN [0] rfl rfl (aH rfl (aH rfl (aM ⟨rfl, rfl, trivial⟩)))⟩
  ·refine bQ ?_;refine .inl ⟨rfl, ?_⟩;simp only [rQ] at h;refine aC (aA (tm (.d (.lit H)) (tm (.i c) (to (scm rfl rfl rfl) (ta (.d (.lit H)) (ta (.b (decide (c = 0))) (aB ?_)))))));obtain rfl := sIn h;refine bL (bC (wQ (k := 5) (v := .b (decide (c = 0))) (.same _) (wQ (k := 4) (v := .d (.sl 1 (e.map aL))) (.d (nX 0 rfl (cV (f := aL) fun _ => rfl))) (aCy)))) ?_;exact cI ⟨rfl, _, .two _ _, rfl, rfl⟩

theorem aIu (A : aR) (U : List aE) {r : aS × Bool} (h : eN A U = some r) : Fn Tryz.prog 85 (Z30 A U) (.tup [.agg (cH r.1), .b r.2]) := by
 unfold eN at h;refine kX Tryz.func85 rfl (rs := [.cell 4 126, .tmp 5]) Tryz.results85 Tryz.ntmps85 (Nat.le_of_ble_eq_true rfl) ?_;refine aC (aA ?_);refine bB rfl (eB (v := .agg (aZ A)) (aF rfl) rfl rfl rfl) ?_;rintro _ ⟨b1, rfl⟩;refine bB rfl (cK (zs := Z4) (aF rfl) Tryz.zeroValue126 rfl rfl) ?_;rintro _ ⟨b2, rfl⟩;refine ta Z3 (aB (aC (aA (to (sla 0 (aZ A) rfl rfl iT) (tm (Z27 U) ?_)))));obtain ⟨r3, h4, h⟩ := bns h;refine to (eY (aF rfl) (.func _ _ Tryz.call16) rfl rfl (sR _ _ h4)) ?_;refine tm (.tup [.d (.sl 1 (r3.1.map aL)), .b r3.2]) (to (sex rfl rfl) (to (sex rfl rfl) (ta (.d (.sl 1 (r3.1.map aL))) (ta (.b r3.2) (aB (aC (aC (aA (tm (.b r3.2) (to (sn rfl) (aB ?_)))))))))));refine tih h (fun c5 h => ?_) (fun c5 h => ?_)
 ·refine aC (aA (to (dZ (aF rfl) aDp (zs := Z4) rfl rfl rfl rfl (es := Z4) rfl) ?_));refine to (sst 1 rfl rfl Tryz.sizeOf126 (cH Z2)) (ta Z3 (aB ?_));obtain rfl := sIn h;exact cI ⟨rfl, _, [.box b1 0 (aZ A), .box b2 0 (cH Z2)], .two (.cell 4 126 rfl (i := 1) rfl aAl (es := (cH Z2)) rfl rfl) (.tmp 5 (v := .b false) rfl), .refl _, .same _⟩
 ·refine aU (aC (aA (tm (.d (.sl 1 (r3.1.map aL))) (to (dZ (aF rfl) aDp (zs := [.sl 1 Z14, .lit (.slice none 0 0)]) rfl rfl rfl rfl (es := [.sl 1 (r3.1.map aL), .lit (.slice none 0 0)]) rfl) ?_))));refine bB rfl (cK (zs := [.sl 1 Z14, .lit (.slice none 0 0)]) (aF rfl) Tryz.zeroValue126 rfl rfl) ?_;rintro _ ⟨b6, rfl⟩;refine sD (aSx 22 1) ?_;refine sD (aSy 3 1) ?_;refine to (sst 2 rfl rfl Tryz.sizeOf126 [.sl 1 (r3.1.map aL), .lit (.slice none 0 0)]) (aB (aC (aC (aA (ta (.i 0) (aB (aX ?_)))))));refine bP (S := Int × (List Z26) × Z26 × (List Value) × Value) [1, 2, 4, 6, 8] (fun s7 => [(9, .i s7.1)]) (fun s7 => [.box b1 0 (aZ A), .box b2 0 (cH Z2), .fam 3 1 s7.2.2.2.1 (s7.2.1.map fun r => r.map aL), .arr s7.2.2.2.2 22 1 (s7.2.2.2.1.map fun v => [.lit v]), .box b6 0 [.sl 1 (s7.2.2.1.map aL), .lit s7.2.2.2.2]]) (fun k s7 => gV U r3.1 A Z2 k s7.1 s7.2.1 s7.2.2.1) (fun _ => rfl) (0, ([] : List Z26), r3.1, [], (.slice none 0 0)) h (aN [0, 1, 4, 3, 2] rfl rfl (aH rfl (aM ⟨rfl, rfl, rfl, rfl, rfl, trivial⟩))) ?_;rintro d4 ⟨s, T, e, N, w9⟩ h;simp only [gV] at h;refine aC (aC (aA (tm (.i s) (tfl 0 rfl rfl hY rfl aO (to (scm rfl rfl rfl) (aB ?_))))));refine tih h (fun d5 h => ?_) (fun d5 h => ?_)
  ·refine aU (aC (aX (aC (aA (to (iK 3 1 (.inl rfl) (aF rfl)) ?_)))));refine aB (aC (aC (aA (ta (.i 0) (aB (aX ?_))))));refine bP (S := Int × Z26 × Value) [1, 2, 4, 6, 8, 9] (fun O => [(10, .d (.lit O.2.2)), (11, .i O.1)]) (fun O => [.box b1 0 (aZ A), .box b2 0 (cH Z2), .fam 3 1 N (T.map fun r => r.map aL), .arr w9 22 1 (N.map fun v => [.lit v]), .box b6 0 [.sl 1 (e.map aL), .lit w9], .arr O.2.2 3 1 (O.2.1.map aL)]) (fun k O => eS (gV U r3.1 A Z2 d4) U r3.1 s A Z2 T e k O.1 O.2.1) (fun _ => rfl) (0, ([] : List Int), (.slice none 0 0)) h (aN [0, 1, 2, 3, 4, 5] rfl rfl (aH rfl (aH rfl (aM ⟨rfl, rfl, rfl, rfl, rfl, rfl, trivial⟩)))) ?_;rintro i1 ⟨j, d0, J⟩ h;simp only [eS] at h;refine aC (aC (aA (tm (.i j) (to (sla 0 (aZ A) rfl rfl iT) (tm (.i s) ?_)))));obtain ⟨i2, d6, h⟩ := bns h;refine to (scr Tryz.call44 (qB _ _ d6)) (to (scm rfl rfl rfl) (aB ?_));refine tih h (fun d7 h => ?_) (fun d7 h => ?_)
   ·refine aU (aC (aX (aC (aA (ta (.i (-2)) (aB (aC (aC (aA (tm (.i s) (to (scm rfl rfl rfl) (tm (.b (decide (s = 0))) ?_))))))))))));obtain ⟨d8, V, h⟩ := bns h;refine aW 7 [1, 2, 4, 6, 8, 9, 10, 11, 12] 55 d8 ?_ ?_
    ·refine bch V (fun z V => ?_) (fun z V => ?_)
     ·refine tk z (sm (.d (.sl 1 (r3.1.map aL)))) (tk z (sm (.i j)) (tk z (sar rfl rfl rfl) ?_));obtain ⟨d9, e0, V⟩ := bns V;refine tk z (six rfl rfl bG.of (aV aL e0)) (tk z (slc rfl aO) (tk z (scm rfl rfl rfl) (to (spt (.b (decide (d9 = (-1)))) z) ?_)));obtain rfl := sIn V;refine aB (aK rfl ⟨rfl, rfl, rfl, rfl, rfl, rfl, rfl, rfl, rfl, trivial⟩ rfl)
     ·refine tp z (tp z (tp z (tp z (tp z (tp z (to (spf Z3 z) ?_))))));obtain rfl := sIn V;refine aB (aK rfl ⟨rfl, rfl, rfl, rfl, rfl, rfl, rfl, rfl, rfl, trivial⟩ rfl)
    ·refine aB ?_;refine tih h (fun e1 h => ?_) (fun e1 h => ?_)
     ·refine aA (tm (.d (.sl 1 (r3.1.map aL))) (tm (.i j) (to (sar rfl rfl rfl) (to (sar rfl rfl rfl) ?_))));obtain ⟨b3, e2, h⟩ := bns h;refine to (six rfl rfl bG.of (aV aL e2)) (to (slc rfl aO) (ta (.i b3) (aB (aC (aC (aA (tm (.i s) (to (scm rfl rfl rfl) (tm (.b (decide (s = 0))) ?_)))))))));obtain ⟨e3, W, h⟩ := bns h;refine aW 8 [1, 2, 4, 6, 8, 9, 10, 11, 12] 72 e3 ?_ ?_
      ·refine bch W (fun u W => ?_) (fun u W => ?_)
       ·refine tk u (sm (.d (.sl 1 (r3.1.map aL)))) (tk u (sm (.i j)) (tk u (sar rfl rfl rfl) (tk u (sar rfl rfl rfl) ?_)));obtain ⟨e4, e5, W⟩ := bns W;refine tk u (six rfl rfl bG.of (aV aL e5)) (tk u (slc rfl aO) (tk u (scm rfl rfl rfl) (to (spt (.b (decide (e4 = (-1)))) u) ?_)));obtain rfl := sIn W;refine aB (aK rfl ⟨rfl, rfl, rfl, rfl, rfl, rfl, rfl, rfl, rfl, trivial⟩ rfl)
       ·refine tp u (tp u (tp u (tp u (tp u (tp u (tp u (to (spf Z3 u) ?_)))))));obtain rfl := sIn W;refine aB (aK rfl ⟨rfl, rfl, rfl, rfl, rfl, rfl, rfl, rfl, rfl, trivial⟩ rfl)
      ·refine aB ?_;refine tih h (fun e6 h => ?_) (fun e6 h => ?_)
       ·refine aA (tm (.d (.sl 1 (r3.1.map aL))) (tm (.i j) (to (sar rfl rfl rfl) ?_)));obtain ⟨b4, e7, h⟩ := bns h;refine to (six rfl rfl bG.of (aV aL e7)) (to (slc rfl aO) (ta (.i b4) (aB (aA (tm (.d (.lit J)) (tm (.i b4) (to (fL (aF rfl) bG rfl rfl (rows := ([b4]).map aL) rfl (cV (f := aL) fun _ => rfl) rfl (by decide)) ?_)))))));obtain ⟨e8, e9, h⟩ := bns h;refine bB rfl (gM (i := 5) (aF rfl) bG rfl rfl rfl (fun _ => rfl) e9 rfl) ?_;rintro _ ⟨c2, rfl⟩;refine ta (.d (.lit c2)) ?_;refine cM ?_;refine aA (tm (.i j) (to (sar rfl rfl rfl) (ta (.i (w64 (j + 1))) (aB ?_))));exact ⟨(w64 (j + 1), e8, c2), h, aN [0, 1, 2, 3, 4, 5] rfl rfl (aH rfl (aH rfl (aM ⟨rfl, rfl, rfl, rfl, rfl, rfl, trivial⟩)))⟩
       ·refine aU (aA (tm (.d (.lit J)) (tm (.i b3) (to (fL (aF rfl) bG rfl rfl (rows := ([b3]).map aL) rfl (cV (f := aL) fun _ => rfl) rfl (by decide)) ?_))));obtain ⟨f0, f1, h⟩ := bns h;refine bB rfl (gM (i := 5) (aF rfl) bG rfl rfl rfl (fun _ => rfl) f1 rfl) ?_;rintro _ ⟨c3, rfl⟩;refine ta (.d (.lit c3)) ?_;refine cM ?_;refine aA (tm (.i j) (to (sar rfl rfl rfl) (ta (.i (w64 (j + 1))) (aB ?_))));exact ⟨(w64 (j + 1), f0, c3), h, aN [0, 1, 2, 3, 4, 5] rfl rfl (aH rfl (aH rfl (aM ⟨rfl, rfl, rfl, rfl, rfl, rfl, trivial⟩)))⟩
     ·refine aU (aC (aC (aA (tm (.i s) (to (scm rfl rfl rfl) (tm (.b (decide (s = 0))) ?_))))));obtain ⟨f2, X, h⟩ := bns h;refine aW 8 [1, 2, 4, 6, 8, 9, 10, 11, 12] 72 f2 ?_ ?_
      ·refine bch X (fun w X => ?_) (fun w X => ?_)
       ·refine tk w (sm (.d (.sl 1 (r3.1.map aL)))) (tk w (sm (.i j)) (tk w (sar rfl rfl rfl) (tk w (sar rfl rfl rfl) ?_)));obtain ⟨f3, f4, X⟩ := bns X;refine tk w (six rfl rfl bG.of (aV aL f4)) (tk w (slc rfl aO) (tk w (scm rfl rfl rfl) (to (spt (.b (decide (f3 = (-1)))) w) ?_)));obtain rfl := sIn X;refine aB (aK rfl ⟨rfl, rfl, rfl, rfl, rfl, rfl, rfl, rfl, rfl, trivial⟩ rfl)
       ·refine tp w (tp w (tp w (tp w (tp w (tp w (tp w (to (spf Z3 w) ?_)))))));obtain rfl := sIn X;refine aB (aK rfl ⟨rfl, rfl, rfl, rfl, rfl, rfl, rfl, rfl, rfl, trivial⟩ rfl)
      ·refine aB ?_;refine tih h (fun f5 h => ?_) (fun f5 h => ?_)
       ·refine aA (tm (.d (.sl 1 (r3.1.map aL))) (tm (.i j) (to (sar rfl rfl rfl) ?_)));obtain ⟨b5, f6, h⟩ := bns h;refine to (six rfl rfl bG.of (aV aL f6)) (to (slc rfl aO) (ta (.i b5) (aB (aA (tm (.d (.lit J)) (tm (.i b5) (to (fL (aF rfl) bG rfl rfl (rows := ([b5]).map aL) rfl (cV (f := aL) fun _ => rfl) rfl (by decide)) ?_)))))));obtain ⟨f7, f8, h⟩ := bns h;refine bB rfl (gM (i := 5) (aF rfl) bG rfl rfl rfl (fun _ => rfl) f8 rfl) ?_;rintro _ ⟨c4, rfl⟩;refine ta (.d (.lit c4)) ?_;refine cM ?_;refine aA (tm (.i j) (to (sar rfl rfl rfl) (ta (.i (w64 (j + 1))) (aB ?_))));exact ⟨(w64 (j + 1), f7, c4), h, aN [0, 1, 2, 3, 4, 5] rfl rfl (aH rfl (aH rfl (aM ⟨rfl, rfl, rfl, rfl, rfl, rfl, trivial⟩)))⟩
       ·refine aU (aA (tm (.d (.lit J)) (tm (.i (-2)) (to (fL (aF rfl) bG rfl rfl (rows := ([(-2)]).map aL) rfl (cV (f := aL) fun _ => rfl) rfl (by decide)) ?_))));obtain ⟨f9, g0, h⟩ := bns h;refine bB rfl (gM (i := 5) (aF rfl) bG rfl rfl rfl (fun _ => rfl) g0 rfl) ?_;rintro _ ⟨c6, rfl⟩;refine ta (.d (.lit c6)) ?_;refine cM ?_;refine aA (tm (.i j) (to (sar rfl rfl rfl) (ta (.i (w64 (j + 1))) (aB ?_))));exact ⟨(w64 (j + 1), f9, c6), h, aN [0, 1, 2, 3, 4, 5] rfl rfl (aH rfl (aH rfl (aM ⟨rfl, rfl, rfl, rfl, rfl, rfl, trivial⟩)))⟩
   ·refine bQ ?_;refine .inl ⟨rfl, ?_⟩;simp only [lP] at h;refine aA (tfl 4 rfl rfl wT rfl aHm (tm (.d (.lit J)) (to (fL (aF rfl) tY rfl rfl (rows := [[.lit J]]) rfl (fun r hr => by cases hr with | head => rfl | tail _ h => cases h) rfl (by decide)) ?_)));obtain ⟨c7, c8, h⟩ := bns h;refine bB rfl (aPy (m := 3) (f := 2) (aF rfl) tY rfl rfl rfl rfl c8 rfl) ?_;rintro _ ⟨a9, rfl⟩;refine sD (aQy (i := 2) [.box b1 0 (aZ A), .box b2 0 (cH Z2), .fam 3 1 N (T.map fun r => r.map aL), .arr a9 22 1 ((N ++ [J]).map fun v => [.lit v]), .box b6 0 [.sl 1 (e.map aL), .lit w9]] [.box b1 0 (aZ A), .box b2 0 (cH Z2), .fam 3 1 (N ++ [J]) (c7.map fun r => r.map aL), .arr a9 22 1 ((N ++ [J]).map fun v => [.lit v]), .box b6 0 [.sl 1 (e.map aL), .lit w9]] rfl rfl c8 rfl) ?_;refine to (sf rfl wT) (to (sst 4 rfl rfl Tryz.sizeOf32 [.sl 1 (e.map aL), .lit a9]) ?_);refine cM ?_;simp only [uJ] at h;refine aA (tm (.i s) (to (sar rfl rfl rfl) (ta (.i (w64 (s + 1))) (aB ?_))));exact ⟨(w64 (s + 1), c7, e, (N ++ [J]), a9), h, aN [0, 1, 2, 3, 4] rfl rfl (aH rfl (aM ⟨rfl, rfl, rfl, rfl, rfl, trivial⟩))⟩
  ·refine bQ ?_;refine .inl ⟨rfl, ?_⟩;simp only [lO] at h;refine aC (aA (tm (Z27 U) ?_));obtain ⟨C, g1, h⟩ := bns h;refine to (eY (aF rfl) (.func _ _ Tryz.call42) rfl rfl (zQ _ g1)) ?_;refine ta (.d (.sl 5 (C.map aJ))) (aB (aC (aC (aA (ta (.i 0) (aB (aX ?_)))))));refine bP (S := Int × aS × (List Z26) × (List Value)) [4, 6, 8, 13] (fun K => [(14, .i K.1)]) (fun K => [.box b2 0 (cH K.2.1), .fam 3 1 K.2.2.2 (K.2.2.1.map fun r => r.map aL), .arr w9 22 1 (K.2.2.2.map fun v => [.lit v]), .box b6 0 [.sl 1 (e.map aL), .lit w9]]) (fun k K => dF r3.1 C e k K.1 K.2.1 K.2.2.1) (fun _ => rfl) (0, Z2, T, N) h (aN [1, 2, 3, 4] rfl rfl (aH rfl (aM ⟨rfl, rfl, rfl, rfl, trivial⟩))) ?_;rintro b7 ⟨p, a0, t, x⟩ h;simp only [dF] at h;refine aC (aC (aA (tm (.i p) (tm (.d (.sl 5 (C.map aJ))) (to (sle rfl fO.of) (to (scm rfl rfl rfl) (aB ?_)))))));refine tih h (fun g2 h => ?_) (fun g2 h => ?_)
   ·refine aU (aC (aX (aC (aA (tm (.d (.sl 5 (C.map aJ))) (tm (.i p) ?_))))));obtain ⟨n, g3, h⟩ := bns h;refine to (six rfl rfl fO.of (aV aJ g3)) (to (qF (aJ n) rfl mB) ?_);refine bB rfl (cK (zs := [.j 0, .j 0, .j 0, .j 0, .j 0]) (aF rfl) Tryz.zeroValue67 rfl rfl) ?_;rintro _ ⟨M, rfl⟩;refine to (sst 4 rfl rfl Tryz.sizeOf67 (aJ n)) (aB (aC (aC (aA (tfl 4 rfl rfl mF rfl aO (to (scm rfl rfl rfl) (aB ?_)))))));refine tih h (fun g4 h => ?_) (fun g4 h => ?_)
    ·refine bQ ?_;refine .inl ⟨rfl, ?_⟩;simp only [lQ] at h;refine aA (tm (.i p) (to (sar rfl rfl rfl) (ta (.i (w64 (p + 1))) (aB ?_))));exact ⟨(w64 (p + 1), a0, t, x), h, aN [0, 1, 2, 3] rfl rfl (aH rfl (aM ⟨rfl, rfl, rfl, rfl, trivial⟩))⟩
    ·refine aU (aC (aC (aA (ta (.i 0) (aB (aX ?_))))));refine bP (S := Int × aS) [4, 6, 8, 13, 14, 15] (fun a1 => [(16, .i a1.1)]) (fun a1 => [.box b2 0 (cH a1.2), .fam 3 1 x (t.map fun r => r.map aL), .arr w9 22 1 (x.map fun v => [.lit v]), .box b6 0 [.sl 1 (e.map aL), .lit w9], .box M 0 (aJ n)]) (fun k a1 => iW (dF r3.1 C e b7) r3.1 C p t e n k a1.1 a1.2) (fun _ => rfl) (0, a0) h (aN [0, 1, 2, 3, 4] rfl rfl (aH rfl (aM ⟨rfl, rfl, rfl, rfl, rfl, rfl, trivial⟩))) ?_;rintro i3 ⟨E, H⟩ h;simp only [iW] at h;refine aC (aC (aA (tm (.i E) (tm (.i p) (to (scm rfl rfl rfl) (aB ?_))))));refine tih h (fun g5 h => ?_) (fun g5 h => ?_)
     ·refine aU (aC (aX (aC (aA (tm (.d (.sl 5 (C.map aJ))) (tm (.i E) ?_))))));obtain ⟨a2, g6, h⟩ := bns h;refine to (six rfl rfl fO.of (aV aJ g6)) (to (qF (aJ a2) rfl mB) ?_);refine bB rfl (cK (zs := [.j 0, .j 0, .j 0, .j 0, .j 0]) (aF rfl) Tryz.zeroValue67 rfl rfl) ?_;rintro _ ⟨g7, rfl⟩;refine to (sst 5 rfl rfl Tryz.sizeOf67 (aJ a2)) (aB (aC (aA (tfl 5 rfl rfl mF rfl aO (to (scm rfl rfl rfl) (tm (.b (!decide (a2.Kind = 5))) ?_))))));obtain ⟨c9, a7, h⟩ := bns h;refine aW 6 [4, 6, 8, 13, 14, 15, 16, 17] 121 c9 ?_ ?_
      ·refine bch a7 (fun F a7 => ?_) (fun F a7 => ?_)
       ·refine tkl 5 F rfl rfl oN rfl aO (tkl 4 F rfl rfl oN rfl aO (tk F (scm rfl rfl rfl) (to (spt (.b (decide (a2.Round = n.Round))) F) ?_)));obtain rfl := sIn a7;refine aB (aK rfl ⟨rfl, rfl, rfl, rfl, rfl, rfl, rfl, rfl, trivial⟩ rfl)
       ·refine tp F (tp F (tp F (tp F (tp F (to (spf Z3 F) ?_)))));obtain rfl := sIn a7;refine aB (aK rfl ⟨rfl, rfl, rfl, rfl, rfl, rfl, rfl, rfl, trivial⟩ rfl)
      ·refine tm (.b c9) ?_;obtain ⟨g8, a8, h⟩ := bns h;refine aW 6 [4, 6, 8, 13, 14, 15, 16] 128 g8 ?_ ?_
       ·refine bch a8 (fun G a8 => ?_) (fun G a8 => ?_)
        ·refine tkl 5 G rfl rfl kG rfl aO (tkl 4 G rfl rfl kG rfl aO (tk G (scm rfl rfl rfl) (to (spt (.b (decide (a2.Place = n.Place))) G) ?_)));obtain rfl := sIn a8;refine aB (aK rfl ⟨rfl, rfl, rfl, rfl, rfl, rfl, rfl, trivial⟩ rfl)
        ·refine tp G (tp G (tp G (tp G (tp G (to (spf Z3 G) ?_)))));obtain rfl := sIn a8;refine aB (aK rfl ⟨rfl, rfl, rfl, rfl, rfl, rfl, rfl, trivial⟩ rfl)
       ·refine aB ?_;refine tih h (fun g9 h => ?_) (fun g9 h => ?_)
        ·refine aC (aA (to (dZ (aF rfl) aDp (zs := Z4) rfl rfl rfl rfl (es := Z4) rfl) ?_));refine to (sst 0 rfl rfl Tryz.sizeOf126 (cH Z2)) (ta Z3 (aB ?_));obtain rfl := sIn h;exact cI ⟨rfl, _, [.box b2 0 (cH Z2), .fam 3 1 x (t.map fun r => r.map aL), .arr w9 22 1 (x.map fun v => [.lit v]), .box b6 0 [.sl 1 (e.map aL), .lit w9], .box M 0 (aJ n), .box g7 0 (aJ a2)], .two (.cell 4 126 rfl (i := 0) rfl aAl (es := (cH Z2)) rfl rfl) (.tmp 5 (v := .b false) rfl), .refl _, .same _⟩
        ·refine cL ?_;refine aA (tm (.i E) (to (sar rfl rfl rfl) (ta (.i (w64 (E + 1))) (aB ?_))));exact ⟨(w64 (E + 1), H), h, aN [0, 1, 2, 3, 4] rfl rfl (aH rfl (aM ⟨rfl, rfl, rfl, rfl, rfl, rfl, trivial⟩))⟩
     ·refine bQ ?_;refine .inl ⟨rfl, ?_⟩;simp only [qJ] at h;refine aC (aA (ta (.i (-1)) (aB (aC (aC (aA (ta (.i 0) (aB (aX ?_)))))))));refine bP (S := Int × Int) [4, 6, 8, 13, 14, 15] (fun a3 => [(18, .i a3.1), (19, .i a3.2)]) (fun a3 => [.box b2 0 (cH H), .fam 3 1 x (t.map fun r => r.map aL), .arr w9 22 1 (x.map fun v => [.lit v]), .box b6 0 [.sl 1 (e.map aL), .lit w9], .box M 0 (aJ n)]) (fun k a3 => eI (dF r3.1 C e b7) r3.1 C p H t e n k a3.1 a3.2) (fun _ => rfl) ((-1), 0) h (aN [0, 1, 2, 3, 4] rfl rfl (aH rfl (aH rfl (aM ⟨rfl, rfl, rfl, rfl, rfl, rfl, trivial⟩)))) ?_;rintro i4 ⟨c, q⟩ h;simp only [eI] at h;refine aC (aC (aA (tm (.i q) (tm (.d (.sl 1 (r3.1.map aL))) (to (sle rfl bG.of) (to (scm rfl rfl rfl) (aB ?_)))))));refine tih h (fun h0 h => ?_) (fun h0 h => ?_)
      ·refine aU (aC (aX (aC ?_)));obtain ⟨b8, h1, h⟩ := bns h;refine cN mix 6 [4, 6, 8, 13, 14, 15, 18, 19] [(139, .i b8), (141, .i n.Player)] ?_ ?_
       ·refine ⟨[(136, 0, .d (.sl 1 (r3.1.map aL))), (137, 1, .i q), (138, 2, .cp [.j b8]), (139, 3, .i b8), (140, 4, .bp M 0 3), (141, 5, .i n.Player)], ?_, ?_⟩
        · exact dk [0, 0, 102, 3, 0, 5] ⟨go (zm (.d (.sl 1 (r3.1.map aL)))),
      go (zm (.i q)),
      go (zix rfl rfl bG.of (aV aL h1)),
      go (zlc rfl aO),
      go (zf rfl nG),
      go (zl 4 rfl rfl rfl aO), trivial⟩
        · exact cC (aH rfl (aH rfl (aM ⟨rfl, rfl, rfl, rfl, rfl, rfl, rfl, rfl, trivial⟩)))
       ·refine to (scm rfl rfl rfl) (aB ?_);refine tih h (fun h2 h => ?_) (fun h2 h => ?_)
        ·refine aA (tm (.i q) (ta (.i q) ?_));refine cM ?_;refine aA (tm (.i q) (to (sar rfl rfl rfl) (ta (.i (w64 (q + 1))) (aB ?_))));exact ⟨(q, w64 (q + 1)), h, aN [0, 1, 2, 3, 4] rfl rfl (aH rfl (aH rfl (aM ⟨rfl, rfl, rfl, rfl, rfl, rfl, trivial⟩)))⟩
        ·refine cL ?_;refine aA (tm (.i q) (to (sar rfl rfl rfl) (ta (.i (w64 (q + 1))) (aB ?_))));exact ⟨(c, w64 (q + 1)), h, aN [0, 1, 2, 3, 4] rfl rfl (aH rfl (aH rfl (aM ⟨rfl, rfl, rfl, rfl, rfl, rfl, trivial⟩)))⟩
      ·refine bQ ?_;refine .inl ⟨rfl, ?_⟩;simp only [iV] at h;refine aC (aC (aA (tm (.i c) (to (scm rfl rfl rfl) (tm (.b (decide (c < 0))) ?_)))));obtain ⟨h3, Y, h⟩ := bns h;refine aW 10 [4, 6, 8, 13, 14, 15, 18] 156 h3 ?_ ?_
       ·refine bch Y (fun o Y => ?_) (fun o Y => ?_)
        ·refine tp o (tp o (tp o (tp o (tp o (tp o (tp o (tp o (tp o (to (spt Z10 o) ?_)))))))));obtain rfl := sIn Y;refine aB (aK rfl ⟨rfl, rfl, rfl, rfl, rfl, rfl, rfl, trivial⟩ rfl)
        ·refine tk o (sm (.i c)) (tkl 4 o rfl rfl oN rfl aO (tk o (sar rfl rfl rfl) (tk o (qN (aF rfl) rfl Tryz.runUnderlying3 Tryz.runUnderlying113) ?_)));obtain ⟨h8, d1, Y⟩ := bns Y;refine tk o (aAf (aF rfl) rfl rfl (aBz d1)) ?_;refine tkl 4 o rfl rfl kG rfl aO (tk o (scm rfl rfl rfl) (to (spf (.b (!decide ((c.fdiv (2 ^ (min (uw (w64 (n.Round + 1))).toNat 64))) = n.Place))) o) ?_));obtain rfl := sIn Y;refine aB (aK rfl ⟨rfl, rfl, rfl, rfl, rfl, rfl, rfl, trivial⟩ rfl)
       ·refine aB ?_;refine tih h (fun h5 h => ?_) (fun h5 h => ?_)
        ·refine aC (aA (to (dZ (aF rfl) aDp (zs := Z4) rfl rfl rfl rfl (es := Z4) rfl) ?_));refine to (sst 0 rfl rfl Tryz.sizeOf126 (cH Z2)) (ta Z3 (aB ?_));obtain rfl := sIn h;exact cI ⟨rfl, _, [.box b2 0 (cH Z2), .fam 3 1 x (t.map fun r => r.map aL), .arr w9 22 1 (x.map fun v => [.lit v]), .box b6 0 [.sl 1 (e.map aL), .lit w9], .box M 0 (aJ n)], .two (.cell 4 126 rfl (i := 0) rfl aAl (es := (cH Z2)) rfl rfl) (.tmp 5 (v := .b false) rfl), .refl _, .same _⟩
        ·refine aU (aC (aA (ta (.i 0) (aB ?_))));refine tN ?_;refine bP (S := Int × aS × (List Z26) × (List Value)) [4, 6, 8, 13, 14, 15, 18] (fun L => [(20, .i L.1)]) (fun L => [.box b2 0 (cH L.2.1), .fam 3 1 L.2.2.2 (L.2.2.1.map fun r => r.map aL), .arr w9 22 1 (L.2.2.2.map fun v => [.lit v]), .box b6 0 [.sl 1 (e.map aL), .lit w9], .box M 0 (aJ n)]) (fun k L => iG (dF r3.1 C e b7) r3.1 C p c e n k L.1 L.2.1 L.2.2.1) (fun _ => rfl) (0, H, t, x) h (aN [0, 1, 2, 3, 4] rfl rfl (aH rfl (aM ⟨rfl, rfl, rfl, rfl, rfl, rfl, rfl, trivial⟩))) ?_;rintro i5 ⟨a, Z, I, y⟩ h;simp only [iG] at h;refine aC (aC (aA (tm (.i a) (tfl 4 rfl rfl oN rfl aO (to (scm rfl rfl rfl) (aB ?_))))));refine tih h (fun h6 h => ?_) (fun h6 h => ?_)
         ·refine aU (aC (aX (aC (aA (tm (.i c) (tm (.i a) (to (sar rfl rfl rfl) (to (qN (aF rfl) rfl Tryz.runUnderlying3 Tryz.runUnderlying113) ?_))))))));obtain ⟨i6, h7, h⟩ := bns h;refine to (aAf (aF rfl) rfl rfl (aBz h7)) ?_;refine ta (.i (c.fdiv (2 ^ (min (uw (w64 (a + 1))).toNat 64)))) (aB (aC (aC ?_)));obtain ⟨i7, P, h⟩ := bns h;obtain ⟨Q, b0, h⟩ := bns h;obtain ⟨d2, B, h⟩ := bns h;refine cN mix 22 [4, 6, 8, 13, 14, 15, 18, 20, 21] [(190, .b d2)] ?_ ?_
          ·refine bch B (fun l B => ?_) (fun l B => ?_)
           ·obtain ⟨h9, a4, B⟩ := bns B;obtain ⟨a5, b9, B⟩ := bns B;obtain rfl := sIn B;refine ⟨[(169, 0, .bp b6 0 1), (170, 1, .d (.lit w9)), (171, 2, .i a), (172, 3, .ep w9 1 a.toNat 0), (173, 4, .d (.lit (wG y a))), (174, 5, .i (c.fdiv (2 ^ (min (uw (w64 (a + 1))).toNat 64)))), (175, 6, .ep (wG y a) 1 (c.fdiv (2 ^ (min (uw (w64 (a + 1))).toNat 64))).toNat 0), (176, 7, .i Q), (177, 8, .b (!decide (Q = (-2)))), (178, 9, .b (!decide (Q = (-2)))), (179, 10, .bp b6 0 1), (180, 11, .d (.lit w9)), (181, 12, .i a), (182, 13, .ep w9 1 a.toNat 0), (183, 14, .d (.lit (wG y a))), (184, 15, .i (c.fdiv (2 ^ (min (uw (w64 (a + 1))).toNat 64)))), (185, 16, .ep (wG y a) 1 (c.fdiv (2 ^ (min (uw (w64 (a + 1))).toNat 64))).toNat 0), (186, 17, .i a5), (187, 18, .bp M 0 3), (188, 19, .i n.Player), (189, 20, .b (!decide (a5 = n.Player))), (190, 21, .b (!decide (a5 = n.Player)))], ?_, ?_⟩
            · exact dk [0, 1, 0, 203, 4, 0, 506, 7, 8, 9, 10, 1011, 10, 101213, 1014, 10, 101516, 1017, 10, 1019, 101820, 1021] ⟨go (zf rfl wT),
      go (zl 3 rfl rfl rfl aHm),
      go (zm (.i a)),
      go fun S hS => xT (m := 2) (f := 1) (aF rfl) (bF hS rfl) rfl rfl (bF hS rfl) tY.of P,
      go fun S hS => yT (m := 2) (f := 1) (aF rfl) (bF hS rfl) rfl rfl P cD,
      go (zm (.i (c.fdiv (2 ^ (min (uw (w64 (a + 1))).toNat 64))))),
      go fun S hS => yS (f := 1) (g := aL) (aF rfl) (bF hS rfl) rfl P (bF hS rfl) bG.of b0,
      go fun S hS => aFa (f := 1) (g := aL) (aF rfl) (bF hS rfl) rfl P b0 rfl aO,
      go (zcm rfl rfl rfl),
      go (zm (.b (!decide (Q = (-2))))),
      gt l (zf rfl wT),
      gt l (zl 3 rfl rfl rfl aHm),
      gt l (zm (.i a)),
      gt l fun S hS => xT (m := 2) (f := 1) (aF rfl) (bF hS rfl) rfl rfl (bF hS rfl) tY.of a4,
      gt l fun S hS => yT (m := 2) (f := 1) (aF rfl) (bF hS rfl) rfl rfl a4 cD,
      gt l (zm (.i (c.fdiv (2 ^ (min (uw (w64 (a + 1))).toNat 64))))),
      gt l fun S hS => yS (f := 1) (g := aL) (aF rfl) (bF hS rfl) rfl a4 (bF hS rfl) bG.of b9,
      gt l fun S hS => aFa (f := 1) (g := aL) (aF rfl) (bF hS rfl) rfl a4 b9 rfl aO,
      gt l (zf rfl nG),
      gt l (zl 4 rfl rfl rfl aO),
      gt l (zcm rfl rfl rfl),
      go (zpt (.b (!decide (a5 = n.Player))) l), trivial⟩
            · exact cC (aH rfl (aM ⟨rfl, rfl, rfl, rfl, rfl, rfl, rfl, rfl, rfl, trivial⟩))
           ·obtain rfl := sIn B;refine ⟨[(169, 0, .bp b6 0 1), (170, 1, .d (.lit w9)), (171, 2, .i a), (172, 3, .ep w9 1 a.toNat 0), (173, 4, .d (.lit (wG y a))), (174, 5, .i (c.fdiv (2 ^ (min (uw (w64 (a + 1))).toNat 64)))), (175, 6, .ep (wG y a) 1 (c.fdiv (2 ^ (min (uw (w64 (a + 1))).toNat 64))).toNat 0), (176, 7, .i Q), (177, 8, .b (!decide (Q = (-2)))), (178, 9, .b (!decide (Q = (-2)))), (179, 10, .tup []), (180, 11, .tup []), (181, 12, .tup []), (182, 13, .tup []), (183, 14, .tup []), (184, 15, .tup []), (185, 16, .tup []), (186, 17, .tup []), (187, 18, .tup []), (188, 19, .tup []), (189, 20, .tup []), (190, 21, .b false)], ?_, ?_⟩
            · exact dk [0, 1, 0, 203, 4, 0, 506, 7, 8, 9, 10, 1011, 10, 101213, 1014, 10, 101516, 1017, 10, 1019, 101820, 1021] ⟨go (zf rfl wT),
      go (zl 3 rfl rfl rfl aHm),
      go (zm (.i a)),
      go fun S hS => xT (m := 2) (f := 1) (aF rfl) (bF hS rfl) rfl rfl (bF hS rfl) tY.of P,
      go fun S hS => yT (m := 2) (f := 1) (aF rfl) (bF hS rfl) rfl rfl P cD,
      go (zm (.i (c.fdiv (2 ^ (min (uw (w64 (a + 1))).toNat 64))))),
      go fun S hS => yS (f := 1) (g := aL) (aF rfl) (bF hS rfl) rfl P (bF hS rfl) bG.of b0,
      go fun S hS => aFa (f := 1) (g := aL) (aF rfl) (bF hS rfl) rfl P b0 rfl aO,
      go (zcm rfl rfl rfl),
      go (zm (.b (!decide (Q = (-2))))),
      gp l,
      gp l,
      gp l,
      gp l,
      gp l,
      gp l,
      gp l,
      gp l,
      gp l,
      gp l,
      gp l,
      go (zpf Z3 l), trivial⟩
            · exact cC (aH rfl (aM ⟨rfl, rfl, rfl, rfl, rfl, rfl, rfl, rfl, rfl, trivial⟩))
          ·refine aB ?_;refine tih h (fun d3 h => ?_) (fun d3 h => ?_)
           ·refine aC (aA (to (dZ (aF rfl) aDp (zs := Z4) rfl rfl rfl rfl (es := Z4) rfl) ?_));refine to (sst 0 rfl rfl Tryz.sizeOf126 (cH Z2)) (ta Z3 (aB ?_));obtain rfl := sIn h;exact cI ⟨rfl, _, [.box b2 0 (cH Z2), .fam 3 1 y (I.map fun r => r.map aL), .arr w9 22 1 (y.map fun v => [.lit v]), .box b6 0 [.sl 1 (e.map aL), .lit w9], .box M 0 (aJ n)], .two (.cell 4 126 rfl (i := 0) rfl aAl (es := (cH Z2)) rfl rfl) (.tmp 5 (v := .b false) rfl), .refl _, .same _⟩
           ·refine aU ?_;obtain ⟨c0, a6, h⟩ := bns h;refine cN mix 8 [4, 6, 8, 13, 14, 15, 18, 20] [(196, .d (.lit (wG y a))), (197, .i (c.fdiv (2 ^ (min (uw (w64 (a + 1))).toNat 64)))), (199, .i n.Player)] ?_ ?_
            ·refine ⟨[(192, 0, .bp b6 0 1), (193, 1, .d (.lit w9)), (194, 2, .i a), (195, 3, .ep w9 1 a.toNat 0), (196, 4, .d (.lit (wG y a))), (197, 5, .i (c.fdiv (2 ^ (min (uw (w64 (a + 1))).toNat 64)))), (198, 6, .bp M 0 3), (199, 7, .i n.Player)], ?_, ?_⟩
             · exact dk [0, 1, 0, 203, 4, 0, 0, 7] ⟨go (zf rfl wT),
      go (zl 3 rfl rfl rfl aHm),
      go (zm (.i a)),
      go fun S hS => xT (m := 2) (f := 1) (aF rfl) (bF hS rfl) rfl rfl (bF hS rfl) tY.of a6,
      go fun S hS => yT (m := 2) (f := 1) (aF rfl) (bF hS rfl) rfl rfl a6 cD,
      go (zm (.i (c.fdiv (2 ^ (min (uw (w64 (a + 1))).toNat 64))))),
      go (zf rfl nG),
      go (zl 4 rfl rfl rfl aO), trivial⟩
             · exact cC (aH rfl (aH rfl (aH rfl (aM ⟨rfl, rfl, rfl, rfl, rfl, rfl, rfl, rfl, trivial⟩))))
            ·obtain ⟨i0, c1, h⟩ := bns h;refine to (yS (f := 1) (g := aL) (aF rfl) rfl rfl a6 rfl bG.of c1) ?_;refine to (aRr (f := 1) (g := aL) rfl rfl a6 c1 rfl rfl rfl Tryz.sizeOf3 rfl (aF rfl) (Nat.le_of_ble_eq_true rfl) (a' := n.Player) rfl (c' := (I.set a.toNat (c0.set (c.fdiv (2 ^ (min (uw (w64 (a + 1))).toNat 64))).toNat n.Player))) rfl) ?_;refine cM ?_;refine aA (tm (.i a) (to (sar rfl rfl rfl) (ta (.i (w64 (a + 1))) (aB ?_))));exact ⟨(w64 (a + 1), Z, (I.set a.toNat (c0.set (c.fdiv (2 ^ (min (uw (w64 (a + 1))).toNat 64))).toNat n.Player)), y), h, aN [0, 1, 2, 3, 4] rfl rfl (aH rfl (aM ⟨rfl, rfl, rfl, rfl, rfl, rfl, rfl, trivial⟩))⟩
         ·refine bQ ?_;refine .inl ⟨rfl, ?_⟩;simp only [tQ] at h;simp only [lQ] at h;refine aA (tm (.i p) (to (sar rfl rfl rfl) (ta (.i (w64 (p + 1))) (aB ?_))));exact ⟨(w64 (p + 1), Z, I, y), h, aN [0, 1, 2, 3] rfl rfl (aH rfl (aM ⟨rfl, rfl, rfl, rfl, trivial⟩))⟩
   ·refine bQ ?_;refine .inl ⟨rfl, ?_⟩;simp only [uK] at h;refine aC (aA (to (sla 3 [.sl 1 (e.map aL), .lit w9] rfl rfl aAl) (to (sst 0 rfl rfl Tryz.sizeOf126 [.sl 1 (e.map aL), .lit w9]) (ta Z10 (aB ?_)))));obtain rfl := sIn h;exact cI ⟨rfl, _, [.box b2 0 [.sl 1 (e.map aL), .lit w9], .fam 3 1 x (t.map fun r => r.map aL), .arr w9 22 1 (x.map fun v => [.lit v]), .box b6 0 [.sl 1 (e.map aL), .lit w9]], .two (.cell 4 126 rfl (i := 0) rfl aAl (es := [.sl 1 (e.map aL), .lit w9]) rfl rfl) (.tmp 5 (v := .b true) rfl), .refl _, aGh (.cons (.agg (dvc (.same _) (dvc (aZz 2 1 rfl rfl (h := dE) (fun _ => rfl)) dvn))) (.cons (.same _) .nil))⟩

theorem aGl (c : aR) (e : List aE) {r : Int} (h : fJ c e = some r) : Fn Tryz.prog 49 (Z30 c e) (.i r) := by
 unfold fJ at h;refine oT [.tmp 4] Tryz.func49 Tryz.results49 Tryz.ntmps49 ?_;refine aC (aA ?_);refine bB rfl (eB (v := .agg (aZ c)) (aF rfl) rfl rfl rfl) ?_;rintro _ ⟨b1, rfl⟩;refine ta (.i 0) (aB (aC (aC (aA (to (sla 0 (aZ c) rfl rfl iT) ?_)))));obtain ⟨r2, h3, h⟩ := bns h;refine to (scr Tryz.call83 (aFx _ h3)) (to (sn rfl) (aB ?_));refine tih h (fun c4 h => ?_) (fun c4 h => ?_)
 ·refine aC (aA (ta (.i 70) (aB ?_)));obtain rfl := sIn h;refine bL (bC (bE (l := [4]) ⟨rfl, trivial⟩)) ?_;exact rt
 ·refine aU (aC (aC (aA (tm (Z27 e) (to (sle rfl fO.of) (to (scm rfl rfl rfl) (aB ?_)))))));refine tih h (fun c5 h => ?_) (fun c5 h => ?_)
  ·refine aC (aA (ta (.i 71) (aB ?_)));obtain rfl := sIn h;refine bL (bC (bE (l := [4]) ⟨rfl, trivial⟩)) ?_;exact rt
  ·refine aU (aC (aC (aA (ta (.i 0) (aB (aX ?_))))));refine bP (S := Int) [1, 2] (fun s6 => [(5, .i s6)]) (fun s6 => [.box b1 0 (aZ c)]) (fun k s6 => iF e c k s6) (fun _ => rfl) (0) h (aN [0] rfl rfl (aH rfl (aM ⟨rfl, rfl, trivial⟩))) ?_;rintro k7 a h;simp only [iF] at h;refine aC (aC (aA (tm (.i a) (tm (Z27 e) (to (sle rfl fO.of) (to (scm rfl rfl rfl) (aB ?_)))))));refine tih h (fun c8 h => ?_) (fun c8 h => ?_)
   ·refine aU (aC (aX (aC ?_)));obtain ⟨x9, g, h⟩ := bns h;refine cN mix 5 [1, 2, 5] [(20, .agg (aZ c)), (24, .agg (aJ x9))] ?_ ?_
    ·refine ⟨[(20, 0, .agg (aZ c)), (21, 1, .d (Z6 e)), (22, 2, .i a), (23, 3, .cp [.j x9.Kind, .j x9.Round, .j x9.Place, .j x9.Player, .j x9.Old]), (24, 4, .agg (aJ x9))], ?_, ?_⟩
     · exact dk [0, 0, 0, 203, 4] ⟨go (zla 0 (aZ c) rfl rfl iT),
      go (zm (Z27 e)),
      go (zm (.i a)),
      go (zix rfl rfl fO.of (aV aJ g)),
      go (aYb (aJ x9) rfl mB), trivial⟩
     · exact cC (aH rfl (aH rfl (aM ⟨rfl, rfl, rfl, trivial⟩)))
    ·obtain ⟨p, j, h⟩ := bns h;refine to (scr Tryz.call84 (aFy _ _ j)) (to (sn rfl) (aB ?_));refine tih h (fun m h => ?_) (fun m h => ?_)
     ·refine aC (aA (ta (.i 71) (aB ?_)));obtain rfl := sIn h;refine bL (bC (bE (l := [4]) ⟨rfl, trivial⟩)) ?_;exact rt
     ·refine cL ?_;refine aA (tm (.i a) (to (sar rfl rfl rfl) (ta (.i (w64 (a + 1))) (aB ?_))));exact ⟨(w64 (a + 1)), h, aN [0] rfl rfl (aH rfl (aM ⟨rfl, rfl, trivial⟩))⟩
   ·refine bQ ?_;refine .inl ⟨rfl, ?_⟩;simp only [kP] at h;refine aC (aC (aA (to (sla 0 (aZ c) rfl rfl iT) (tm (Z27 e) ?_))));obtain ⟨f, n, h⟩ := bns h;refine to (eY (aF rfl) (.func _ _ Tryz.call85) rfl rfl (aIu _ _ n)) ?_;refine tm (.tup [.agg (cH f.1), .b f.2]) (to (sex rfl rfl) (to (sex rfl rfl) ?_));refine bB rfl (cK (zs := Z4) (aF rfl) Tryz.zeroValue126 rfl rfl) ?_;rintro _ ⟨q, rfl⟩;refine to (sst 1 rfl rfl Tryz.sizeOf126 (cH f.1)) (ta (.b f.2) (aB (aC (aA (tm (.b f.2) (to (sn rfl) (aB ?_)))))));refine tih h (fun o h => ?_) (fun o h => ?_)
    ·refine aC (aA (ta (.i 72) (aB ?_)));obtain rfl := sIn h;refine bL (bC (bE (l := [4]) ⟨rfl, trivial⟩)) ?_;exact rt
    ·refine aU (aC (aA (ta (.i 0) (aB ?_))));obtain rfl := sIn h;refine bL (bC (bE (l := [4]) ⟨rfl, trivial⟩)) ?_;exact rt

theorem dY (d : Int) (c : Int) (a : Int) {r : Bool} (h : dR d c a = some r) : Fn Tryz.prog 50 [.i d, .i c, .i a] (.b r) := by
 unfold dR at h;refine oT [.tmp 6] Tryz.func50 Tryz.results50 Tryz.ntmps50 ?_;refine aC (aA (ta Z3 (aB (aC (aA (tm (.i d) (tm (.i c) (to (scm rfl rfl rfl) (tm (Z33 c d) ?_)))))))));obtain ⟨b1, h2, h⟩ := bns h;refine aW 4 [] 14 b1 ?_ ?_
 ·refine bch h2 (fun c3 h2 => ?_) (fun c3 h2 => ?_)
  ·refine tk c3 (sm (.i d)) (tk c3 (sm (.i a)) (tk c3 (scm rfl rfl rfl) (to (spt (Z33 d a) c3) ?_)));obtain rfl := sIn h2;refine aB (aK rfl trivial rfl)
  ·refine tp c3 (tp c3 (tp c3 (to (spf Z3 c3) ?_)));obtain rfl := sIn h2;refine aB (aK rfl trivial rfl)
 ·refine ta (.b b1) (aB ?_);obtain rfl := sIn h;exact rt

theorem xH (d : aP) (a : Int) {r : Bool} (h : lT d a = some r) : Fn Tryz.prog 86 [.agg (aT d), .i a] (.b r) := by
 unfold lT at h;refine oT [.tmp 4] Tryz.func86 Tryz.results86 Tryz.ntmps86 ?_;refine aC (aA ?_);refine bB rfl (eB (v := .agg (aT d)) (aF rfl) rfl rfl rfl) ?_;rintro _ ⟨b1, rfl⟩;refine ta Z3 (aB (aC (aC (aA (ta (.i 0) (aB (aX ?_)))))));refine bP (S := Int) [1, 2] (fun s2 => [(5, .i s2)]) (fun s2 => [.box b1 0 (aT d)]) (fun k s2 => iN a d k s2) (fun _ => rfl) (0) h (aN [0] rfl rfl (aH rfl (aM ⟨rfl, rfl, trivial⟩))) ?_;rintro k3 c h;simp only [iN] at h;refine aC (aC (aA (tm (.i c) (tfl 0 rfl rfl jX rfl oA (to (sle rfl nP.of) (to (scm rfl rfl rfl) (aB ?_)))))));refine tih h (fun c4 h => ?_) (fun c4 h => ?_)
 ·refine aU (aC (aX (aC (aA (tfl 0 rfl rfl jX rfl oA (tm (.i c) ?_))))));obtain ⟨x5, h6, h⟩ := bns h;refine to (six rfl rfl nP.of (aV bK h6)) (to (sfc [.j x5.Player] rfl sT) (to (slc rfl aO) (tm (.i a) (to (scm rfl rfl rfl) (aB ?_)))));refine tih h (fun c7 h => ?_) (fun c7 h => ?_)
  ·refine aC (aA (ta Z10 (aB ?_)));obtain rfl := sIn h;refine bL (bC (bE (l := [4]) ⟨rfl, trivial⟩)) ?_;exact rt
  ·refine cL ?_;refine aA (tm (.i c) (to (sar rfl rfl rfl) (ta (.i (w64 (c + 1))) (aB ?_))));exact ⟨(w64 (c + 1)), h, aN [0] rfl rfl (aH rfl (aM ⟨rfl, rfl, trivial⟩))⟩
 ·refine bQ ?_;refine .inl ⟨rfl, ?_⟩;simp only [wS] at h;refine aC (aA (ta Z3 (aB ?_)));obtain rfl := sIn h;refine bL (bC (bE (l := [4]) ⟨rfl, trivial⟩)) ?_;exact rt

theorem aDd (a : aP) {r : Bool} (h : kQ a = some r) : Fn Tryz.prog 51 (Z32 a) (.b r) := by
 unfold kQ at h;refine oT [.tmp 2] Tryz.func51 Tryz.results51 Tryz.ntmps51 ?_;refine aC (aA ?_);refine bB rfl (eB (v := .agg (aT a)) (aF rfl) rfl rfl rfl) ?_;rintro _ ⟨b1, rfl⟩;refine ta Z3 (aB (aC (aC (aA (ta (.i 0) (aB (aX ?_)))))));refine bP (S := Int) [1] (fun s2 => [(3, .i s2)]) (fun s2 => [.box b1 0 (aT a)]) (fun k s2 => fU a k s2) (fun _ => rfl) (0) h (aN [0] rfl rfl (aH rfl (aM ⟨rfl, trivial⟩))) ?_;rintro k3 o h;simp only [fU] at h;refine aC (aC (aA (tm (.i o) (tfl 0 rfl rfl jX rfl oA (to (sle rfl nP.of) (to (scm rfl rfl rfl) (aB ?_)))))));refine tih h (fun c4 h => ?_) (fun c4 h => ?_)
 ·refine aU (aC (aX (aC (aA (tfl 0 rfl rfl jX rfl oA (tm (.i o) ?_))))));obtain ⟨x5, h6, h⟩ := bns h;refine to (six rfl rfl nP.of (aV bK h6)) (to (qF (bK x5) rfl uB) ?_);refine bB rfl (cK (zs := [.j 0, .j 0, .j 0]) (aF rfl) Tryz.zeroValue46 rfl rfl) ?_;rintro _ ⟨b7, rfl⟩;refine to (sst 1 rfl rfl Tryz.sizeOf46 (bK x5)) (aB (aC (aC (aA (tfl 1 rfl rfl sT rfl aO ?_)))));obtain ⟨r8, h9, h⟩ := bns h;refine to (scr Tryz.call50 (dY _ _ _ h9)) (to (sn rfl) (tm (.b (!r8)) ?_));obtain ⟨T, C, h⟩ := bns h;refine aW 5 [1, 3, 4] 30 T ?_ ?_
  ·refine bch C (fun w C => ?_) (fun w C => ?_)
   ·refine tp w (tp w (tp w (tp w (to (spt Z10 w) ?_))));obtain rfl := sIn C;refine aB (aK rfl ⟨rfl, rfl, rfl, trivial⟩ rfl)
   ·refine tkl 1 w rfl rfl oM rfl aO ?_;obtain ⟨a2, a3, C⟩ := bns C;refine tk w (scr Tryz.call50 (dY _ _ _ a3)) (tk w (sn rfl) (to (spf (.b (!a2)) w) ?_));obtain rfl := sIn C;refine aB (aK rfl ⟨rfl, rfl, rfl, trivial⟩ rfl)
  ·refine tm (.b T) ?_;obtain ⟨U, E, h⟩ := bns h;refine aW 5 [1, 3, 4] 36 U ?_ ?_
   ·refine bch E (fun x E => ?_) (fun x E => ?_)
    ·refine tp x (tp x (tp x (tp x (to (spt Z10 x) ?_))));obtain rfl := sIn E;refine aB (aK rfl ⟨rfl, rfl, rfl, trivial⟩ rfl)
    ·refine tkl 1 x rfl rfl jN rfl aO ?_;obtain ⟨a4, a5, E⟩ := bns E;refine tk x (scr Tryz.call50 (dY _ _ _ a5)) (tk x (sn rfl) (to (spf (.b (!a4)) x) ?_));obtain rfl := sIn E;refine aB (aK rfl ⟨rfl, rfl, rfl, trivial⟩ rfl)
   ·refine tm (.b U) ?_;obtain ⟨a6, I, h⟩ := bns h;refine aW 6 [1, 3, 4] 43 a6 ?_ ?_
    ·refine bch I (fun p I => ?_) (fun p I => ?_)
     ·refine tp p (tp p (tp p (tp p (tp p (to (spt Z10 p) ?_)))));obtain rfl := sIn I;refine aB (aK rfl ⟨rfl, rfl, rfl, trivial⟩ rfl)
     ·refine tkl 1 p rfl rfl oM rfl aO (tkl 1 p rfl rfl jN rfl aO (tk p (scm rfl rfl rfl) (to (spf (.b (decide (x5.One = x5.Two))) p) ?_)));obtain rfl := sIn I;refine aB (aK rfl ⟨rfl, rfl, rfl, trivial⟩ rfl)
    ·refine aB ?_;refine tih h (fun a7 h => ?_) (fun a7 h => ?_)
     ·refine aC (aA (ta Z3 (aB ?_)));obtain rfl := sIn h;refine bL (bC (bE (l := [2]) ⟨rfl, trivial⟩)) ?_;exact rt
     ·refine aU (aC (aA (ta (.i 0) (aB ?_))));refine tN ?_;refine bP (S := Int) [1, 3, 4] (fun M => [(5, .i M)]) (fun M => [.box b1 0 (aT a), .box b7 0 (bK x5)]) (fun k M => fV (fU a k3) o a x5 k M) (fun _ => rfl) (0) h (aN [0, 1] rfl rfl (aH rfl (aM ⟨rfl, rfl, rfl, trivial⟩))) ?_;rintro c5 q h;simp only [fV] at h;refine aC (aC (aA (tm (.i q) (tm (.i o) (to (scm rfl rfl rfl) (aB ?_))))));refine tih h (fun a8 h => ?_) (fun a8 h => ?_)
      ·refine aU (aC (aX (aC (aA (tfl 0 rfl rfl jX rfl oA (tm (.i q) ?_))))));obtain ⟨F, a9, h⟩ := bns h;refine to (six rfl rfl nP.of (aV bK a9)) (to (qF (bK F) rfl uB) ?_);refine bB rfl (cK (zs := [.j 0, .j 0, .j 0]) (aF rfl) Tryz.zeroValue46 rfl rfl) ?_;rintro _ ⟨c6, rfl⟩;refine to (sst 2 rfl rfl Tryz.sizeOf46 (bK F)) (aB (aC (aA (tfl 2 rfl rfl sT rfl aO (tfl 1 rfl rfl sT rfl aO (to (scm rfl rfl rfl) (tm (.b (decide (F.Player = x5.Player))) ?_)))))));obtain ⟨V, J, h⟩ := bns h;refine aW 6 [1, 3, 4, 5, 6] 65 V ?_ ?_
       ·refine bch J (fun s J => ?_) (fun s J => ?_)
        ·refine tp s (tp s (tp s (tp s (tp s (to (spt Z10 s) ?_)))));obtain rfl := sIn J;refine aB (aK rfl ⟨rfl, rfl, rfl, rfl, rfl, trivial⟩ rfl)
        ·refine tkl 2 s rfl rfl oM rfl aO (tkl 1 s rfl rfl oM rfl aO (tk s (scm rfl rfl rfl) (to (spf (.b (decide (F.One = x5.One))) s) ?_)));obtain rfl := sIn J;refine aB (aK rfl ⟨rfl, rfl, rfl, rfl, rfl, trivial⟩ rfl)
       ·refine tm (.b V) ?_;obtain ⟨W, K, h⟩ := bns h;refine aW 6 [1, 3, 4, 5, 6] 72 W ?_ ?_
        ·refine bch K (fun t K => ?_) (fun t K => ?_)
         ·refine tp t (tp t (tp t (tp t (tp t (to (spt Z10 t) ?_)))));obtain rfl := sIn K;refine aB (aK rfl ⟨rfl, rfl, rfl, rfl, rfl, trivial⟩ rfl)
         ·refine tkl 2 t rfl rfl jN rfl aO (tkl 1 t rfl rfl oM rfl aO (tk t (scm rfl rfl rfl) (to (spf (.b (decide (F.Two = x5.One))) t) ?_)));obtain rfl := sIn K;refine aB (aK rfl ⟨rfl, rfl, rfl, rfl, rfl, trivial⟩ rfl)
        ·refine tm (.b W) ?_;obtain ⟨b0, G, h⟩ := bns h;refine aW 18 [1, 3, 4, 5] 91 b0 ?_ ?_
         ·refine bch G (fun n G => ?_) (fun n G => ?_)
          ·refine tp n (tp n (tp n (tp n (tq (tq (tq (tq (tq (tq (tq (tq (tq (tq ?_)))))))))))));refine tq (tq (tp n (to (spt Z10 n) ?_)));obtain rfl := sIn G;refine aB (aK rfl ⟨rfl, rfl, rfl, rfl, trivial⟩ rfl)
          ·refine tkl 1 n rfl rfl jN rfl aO (tk n (scm rfl rfl rfl) (tk n (sm (.b (decide (0 ≤ x5.Two)))) ?_));obtain ⟨X, H, G⟩ := bns G;refine aW 13 [1, 3, 4, 5, 73, 74, 75, 76, 77] 90 X ?_ ?_
           ·refine bch H (fun m H => ?_) (fun m H => ?_)
            ·refine tkl 2 m rfl rfl oM rfl aO (tkl 1 m rfl rfl jN rfl aO (tk m (scm rfl rfl rfl) (tk m (sm (.b (decide (F.One = x5.Two)))) ?_)));obtain ⟨Y, L, H⟩ := bns H;refine aW 6 [1, 3, 4, 5, 73, 74, 75, 76, 77, 78, 79, 80, 81, 82, 83] 89 Y ?_ ?_
             ·refine bch L (fun u L => ?_) (fun u L => ?_)
              ·refine tp u (tp u (tp u (tp u (tp u (tk m (spt Z10 u) ?_)))));obtain rfl := sIn L;refine aB (aK rfl ⟨rfl, rfl, rfl, rfl, rfl, rfl, rfl, rfl, rfl, rfl, rfl, rfl, rfl, rfl, rfl, trivial⟩ rfl)
              ·refine tkl 2 u rfl rfl jN rfl aO (tkl 1 u rfl rfl jN rfl aO (tk u (scm rfl rfl rfl) (tk m (spf (.b (decide (F.Two = x5.Two))) u) ?_)));obtain rfl := sIn L;refine aB (aK rfl ⟨rfl, rfl, rfl, rfl, rfl, rfl, rfl, rfl, rfl, rfl, rfl, rfl, rfl, rfl, rfl, trivial⟩ rfl)
             ·refine tk n (spt (.b Y) m) ?_;obtain rfl := sIn H;refine aB (aK rfl ⟨rfl, rfl, rfl, rfl, rfl, rfl, rfl, rfl, rfl, trivial⟩ rfl)
            ·refine tp m (tp m (tp m (tp m (tp m (tp m (tq (tq (tq (tq (tq (tp m (tk n (spf Z3 m) ?_))))))))))));obtain rfl := sIn H;refine aB (aK rfl ⟨rfl, rfl, rfl, rfl, rfl, rfl, rfl, rfl, rfl, trivial⟩ rfl)
           ·refine to (spf (.b X) n) ?_;obtain rfl := sIn G;refine aB (aK rfl ⟨rfl, rfl, rfl, rfl, trivial⟩ rfl)
         ·refine aB ?_;refine tih h (fun b2 h => ?_) (fun b2 h => ?_)
          ·refine aC (aA (ta Z3 (aB ?_)));obtain rfl := sIn h;refine bL (bC (bE (l := [2]) ⟨rfl, trivial⟩)) ?_;exact rt
          ·refine cL ?_;refine aA (tm (.i q) (to (sar rfl rfl rfl) (ta (.i (w64 (q + 1))) (aB ?_))));exact ⟨(w64 (q + 1)), h, aN [0, 1] rfl rfl (aH rfl (aM ⟨rfl, rfl, rfl, trivial⟩))⟩
      ·refine bQ ?_;refine .inl ⟨rfl, ?_⟩;simp only [rD] at h;simp only [rC] at h;refine aA (tm (.i o) (to (sar rfl rfl rfl) (ta (.i (w64 (o + 1))) (aB ?_))));exact ⟨(w64 (o + 1)), h, aN [0] rfl rfl (aH rfl (aM ⟨rfl, trivial⟩))⟩
 ·refine bQ ?_;refine .inl ⟨rfl, ?_⟩;simp only [kU] at h;refine aC (aC (aA (ta (.i 0) (aB (aX ?_)))));refine bP (S := Int) [1] (fun N => [(7, .i N)]) (fun N => [.box b1 0 (aT a)]) (fun k N => gZ a k N) (fun _ => rfl) (0) h (aN [0] rfl rfl (aH rfl (aM ⟨rfl, trivial⟩))) ?_;rintro c7 e h;simp only [gZ] at h;refine aC (aC (aA (tm (.i e) (to (sf rfl hZ) (tfl 0 rfl rfl eA rfl cD (to (sle rfl bG.of) (to (scm rfl rfl rfl) (aB ?_))))))));refine tih h (fun b3 h => ?_) (fun b3 h => ?_)
  ·refine aU (aC (aX (aC ?_)));obtain ⟨y, Z, h⟩ := bns h;obtain ⟨b4, z, h⟩ := bns h;refine cN mix 18 [1, 7] [(117, .b b4)] ?_ ?_
   ·refine bch z (fun f z => ?_) (fun f z => ?_)
    ·obtain ⟨a0, b5, z⟩ := bns z;obtain ⟨O, b6, z⟩ := bns z;obtain rfl := sIn z;refine ⟨[(100, 0, .bp b1 0 0), (101, 1, .bp b1 0 1), (102, 2, .d (.sl 1 (a.Tree.Slots.map aL))), (103, 3, .i e), (104, 4, .cp [.j y]), (105, 5, .i y), (106, 6, .b (!decide (y = (-1)))), (107, 7, .b (!decide (y = (-1)))), (108, 8, .agg (aT a)), (109, 9, .bp b1 0 0), (110, 10, .bp b1 0 1), (111, 11, .d (.sl 1 (a.Tree.Slots.map aL))), (112, 12, .i e), (113, 13, .cp [.j a0]), (114, 14, .i a0), (115, 15, .b O), (116, 16, .b (!O)), (117, 17, .b (!O))], ?_, ?_⟩
     · exact dk [0, 1, 2, 0, 304, 5, 6, 7, 8, 8, 810, 811, 8, 81213, 814, 80915, 816, 817] ⟨go (zf rfl hZ),
      go (zf rfl eA),
      go (zl 0 rfl rfl rfl cD),
      go (zm (.i e)),
      go (zix rfl rfl bG.of (aV aL Z)),
      go (zlc rfl aO),
      go (zcm rfl rfl rfl),
      go (zm (.b (!decide (y = (-1))))),
      gt f (zla 0 (aT a) rfl rfl eR),
      gt f (zf rfl hZ),
      gt f (zf rfl eA),
      gt f (zl 0 rfl rfl rfl cD),
      gt f (zm (.i e)),
      gt f (zix rfl rfl bG.of (aV aL b5)),
      gt f (zlc rfl aO),
      gt f fun S hS => fW (aF rfl) (.func _ _ Tryz.call86) (ev2 (bF hS rfl) (ev2 (bF hS rfl) evn)) rfl (BVs.refl _ _) (xH _ _ b6) rfl,
      gt f (zn rfl),
      go (zpt (.b (!O)) f), trivial⟩
     · exact cC (aH rfl (aM ⟨rfl, rfl, trivial⟩))
    ·obtain rfl := sIn z;refine ⟨[(100, 0, .bp b1 0 0), (101, 1, .bp b1 0 1), (102, 2, .d (.sl 1 (a.Tree.Slots.map aL))), (103, 3, .i e), (104, 4, .cp [.j y]), (105, 5, .i y), (106, 6, .b (!decide (y = (-1)))), (107, 7, .b (!decide (y = (-1)))), (108, 8, .tup []), (109, 9, .tup []), (110, 10, .tup []), (111, 11, .tup []), (112, 12, .tup []), (113, 13, .tup []), (114, 14, .tup []), (115, 15, .tup []), (116, 16, .tup []), (117, 17, .b false)], ?_, ?_⟩
     · exact dk [0, 1, 2, 0, 304, 5, 6, 7, 8, 8, 810, 811, 8, 81213, 814, 80915, 816, 817] ⟨go (zf rfl hZ),
      go (zf rfl eA),
      go (zl 0 rfl rfl rfl cD),
      go (zm (.i e)),
      go (zix rfl rfl bG.of (aV aL Z)),
      go (zlc rfl aO),
      go (zcm rfl rfl rfl),
      go (zm (.b (!decide (y = (-1))))),
      gp f,
      gp f,
      gp f,
      gp f,
      gp f,
      gp f,
      gp f,
      gp f,
      gp f,
      go (zpf Z3 f), trivial⟩
     · exact cC (aH rfl (aM ⟨rfl, rfl, trivial⟩))
   ·refine aB ?_;refine tih h (fun b8 h => ?_) (fun b8 h => ?_)
    ·refine aC (aA (ta Z3 (aB ?_)));obtain rfl := sIn h;refine bL (bC (bE (l := [2]) ⟨rfl, trivial⟩)) ?_;exact rt
    ·refine cL ?_;refine aA (tm (.i e) (to (sar rfl rfl rfl) (ta (.i (w64 (e + 1))) (aB ?_))));exact ⟨(w64 (e + 1)), h, aN [0] rfl rfl (aH rfl (aM ⟨rfl, trivial⟩))⟩
  ·refine bQ ?_;refine .inl ⟨rfl, ?_⟩;simp only [kV] at h;refine aC (aC (aA (ta (.i 0) (aB (aX ?_)))));refine bP (S := Int) [1] (fun P => [(8, .i P)]) (fun P => [.box b1 0 (aT a)]) (fun k P => hJ a k P) (fun _ => rfl) (0) h (aN [0] rfl rfl (aH rfl (aM ⟨rfl, trivial⟩))) ?_;rintro c8 g h;simp only [hJ] at h;refine aC (aC (aA (tm (.i g) (tfl 0 rfl rfl nF rfl rT (to (sle rfl fO.of) (to (scm rfl rfl rfl) (aB ?_)))))));refine tih h (fun b9 h => ?_) (fun b9 h => ?_)
   ·refine aU (aC (aX (aC ?_)));obtain ⟨c, a1, h⟩ := bns h;obtain ⟨c0, A, h⟩ := bns h;refine cN mix 18 [1, 8] [(142, .b c0)] ?_ ?_
    ·refine bch A (fun j A => ?_) (fun j A => ?_)
     ·obtain ⟨B, c1, A⟩ := bns A;obtain ⟨Q, c2, A⟩ := bns A;obtain rfl := sIn A;refine ⟨[(125, 0, .bp b1 0 2), (126, 1, .d (.sl 5 (a.Slips.map aJ))), (127, 2, .i g), (128, 3, .cp [.j c.Kind, .j c.Round, .j c.Place, .j c.Player, .j c.Old]), (129, 4, .cp [.j c.Kind]), (130, 5, .i c.Kind), (131, 6, .b (decide (c.Kind = 5))), (132, 7, .b (decide (c.Kind = 5))), (133, 8, .agg (aT a)), (134, 9, .bp b1 0 2), (135, 10, .d (.sl 5 (a.Slips.map aJ))), (136, 11, .i g), (137, 12, .cp [.j B.Kind, .j B.Round, .j B.Place, .j B.Player, .j B.Old]), (138, 13, .cp [.j B.Player]), (139, 14, .i B.Player), (140, 15, .b Q), (141, 16, .b (!Q)), (142, 17, .b (!Q))], ?_, ?_⟩
      · exact dk [0, 1, 0, 203, 4, 5, 6, 7, 8, 8, 810, 8, 81112, 813, 814, 80915, 816, 817] ⟨go (zf rfl nF),
      go (zl 0 rfl rfl rfl rT),
      go (zm (.i g)),
      go (zix rfl rfl fO.of (aV aJ a1)),
      go (zfc [.j c.Kind] rfl mF),
      go (zlc rfl aO),
      go (zcm rfl rfl rfl),
      go (zm (.b (decide (c.Kind = 5)))),
      gt j (zla 0 (aT a) rfl rfl eR),
      gt j (zf rfl nF),
      gt j (zl 0 rfl rfl rfl rT),
      gt j (zm (.i g)),
      gt j (zix rfl rfl fO.of (aV aJ c1)),
      gt j (zfc [.j B.Player] rfl nG),
      gt j (zlc rfl aO),
      gt j fun S hS => fW (aF rfl) (.func _ _ Tryz.call86) (ev2 (bF hS rfl) (ev2 (bF hS rfl) evn)) rfl (BVs.refl _ _) (xH _ _ c2) rfl,
      gt j (zn rfl),
      go (zpt (.b (!Q)) j), trivial⟩
      · exact cC (aH rfl (aM ⟨rfl, rfl, trivial⟩))
     ·obtain rfl := sIn A;refine ⟨[(125, 0, .bp b1 0 2), (126, 1, .d (.sl 5 (a.Slips.map aJ))), (127, 2, .i g), (128, 3, .cp [.j c.Kind, .j c.Round, .j c.Place, .j c.Player, .j c.Old]), (129, 4, .cp [.j c.Kind]), (130, 5, .i c.Kind), (131, 6, .b (decide (c.Kind = 5))), (132, 7, .b (decide (c.Kind = 5))), (133, 8, .tup []), (134, 9, .tup []), (135, 10, .tup []), (136, 11, .tup []), (137, 12, .tup []), (138, 13, .tup []), (139, 14, .tup []), (140, 15, .tup []), (141, 16, .tup []), (142, 17, .b false)], ?_, ?_⟩
      · exact dk [0, 1, 0, 203, 4, 5, 6, 7, 8, 8, 810, 8, 81112, 813, 814, 80915, 816, 817] ⟨go (zf rfl nF),
      go (zl 0 rfl rfl rfl rT),
      go (zm (.i g)),
      go (zix rfl rfl fO.of (aV aJ a1)),
      go (zfc [.j c.Kind] rfl mF),
      go (zlc rfl aO),
      go (zcm rfl rfl rfl),
      go (zm (.b (decide (c.Kind = 5)))),
      gp j,
      gp j,
      gp j,
      gp j,
      gp j,
      gp j,
      gp j,
      gp j,
      gp j,
      go (zpf Z3 j), trivial⟩
      · exact cC (aH rfl (aM ⟨rfl, rfl, trivial⟩))
    ·refine aB ?_;refine tih h (fun c3 h => ?_) (fun c3 h => ?_)
     ·refine aC (aA (ta Z3 (aB ?_)));obtain rfl := sIn h;refine bL (bC (bE (l := [2]) ⟨rfl, trivial⟩)) ?_;exact rt
     ·refine cL ?_;refine aA (tm (.i g) (to (sar rfl rfl rfl) (ta (.i (w64 (g + 1))) (aB ?_))));exact ⟨(w64 (g + 1)), h, aN [0] rfl rfl (aH rfl (aM ⟨rfl, trivial⟩))⟩
   ·refine bQ ?_;refine .inl ⟨rfl, ?_⟩;simp only [nN] at h;refine aC (aA (tfl 0 rfl rfl jX rfl oA (to (sle rfl nP.of) (to (scm rfl rfl rfl) (ta (.b (decide ((a.Teams.length : Int) ≤ 64))) (aB ?_))))));obtain rfl := sIn h;refine bL (bC (bE (l := [2]) ⟨rfl, trivial⟩)) ?_;exact rt

theorem zR (g : aP) (a : Int) {r : bR × Bool × Bool} (h : oG g a = some r) : Fn Tryz.prog 15 [.agg (aT g), .i a] (.tup [.agg (bK r.1), .b r.2.1, .b r.2.2]) := by
 unfold oG at h;refine kX Tryz.func15 rfl (rs := [.cell 4 46, .tmp 5, .tmp 6]) Tryz.results15 Tryz.ntmps15 (Nat.le_of_ble_eq_true rfl) ?_;refine aC (aA ?_);refine bB rfl (eB (v := .agg (aT g)) (aF rfl) rfl rfl rfl) ?_;rintro _ ⟨b1, rfl⟩;refine bB rfl (cK (zs := [.j 0, .j 0, .j 0]) (aF rfl) Tryz.zeroValue46 rfl rfl) ?_;rintro _ ⟨b2, rfl⟩;refine ta Z3 (ta Z3 (aB (aC (aC (aA (ta (.i 0) (aB (aX ?_))))))));refine bP (S := Int × bR) [1, 2, 4] (fun s3 => [(7, .i s3.1)]) (fun s3 => [.box b1 0 (aT g), .box b2 0 (bK s3.2)]) (fun k s3 => jW a g k s3.1 s3.2) (fun _ => rfl) (0, (bR.mk 0 0 0)) h (aN [0, 1] rfl rfl (aH rfl (aM ⟨rfl, rfl, rfl, trivial⟩))) ?_;rintro k4 ⟨f, o⟩ h;simp only [jW] at h;refine aC (aC (aA (tm (.i f) (tfl 0 rfl rfl jX rfl oA (to (sle rfl nP.of) (to (scm rfl rfl rfl) (aB ?_)))))));refine tih h (fun c5 h => ?_) (fun c5 h => ?_)
 ·refine aU (aC (aX (aC (aA (tfl 0 rfl rfl jX rfl oA (tm (.i f) ?_))))));obtain ⟨x6, h7, h⟩ := bns h;refine to (six rfl rfl nP.of (aV bK h7)) (to (sfc [.j x6.One] rfl oM) (to (slc rfl aO) (tm (.i a) (to (scm rfl rfl rfl) (tm (.b (decide (x6.One = a))) ?_)))));obtain ⟨b8, h9, h⟩ := bns h;refine aW 13 [1, 2, 4, 7] 36 b8 ?_ ?_
  ·refine bch h9 (fun c h9 => ?_) (fun c h9 => ?_)
   ·refine tp c (tp c (tp c (tp c (tp c (tp c (tp c (tp c (tp c (tq (tq (tp c (to (spt Z10 c) ?_))))))))))));obtain rfl := sIn h9;refine aB (aK rfl ⟨rfl, rfl, rfl, rfl, trivial⟩ rfl)
   ·refine tkl 0 c rfl rfl jX rfl oA (tk c (sm (.i f)) ?_);obtain ⟨p, s, h9⟩ := bns h9;refine tk c (six rfl rfl nP.of (aV bK s)) (tk c (sfc [.j p.Two] rfl jN) (tk c (slc rfl aO) (tk c (sm (.i a)) (tk c (scm rfl rfl rfl) (tk c (sm (.b (decide (p.Two = a)))) ?_)))));obtain ⟨q, n, h9⟩ := bns h9;refine aW 3 [1, 2, 4, 7, 23, 24, 25, 26, 27, 28, 29, 30, 31, 32] 35 q ?_ ?_
    ·refine bch n (fun m n => ?_) (fun m n => ?_)
     ·refine tk m (sm (.i a)) (tk m (scm rfl rfl rfl) (tk c (spt (.b (decide (0 ≤ a))) m) ?_));obtain rfl := sIn n;refine aB (aK rfl ⟨rfl, rfl, rfl, rfl, rfl, rfl, rfl, rfl, rfl, rfl, rfl, rfl, rfl, rfl, trivial⟩ rfl)
     ·refine tp m (tp m (tk c (spf Z3 m) ?_));obtain rfl := sIn n;refine aB (aK rfl ⟨rfl, rfl, rfl, rfl, rfl, rfl, rfl, rfl, rfl, rfl, rfl, rfl, rfl, rfl, trivial⟩ rfl)
    ·refine to (spf (.b q) c) ?_;obtain rfl := sIn h9;refine aB (aK rfl ⟨rfl, rfl, rfl, rfl, trivial⟩ rfl)
  ·refine aB ?_;refine tih h (fun t h => ?_) (fun t h => ?_)
   ·refine aC ?_;obtain ⟨j, u, h⟩ := bns h;obtain ⟨l, x, h⟩ := bns h;refine vD mix 14 [4] (fun e => [(49, .b (decide (l.Two = a)))]) (fun e => [.box b1 0 (aT g), .box b2 0 (bK j)]) ?_ ?_
    ·refine ⟨0, fun e => [(37, 0, .bp b1 0 5), (38, 1, .d (.sl 3 (g.Teams.map bK))), (39, 2, .i f), (40, 3, .cp [.j j.Player, .j j.One, .j j.Two]), (41, 4, .agg (bK j)), (42, 5, .bp b1 0 5), (43, 6, .d (.sl 3 (g.Teams.map bK))), (44, 7, .i f), (45, 8, .cp [.j l.Player, .j l.One, .j l.Two]), (46, 9, .cp [.j l.Two]), (47, 10, .i l.Two), (48, 11, .i a), (49, 12, .b (decide (l.Two = a)))], fun e => [([], .box b1 0 (aT g)), ([(13, .box b2 0 (bK j))], .box b2 0 (bK o))], ?_, ?_⟩
     · exact xok [(0, 14), (1, 14), (0, 14), (203, 14), (4, 14), (0, 0), (6, 0), (0, 0), (708, 0), (9, 0), (10, 0), (0, 0), (1112, 0), (5, 0)] ⟨fun e S w _ k => xp w (yf k rfl jX),
      fun e S w _ k => xp w (yl k 0 rfl (og k rfl rfl) rfl oA),
      fun e S w _ k => xp w (ym k (.i f)),
      fun e S w _ k => xp w (yix k rfl rfl nP.of (aV bK u)),
      fun e S w _ k => xp w (bBl k (bK j) rfl uB),
      fun e S w _ k => xp w (yf k rfl jX),
      fun e S w _ k => xp w (yl k 0 rfl (og k rfl rfl) rfl oA),
      fun e S w _ k => xp w (ym k (.i f)),
      fun e S w _ k => xp w (yix k rfl rfl nP.of (aV bK x)),
      fun e S w _ k => xp w (yfc k [.j l.Two] rfl jN),
      fun e S w _ k => xp w (ylc k rfl aO),
      fun e S w _ k => xp w (ym k (.i a)),
      fun e S w _ k => xp w (ycm k rfl rfl rfl),
      fun e S w _ k => xs 1 k rfl rfl (aMb (i := 1) (bF k rfl) (og k rfl rfl) (bF k rfl) rfl rfl Tryz.sizeOf46 rfl (aF rfl) (Nat.le_of_ble_eq_true rfl) (ds' := (bK j)) rfl), trivial⟩
     · exact fun e => cC (aH rfl (aM ⟨rfl, trivial⟩))
    ·intro e;refine ta (.b (decide (l.Two = a))) (ta Z10 (aB ?_));obtain rfl := sIn h;exact cI ⟨rfl, _, [.box b1 0 (aT g), .box b2 0 (bK j)], .three (.cell 4 46 rfl (i := 1) rfl uB (es := (bK j)) rfl rfl) (.tmp 5 (v := .b (decide (l.Two = a))) rfl) (.tmp 6 (v := .b true) rfl), .refl _, .same _⟩
   ·refine cL ?_;refine aA (tm (.i f) (to (sar rfl rfl rfl) (ta (.i (w64 (f + 1))) (aB ?_))));exact ⟨(w64 (f + 1), o), h, aN [0, 1] rfl rfl (aH rfl (aM ⟨rfl, rfl, rfl, trivial⟩))⟩
 ·refine bQ ?_;refine .inl ⟨rfl, ?_⟩;simp only [yZ] at h;refine aC (aA (to (dZ (aF rfl) aIf (zs := [.j 0, .j 0, .j 0]) rfl rfl rfl rfl (es := [.j 0, .j 0, .j 0]) rfl) ?_));refine to (sst 1 rfl rfl Tryz.sizeOf46 (bK (bR.mk 0 0 0))) (ta Z3 (ta Z3 (aB ?_)));obtain rfl := sIn h;exact cI ⟨rfl, _, [.box b1 0 (aT g), .box b2 0 (bK (bR.mk 0 0 0))], .three (.cell 4 46 rfl (i := 1) rfl uB (es := (bK (bR.mk 0 0 0))) rfl rfl) (.tmp 5 (v := .b false) rfl) (.tmp 6 (v := .b false) rfl), .refl _, .same _⟩

theorem lS (c : aP) (a : Int) {r : Bool} (h : iJ c a = some r) : Fn Tryz.prog 11 [.agg (aT c), .i a] (.b r) := by
 unfold iJ at h;refine oT [.tmp 4] Tryz.func11 Tryz.results11 Tryz.ntmps11 ?_;refine aC (aA ?_);refine bB rfl (eB (v := .agg (aT c)) (aF rfl) rfl rfl rfl) ?_;rintro _ ⟨b1, rfl⟩;refine ta Z3 (aB (aC (aA (to (sla 0 (aT c) rfl rfl eR) (tm (.i a) ?_)))));obtain ⟨r2, h3, h⟩ := bns h;refine to (eY (aF rfl) (.func _ _ Tryz.call15) rfl rfl (zR _ _ h3)) ?_;refine tm (.tup [.agg (bK r2.1), .b r2.2.1, .b r2.2.2]) (to (sex rfl rfl) (to (sex rfl rfl) (to (sex rfl rfl) ?_)));refine bB rfl (cK (zs := [.j 0, .j 0, .j 0]) (aF rfl) Tryz.zeroValue46 rfl rfl) ?_;rintro _ ⟨b4, rfl⟩;refine to (sst 1 rfl rfl Tryz.sizeOf46 (bK r2.1)) (ta (.b r2.2.1) (ta (.b r2.2.2) (aB (aC (aA (tm (.b r2.2.2) (tm (.b r2.2.2) ?_)))))));obtain ⟨b5, h6, h⟩ := bns h;refine aW 3 [] 19 b5 ?_ ?_
 ·refine bch h6 (fun c7 h6 => ?_) (fun c7 h6 => ?_)
  ·refine tk c7 (sm (.i a)) (tk c7 (scm rfl rfl rfl) (to (spt (.b (decide (0 ≤ a))) c7) ?_));obtain rfl := sIn h6;refine aB (aK rfl trivial rfl)
  ·refine tp c7 (tp c7 (to (spf Z3 c7) ?_));obtain rfl := sIn h6;refine aB (aK rfl trivial rfl)
 ·refine ta (.b b5) (aB ?_);obtain rfl := sIn h;refine bL (bC (bE (l := [4]) ⟨rfl, trivial⟩)) ?_;exact rt

theorem aDc (a : aP) {r : Bool} (h : mX a = some r) : Fn Tryz.prog 52 (Z32 a) (.b r) := by
 unfold mX at h;refine oT [.tmp 2] Tryz.func52 Tryz.results52 Tryz.ntmps52 ?_;refine aC (aA ?_);refine bB rfl (eB (v := .agg (aT a)) (aF rfl) rfl rfl rfl) ?_;rintro _ ⟨b1, rfl⟩;refine ta Z3 (aB (aC (aC (aA (ta (.i 0) (aB (aX ?_)))))));refine bP (S := Int) [1] (fun s2 => [(3, .i s2)]) (fun s2 => [.box b1 0 (aT a)]) (fun k s2 => dI a k s2) (fun _ => rfl) (0) h (aN [0] rfl rfl (aH rfl (aM ⟨rfl, trivial⟩))) ?_;rintro k3 c h;simp only [dI] at h;refine aC (aC (aA (tm (.i c) (tfl 0 rfl rfl sS rfl xL (to (sle rfl wA.of) (to (scm rfl rfl rfl) (aB ?_)))))));refine tih h (fun c4 h => ?_) (fun c4 h => ?_)
 ·refine aU (aC (aX (aC (aC ?_))));obtain ⟨x5, h6, h⟩ := bns h;obtain ⟨r7, h8, h⟩ := bns h;obtain ⟨b9, o, h⟩ := bns h;refine cN mix 19 [1, 3] [(33, .b b9)] ?_ ?_
  ·refine bch o (fun e o => ?_) (fun e o => ?_)
   ·obtain rfl := sIn o;refine ⟨[(15, 0, .agg (aT a)), (16, 1, .bp b1 0 6), (17, 2, .d (Z28 a)), (18, 3, .i c), (19, 4, .cp [.j x5.Person, .j x5.Mille]), (20, 5, .cp [.j x5.Person]), (21, 6, .i x5.Person), (22, 7, .b r7), (23, 8, .b (!r7)), (24, 9, .b (!r7)), (25, 10, .tup []), (26, 11, .tup []), (27, 12, .tup []), (28, 13, .tup []), (29, 14, .tup []), (30, 15, .tup []), (31, 16, .tup []), (32, 17, .tup []), (33, 18, .b true)], ?_, ?_⟩
    · exact dk [0, 0, 2, 0, 304, 5, 6, 107, 8, 9, 10, 1011, 10, 101213, 1014, 1015, 1016, 1017, 1018] ⟨go (zla 0 (aT a) rfl rfl eR),
      go (zf rfl sS),
      go (zl 0 rfl rfl rfl xL),
      go (zm (.i c)),
      go (zix rfl rfl wA.of (aV cX h6)),
      go (zfc [.j x5.Person] rfl yJ),
      go (zlc rfl aO),
      go fun S hS => fW (aF rfl) (.func _ _ Tryz.call11) (ev2 (bF hS rfl) (ev2 (bF hS rfl) evn)) rfl (BVs.refl _ _) (lS _ _ h8) rfl,
      go (zn rfl),
      go (zm (.b (!r7))),
      gp e,
      gp e,
      gp e,
      gp e,
      gp e,
      gp e,
      gp e,
      gp e,
      go (zpt Z10 e), trivial⟩
    · exact cC (aH rfl (aM ⟨rfl, rfl, trivial⟩))
   ·obtain ⟨x, F, o⟩ := bns o;obtain ⟨y, G, o⟩ := bns o;obtain rfl := sIn o;refine ⟨[(15, 0, .agg (aT a)), (16, 1, .bp b1 0 6), (17, 2, .d (Z28 a)), (18, 3, .i c), (19, 4, .cp [.j x5.Person, .j x5.Mille]), (20, 5, .cp [.j x5.Person]), (21, 6, .i x5.Person), (22, 7, .b r7), (23, 8, .b (!r7)), (24, 9, .b (!r7)), (25, 10, .bp b1 0 6), (26, 11, .d (Z28 a)), (27, 12, .i c), (28, 13, .cp [.j x.Person, .j x.Mille]), (29, 14, .cp [.j x.Mille]), (30, 15, .i x.Mille), (31, 16, .b y), (32, 17, .b (!y)), (33, 18, .b (!y))], ?_, ?_⟩
    · exact dk [0, 0, 2, 0, 304, 5, 6, 107, 8, 9, 10, 1011, 10, 101213, 1014, 1015, 1016, 1017, 1018] ⟨go (zla 0 (aT a) rfl rfl eR),
      go (zf rfl sS),
      go (zl 0 rfl rfl rfl xL),
      go (zm (.i c)),
      go (zix rfl rfl wA.of (aV cX h6)),
      go (zfc [.j x5.Person] rfl yJ),
      go (zlc rfl aO),
      go fun S hS => fW (aF rfl) (.func _ _ Tryz.call11) (ev2 (bF hS rfl) (ev2 (bF hS rfl) evn)) rfl (BVs.refl _ _) (lS _ _ h8) rfl,
      go (zn rfl),
      go (zm (.b (!r7))),
      gt e (zf rfl sS),
      gt e (zl 0 rfl rfl rfl xL),
      gt e (zm (.i c)),
      gt e (zix rfl rfl wA.of (aV cX F)),
      gt e (zfc [.j x.Mille] rfl aJw),
      gt e (zlc rfl aO),
      gt e fun S hS => fW (aF rfl) (.func _ _ Tryz.call50) (ev2 (bF hS rfl) (ev2 rfl (ev2 rfl evn))) rfl (BVs.refl _ _) (dY _ _ _ G) rfl,
      gt e (zn rfl),
      go (zpf (.b (!y)) e), trivial⟩
    · exact cC (aH rfl (aM ⟨rfl, rfl, trivial⟩))
  ·refine aB ?_;refine tih h (fun H h => ?_) (fun H h => ?_)
   ·refine aC (aA (ta Z3 (aB ?_)));obtain rfl := sIn h;refine bL (bC (bE (l := [2]) ⟨rfl, trivial⟩)) ?_;exact rt
   ·refine aU (aC (aA (ta (.i 0) (aB ?_))));refine tN ?_;refine bP (S := Int) [1, 3] (fun z => [(4, .i z)]) (fun z => [.box b1 0 (aT a)]) (fun k z => fS (dI a k3) c a k z) (fun _ => rfl) (0) h (aN [0] rfl rfl (aH rfl (aM ⟨rfl, rfl, trivial⟩))) ?_;rintro a2 g h;simp only [fS] at h;refine aC (aC (aA (tm (.i g) (tm (.i c) (to (scm rfl rfl rfl) (aB ?_))))));refine tih h (fun I h => ?_) (fun I h => ?_)
    ·refine aU (aC (aX (aC ?_)));obtain ⟨t, J, h⟩ := bns h;obtain ⟨u, K, h⟩ := bns h;refine cN mix 12 [1, 3, 4] [(44, .i t.Person), (50, .i u.Person)] ?_ ?_
     ·refine ⟨[(39, 0, .bp b1 0 6), (40, 1, .d (Z28 a)), (41, 2, .i g), (42, 3, .cp [.j t.Person, .j t.Mille]), (43, 4, .cp [.j t.Person]), (44, 5, .i t.Person), (45, 6, .bp b1 0 6), (46, 7, .d (Z28 a)), (47, 8, .i c), (48, 9, .cp [.j u.Person, .j u.Mille]), (49, 10, .cp [.j u.Person]), (50, 11, .i u.Person)], ?_, ?_⟩
      · exact dk [0, 1, 0, 203, 4, 5, 0, 7, 0, 809, 10, 11] ⟨go (zf rfl sS),
      go (zl 0 rfl rfl rfl xL),
      go (zm (.i g)),
      go (zix rfl rfl wA.of (aV cX J)),
      go (zfc [.j t.Person] rfl yJ),
      go (zlc rfl aO),
      go (zf rfl sS),
      go (zl 0 rfl rfl rfl xL),
      go (zm (.i c)),
      go (zix rfl rfl wA.of (aV cX K)),
      go (zfc [.j u.Person] rfl yJ),
      go (zlc rfl aO), trivial⟩
      · exact cC (aH rfl (aH rfl (aM ⟨rfl, rfl, rfl, trivial⟩)))
     ·refine to (scm rfl rfl rfl) (aB ?_);refine tih h (fun L h => ?_) (fun L h => ?_)
      ·refine aC (aA (ta Z3 (aB ?_)));obtain rfl := sIn h;refine bL (bC (bE (l := [2]) ⟨rfl, trivial⟩)) ?_;exact rt
      ·refine cL ?_;refine aA (tm (.i g) (to (sar rfl rfl rfl) (ta (.i (w64 (g + 1))) (aB ?_))));exact ⟨(w64 (g + 1)), h, aN [0] rfl rfl (aH rfl (aM ⟨rfl, rfl, trivial⟩))⟩
    ·refine bQ ?_;refine .inl ⟨rfl, ?_⟩;simp only [qY] at h;simp only [qX] at h;refine aA (tm (.i c) (to (sar rfl rfl rfl) (ta (.i (w64 (c + 1))) (aB ?_))));exact ⟨(w64 (c + 1)), h, aN [0] rfl rfl (aH rfl (aM ⟨rfl, trivial⟩))⟩
 ·refine bQ ?_;refine .inl ⟨rfl, ?_⟩;simp only [kT] at h;refine aC (aC (aA (ta (.i 0) (aB (aX ?_)))));refine bP (S := Int) [1] (fun A => [(5, .i A)]) (fun A => [.box b1 0 (aT a)]) (fun k A => dJ a k A) (fun _ => rfl) (0) h (aN [0] rfl rfl (aH rfl (aM ⟨rfl, trivial⟩))) ?_;rintro M f h;simp only [dJ] at h;refine aC (aC (aA (tm (.i f) (tfl 0 rfl rfl yD rfl aDj (to (sle rfl aAg.of) (to (scm rfl rfl rfl) (aB ?_)))))));refine tih h (fun N h => ?_) (fun N h => ?_)
  ·refine aU (aC (aX (aC (aA (tfl 0 rfl rfl yD rfl aDj (tm (.i f) ?_))))));obtain ⟨w, O, h⟩ := bns h;refine to (six rfl rfl aAg.of (aV dO O)) (to (qF (dO w) rfl aKm) ?_);refine bB rfl (cK (zs := [.j 0, .j 0, .j 0]) (aF rfl) Tryz.zeroValue80 rfl rfl) ?_;rintro _ ⟨C, rfl⟩;refine to (sst 1 rfl rfl Tryz.sizeOf80 (dO w)) (aB (aC (aC (aA (to (sla 0 (aT a) rfl rfl eR) (tfl 1 rfl rfl yK rfl aO ?_))))));obtain ⟨P, Q, h⟩ := bns h;refine to (scr Tryz.call11 (lS _ _ Q)) (to (sn rfl) (tm (.b (!P)) ?_));obtain ⟨E, p, h⟩ := bns h;refine aW 5 [1, 5, 6] 74 E ?_ ?_
   ·refine bch p (fun m p => ?_) (fun m p => ?_)
    ·refine tp m (tp m (tp m (tp m (to (spt Z10 m) ?_))));obtain rfl := sIn p;refine aB (aK rfl ⟨rfl, rfl, rfl, trivial⟩ rfl)
    ·refine tkl 1 m rfl rfl aEe rfl aO ?_;obtain ⟨T, U, p⟩ := bns p;refine tk m (scr Tryz.call50 (dY _ _ _ U)) (tk m (sn rfl) (to (spf (.b (!T)) m) ?_));obtain rfl := sIn p;refine aB (aK rfl ⟨rfl, rfl, rfl, trivial⟩ rfl)
   ·refine tm (.b E) ?_;obtain ⟨V, q, h⟩ := bns h;refine aW 5 [1, 5, 6] 80 V ?_ ?_
    ·refine bch q (fun n q => ?_) (fun n q => ?_)
     ·refine tp n (tp n (tp n (tp n (to (spt Z10 n) ?_))));obtain rfl := sIn q;refine aB (aK rfl ⟨rfl, rfl, rfl, trivial⟩ rfl)
     ·refine tkl 1 n rfl rfl aJx rfl aO ?_;obtain ⟨W, X, q⟩ := bns q;refine tk n (scr Tryz.call50 (dY _ _ _ X)) (tk n (sn rfl) (to (spf (.b (!W)) n) ?_));obtain rfl := sIn q;refine aB (aK rfl ⟨rfl, rfl, rfl, trivial⟩ rfl)
    ·refine aB ?_;refine tih h (fun Y h => ?_) (fun Y h => ?_)
     ·refine aC (aA (ta Z3 (aB ?_)));obtain rfl := sIn h;refine bL (bC (bE (l := [2]) ⟨rfl, trivial⟩)) ?_;exact rt
     ·refine aU (aC (aA (ta (.i 0) (aB ?_))));refine tN ?_;refine bP (S := Int) [1, 5, 6] (fun B => [(7, .i B)]) (fun B => [.box b1 0 (aT a), .box C 0 (dO w)]) (fun k B => fT (dJ a M) f a w k B) (fun _ => rfl) (0) h (aN [0, 1] rfl rfl (aH rfl (aM ⟨rfl, rfl, rfl, trivial⟩))) ?_;rintro a3 j h;simp only [fT] at h;refine aC (aC (aA (tm (.i j) (tm (.i f) (to (scm rfl rfl rfl) (aB ?_))))));refine tih h (fun Z h => ?_) (fun Z h => ?_)
      ·refine aU (aC (aX (aC ?_)));obtain ⟨s, a0, h⟩ := bns h;refine cN mix 8 [1, 5, 6, 7] [(91, .i s.Person), (93, .i w.Person)] ?_ ?_
       ·refine ⟨[(86, 0, .bp b1 0 7), (87, 1, .d (.sl 3 (a.Rates.map dO))), (88, 2, .i j), (89, 3, .cp [.j s.Person, .j s.Num, .j s.Den]), (90, 4, .cp [.j s.Person]), (91, 5, .i s.Person), (92, 6, .bp C 0 0), (93, 7, .i w.Person)], ?_, ?_⟩
        · exact dk [0, 1, 0, 203, 4, 5, 0, 7] ⟨go (zf rfl yD),
      go (zl 0 rfl rfl rfl aDj),
      go (zm (.i j)),
      go (zix rfl rfl aAg.of (aV dO a0)),
      go (zfc [.j s.Person] rfl yK),
      go (zlc rfl aO),
      go (zf rfl yK),
      go (zl 1 rfl rfl rfl aO), trivial⟩
        · exact cC (aH rfl (aH rfl (aM ⟨rfl, rfl, rfl, rfl, trivial⟩)))
       ·refine to (scm rfl rfl rfl) (aB ?_);refine tih h (fun a1 h => ?_) (fun a1 h => ?_)
        ·refine aC (aA (ta Z3 (aB ?_)));obtain rfl := sIn h;refine bL (bC (bE (l := [2]) ⟨rfl, trivial⟩)) ?_;exact rt
        ·refine cL ?_;refine aA (tm (.i j) (to (sar rfl rfl rfl) (ta (.i (w64 (j + 1))) (aB ?_))));exact ⟨(w64 (j + 1)), h, aN [0, 1] rfl rfl (aH rfl (aM ⟨rfl, rfl, rfl, trivial⟩))⟩
      ·refine bQ ?_;refine .inl ⟨rfl, ?_⟩;simp only [rB] at h;simp only [rA] at h;refine aA (tm (.i f) (to (sar rfl rfl rfl) (ta (.i (w64 (f + 1))) (aB ?_))));exact ⟨(w64 (f + 1)), h, aN [0] rfl rfl (aH rfl (aM ⟨rfl, trivial⟩))⟩
  ·refine bQ ?_;refine .inl ⟨rfl, ?_⟩;simp only [qZ] at h;refine aC (aA (ta Z10 (aB ?_)));obtain rfl := sIn h;refine bL (bC (bE (l := [2]) ⟨rfl, trivial⟩)) ?_;exact rt

theorem aDb (j : aP) {r : Bool} (h : mW j = some r) : Fn Tryz.prog 53 (Z32 j) (.b r) := by
 unfold mW at h;refine oT [.tmp 2] Tryz.func53 Tryz.results53 Tryz.ntmps53 ?_;refine aC (aA ?_);refine bB rfl (eB (v := .agg (aT j)) (aF rfl) rfl rfl rfl) ?_;rintro _ ⟨b1, rfl⟩;refine ta Z3 (aB (aC (aC (aA (ta (.i 0) (aB (aX ?_)))))));refine bP (S := Int) [1] (fun s2 => [(3, .i s2)]) (fun s2 => [.box b1 0 (aT j)]) (fun k s2 => dH j k s2) (fun _ => rfl) (0) h (aN [0] rfl rfl (aH rfl (aM ⟨rfl, trivial⟩))) ?_;rintro k3 n h;simp only [dH] at h;refine aC (aC (aA (tm (.i n) (tfl 0 rfl rfl pW rfl uV (to (sle rfl dA.of) (to (scm rfl rfl rfl) (aB ?_)))))));refine tih h (fun c4 h => ?_) (fun c4 h => ?_)
 ·refine aU (aC (aX (aC (aA (tfl 0 rfl rfl pW rfl uV (tm (.i n) ?_))))));obtain ⟨x5, h6, h⟩ := bns h;refine to (six rfl rfl dA.of (aV aD h6)) (to (qF (aD x5) rfl gO) ?_);refine bB rfl (cK (zs := [.j 0, .j 0, .j 0, .j 0]) (aF rfl) Tryz.zeroValue76 rfl rfl) ?_;rintro _ ⟨b7, rfl⟩;refine to (sst 1 rfl rfl Tryz.sizeOf76 (aD x5)) (aB (aC (aC (aA (tfl 1 rfl rfl nH rfl aO ?_)))));obtain ⟨r8, h9, h⟩ := bns h;refine to (scr Tryz.call50 (dY _ _ _ h9)) (to (sn rfl) (tm (.b (!r8)) ?_));obtain ⟨B, u, h⟩ := bns h;refine aW 6 [1, 3, 4] 28 B ?_ ?_
  ·refine bch u (fun o u => ?_) (fun o u => ?_)
   ·refine tp o (tp o (tp o (tp o (tp o (to (spt Z10 o) ?_)))));obtain rfl := sIn u;refine aB (aK rfl ⟨rfl, rfl, rfl, trivial⟩ rfl)
   ·refine tk o (sla 0 (aT j) rfl rfl eR) (tkl 1 o rfl rfl aEd rfl aO ?_);obtain ⟨H, I, u⟩ := bns u;refine tk o (scr Tryz.call11 (lS _ _ I)) (tk o (sn rfl) (to (spf (.b (!H)) o) ?_));obtain rfl := sIn u;refine aB (aK rfl ⟨rfl, rfl, rfl, trivial⟩ rfl)
  ·refine tm (.b B) ?_;obtain ⟨J, q, h⟩ := bns h;refine aW 20 [1, 3, 4] 49 J ?_ ?_
   ·refine bch q (fun e q => ?_) (fun e q => ?_)
    ·refine tp e (tp e (tp e (tp e (tq (tq (tq (tp e (tp e (tq (tq (tq (tq (tq ?_)))))))))))));refine tq (tq (tq (tp e (tp e (to (spt Z10 e) ?_)))));obtain rfl := sIn q;refine aB (aK rfl ⟨rfl, rfl, rfl, trivial⟩ rfl)
    ·refine tkl 1 e rfl rfl uP rfl aO (tk e (scm rfl rfl rfl) (tk e (sm (.b (decide (x5.Kind = 1)))) ?_));obtain ⟨C, w, q⟩ := bns q;refine aW 4 [1, 3, 4, 29, 30, 31, 32, 33] 37 C ?_ ?_
     ·refine bch w (fun s w => ?_) (fun s w => ?_)
      ·refine tkl 1 s rfl rfl yI rfl aO ?_;obtain ⟨K, L, w⟩ := bns w;refine tk s (scr Tryz.call50 (dY _ _ _ L)) (tk e (spt (.b K) s) ?_);obtain rfl := sIn w;refine aB (aK rfl ⟨rfl, rfl, rfl, rfl, rfl, rfl, rfl, rfl, trivial⟩ rfl)
      ·refine tp s (tp s (tp s (tk e (spf Z3 s) ?_)));obtain rfl := sIn w;refine aB (aK rfl ⟨rfl, rfl, rfl, rfl, rfl, rfl, rfl, rfl, trivial⟩ rfl)
     ·refine tk e (sm (.b C)) ?_;obtain ⟨E, x, q⟩ := bns q;refine aW 9 [1, 3, 4, 29, 30, 31, 32, 33, 37, 38] 47 E ?_ ?_
      ·refine bch x (fun m x => ?_) (fun m x => ?_)
       ·refine tp m (tp m (tp m (tp m (tq (tq (tq (tp m (tk e (spt Z10 m) ?_))))))));obtain rfl := sIn x;refine aB (aK rfl ⟨rfl, rfl, rfl, rfl, rfl, rfl, rfl, rfl, rfl, rfl, trivial⟩ rfl)
       ·refine tkl 1 m rfl rfl uP rfl aO (tk m (scm rfl rfl rfl) (tk m (sm (.b (decide (x5.Kind = 2)))) ?_));obtain ⟨F, y, x⟩ := bns x;refine aW 4 [1, 3, 4, 29, 30, 31, 32, 33, 37, 38, 39, 40, 41, 42] 46 F ?_ ?_
        ·refine bch y (fun t y => ?_) (fun t y => ?_)
         ·refine tkl 1 t rfl rfl yI rfl aO ?_;obtain ⟨M, N, y⟩ := bns y;refine tk t (scr Tryz.call50 (dY _ _ _ N)) (tk m (spt (.b M) t) ?_);obtain rfl := sIn y;refine aB (aK rfl ⟨rfl, rfl, rfl, rfl, rfl, rfl, rfl, rfl, rfl, rfl, rfl, rfl, rfl, rfl, trivial⟩ rfl)
         ·refine tp t (tp t (tp t (tk m (spf Z3 t) ?_)));obtain rfl := sIn y;refine aB (aK rfl ⟨rfl, rfl, rfl, rfl, rfl, rfl, rfl, rfl, rfl, rfl, rfl, rfl, rfl, rfl, trivial⟩ rfl)
        ·refine tk e (spf (.b F) m) ?_;obtain rfl := sIn x;refine aB (aK rfl ⟨rfl, rfl, rfl, rfl, rfl, rfl, rfl, rfl, rfl, rfl, trivial⟩ rfl)
      ·refine tk e (sn rfl) (to (spf (.b (!E)) e) ?_);obtain rfl := sIn q;refine aB (aK rfl ⟨rfl, rfl, rfl, trivial⟩ rfl)
   ·refine aB ?_;refine tih h (fun O h => ?_) (fun O h => ?_)
    ·refine aC (aA (ta Z3 (aB ?_)));obtain rfl := sIn h;refine bL (bC (bE (l := [2]) ⟨rfl, trivial⟩)) ?_;exact rt
    ·refine aU (aC (aA (ta (.i 0) (aB ?_))));refine tN ?_;refine bP (S := Int) [1, 3, 4] (fun A => [(5, .i A)]) (fun A => [.box b1 0 (aT j), .box b7 0 (aD x5)]) (fun k A => fR (dH j k3) n j x5 k A) (fun _ => rfl) (0) h (aN [0, 1] rfl rfl (aH rfl (aM ⟨rfl, rfl, rfl, trivial⟩))) ?_;rintro V c h;simp only [fR] at h;refine aC (aC (aA (tm (.i c) (tm (.i n) (to (scm rfl rfl rfl) (aB ?_))))));refine tih h (fun P h => ?_) (fun P h => ?_)
     ·refine aU (aC (aX (aC ?_)));obtain ⟨f, G, h⟩ := bns h;obtain ⟨Q, z, h⟩ := bns h;refine cN mix 18 [1, 3, 4, 5] [(72, .b Q)] ?_ ?_
      ·refine bch z (fun g z => ?_) (fun g z => ?_)
       ·obtain ⟨p, T, z⟩ := bns z;obtain rfl := sIn z;refine ⟨[(55, 0, .bp b1 0 8), (56, 1, .d (.sl 4 (j.Items.map aD))), (57, 2, .i c), (58, 3, .cp [.j f.Id, .j f.Kind, .j f.Person, .j f.Amount]), (59, 4, .cp [.j f.Id]), (60, 5, .i f.Id), (61, 6, .bp b7 0 0), (62, 7, .i x5.Id), (63, 8, .b (decide (f.Id = x5.Id))), (64, 9, .b (decide (f.Id = x5.Id))), (65, 10, .bp b1 0 8), (66, 11, .d (.sl 4 (j.Items.map aD))), (67, 12, .i c), (68, 13, .cp [.j p.Id, .j p.Kind, .j p.Person, .j p.Amount]), (69, 14, .agg (aD p)), (70, 15, .agg (aD x5)), (71, 16, .b (!decide (p = x5))), (72, 17, .b (!decide (p = x5)))], ?_, ?_⟩
        · exact dk [0, 1, 0, 203, 4, 5, 0, 7, 608, 9, 10, 1011, 10, 101213, 1014, 10, 101516, 1017] ⟨go (zf rfl pW),
      go (zl 0 rfl rfl rfl uV),
      go (zm (.i c)),
      go (zix rfl rfl dA.of (aV aD G)),
      go (zfc [.j f.Id] rfl nH),
      go (zlc rfl aO),
      go (zf rfl nH),
      go (zl 1 rfl rfl rfl aO),
      go (zcm rfl rfl rfl),
      go (zm (.b (decide (f.Id = x5.Id)))),
      gt g (zf rfl pW),
      gt g (zl 0 rfl rfl rfl uV),
      gt g (zm (.i c)),
      gt g (zix rfl rfl dA.of (aV aD T)),
      gt g (aYb (aD p) rfl gO),
      gt g (zla 1 (aD x5) rfl rfl gO),
      gt g fun S hS => aIo (a := p) (b := x5) (aF rfl) (bF hS rfl) (bF hS rfl) rfl rfl Tryz.eqGuardType76 aKx,
      go (zpt (.b (!decide (p = x5))) g), trivial⟩
        · exact cC (aH rfl (aM ⟨rfl, rfl, rfl, rfl, trivial⟩))
       ·obtain rfl := sIn z;refine ⟨[(55, 0, .bp b1 0 8), (56, 1, .d (.sl 4 (j.Items.map aD))), (57, 2, .i c), (58, 3, .cp [.j f.Id, .j f.Kind, .j f.Person, .j f.Amount]), (59, 4, .cp [.j f.Id]), (60, 5, .i f.Id), (61, 6, .bp b7 0 0), (62, 7, .i x5.Id), (63, 8, .b (decide (f.Id = x5.Id))), (64, 9, .b (decide (f.Id = x5.Id))), (65, 10, .tup []), (66, 11, .tup []), (67, 12, .tup []), (68, 13, .tup []), (69, 14, .tup []), (70, 15, .tup []), (71, 16, .tup []), (72, 17, .b false)], ?_, ?_⟩
        · exact dk [0, 1, 0, 203, 4, 5, 0, 7, 608, 9, 10, 1011, 10, 101213, 1014, 10, 101516, 1017] ⟨go (zf rfl pW),
      go (zl 0 rfl rfl rfl uV),
      go (zm (.i c)),
      go (zix rfl rfl dA.of (aV aD G)),
      go (zfc [.j f.Id] rfl nH),
      go (zlc rfl aO),
      go (zf rfl nH),
      go (zl 1 rfl rfl rfl aO),
      go (zcm rfl rfl rfl),
      go (zm (.b (decide (f.Id = x5.Id)))),
      gp g,
      gp g,
      gp g,
      gp g,
      gp g,
      gp g,
      gp g,
      go (zpf Z3 g), trivial⟩
        · exact cC (aH rfl (aM ⟨rfl, rfl, rfl, rfl, trivial⟩))
      ·refine aB ?_;refine tih h (fun U h => ?_) (fun U h => ?_)
       ·refine aC (aA (ta Z3 (aB ?_)));obtain rfl := sIn h;refine bL (bC (bE (l := [2]) ⟨rfl, trivial⟩)) ?_;exact rt
       ·refine cL ?_;refine aA (tm (.i c) (to (sar rfl rfl rfl) (ta (.i (w64 (c + 1))) (aB ?_))));exact ⟨(w64 (c + 1)), h, aN [0, 1] rfl rfl (aH rfl (aM ⟨rfl, rfl, rfl, trivial⟩))⟩
     ·refine bQ ?_;refine .inl ⟨rfl, ?_⟩;simp only [qW] at h;simp only [qV] at h;refine aA (tm (.i n) (to (sar rfl rfl rfl) (ta (.i (w64 (n + 1))) (aB ?_))));exact ⟨(w64 (n + 1)), h, aN [0] rfl rfl (aH rfl (aM ⟨rfl, trivial⟩))⟩
 ·refine bQ ?_;refine .inl ⟨rfl, ?_⟩;simp only [nM] at h;refine aC (aA (tfl 0 rfl rfl pW rfl uV (to (sle rfl dA.of) (to (scm rfl rfl rfl) (ta (.b (decide ((j.Items.length : Int) ≤ 40))) (aB ?_))))));obtain rfl := sIn h;refine bL (bC (bE (l := [2]) ⟨rfl, trivial⟩)) ?_;exact rt

theorem aGm (e : aP) {r : Int} (h : pT e = some r) : Fn Tryz.prog 24 (Z32 e) (.i r) := by
 unfold pT at h;refine oT [.tmp 2] Tryz.func24 Tryz.results24 Tryz.ntmps24 ?_;refine aC (aA ?_);refine bB rfl (eB (v := .agg (aT e)) (aF rfl) rfl rfl rfl) ?_;rintro _ ⟨b1, rfl⟩;refine ta (.i 0) (aB (aC (aC (aA (to (sf rfl hZ) (to (sla 0 (aZ e.Tree) rfl rfl iT) (tfl 0 rfl rfl nF rfl rT ?_)))))));obtain ⟨r2, h3, h⟩ := bns h;refine to (scr Tryz.call49 (aGl _ _ h3)) (ta (.i r2) (aB (aC (aA (tm (.i r2) (to (scm rfl rfl rfl) (aB ?_)))))));refine tih h (fun c4 h => ?_) (fun c4 h => ?_)
 ·refine aC (aA (tm (.i r2) (ta (.i r2) (aB ?_))));obtain rfl := sIn h;refine bL (bC (bE (l := [2]) ⟨rfl, trivial⟩)) ?_;exact rt
 ·refine aU (aC (aC (aA (ta (.i 0) (aB (aX ?_))))));refine bP (S := Int) [1] (fun s5 => [(4, .i s5)]) (fun s5 => [.box b1 0 (aT e)]) (fun k s5 => iI e k s5) (fun _ => rfl) (0) h (aN [0] rfl rfl (aH rfl (aM ⟨rfl, trivial⟩))) ?_;rintro k6 a h;simp only [iI] at h;refine aC (aC (aA (tm (.i a) (tfl 0 rfl rfl iO rfl cD (to (sle rfl bG.of) (to (scm rfl rfl rfl) (aB ?_)))))));refine tih h (fun c7 h => ?_) (fun c7 h => ?_)
  ·refine aU (aC (aX (aC ?_)));obtain ⟨x8, h9, h⟩ := bns h;obtain ⟨g, u, h⟩ := bns h;obtain ⟨w, o, h⟩ := bns h;refine cN mix 25 [1, 4] [(44, .b w)] ?_ ?_
   ·refine bch o (fun f o => ?_) (fun f o => ?_)
    ·obtain rfl := sIn o;refine ⟨[(20, 0, .bp b1 0 3), (21, 1, .d (Z17 e)), (22, 2, .i a), (23, 3, .cp [.j x8]), (24, 4, .i x8), (25, 5, .b g), (26, 6, .b (!g)), (27, 7, .b (!g)), (28, 8, .tup []), (29, 9, .tup []), (30, 10, .tup []), (31, 11, .tup []), (32, 12, .tup []), (33, 13, .tup []), (34, 14, .tup []), (35, 15, .tup []), (36, 16, .tup []), (37, 17, .tup []), (38, 18, .tup []), (39, 19, .tup []), (40, 20, .tup []), (41, 21, .tup []), (42, 22, .tup []), (43, 23, .tup []), (44, 24, .b true)], ?_, ?_⟩
     · exact dk [0, 1, 0, 203, 4, 5, 6, 7, 8, 809, 810, 11, 1112, 11, 111314, 1115, 11, 1117, 11, 1119, 111820, 1121, 111622, 81123, 824] ⟨go (zf rfl iO),
      go (zl 0 rfl rfl rfl cD),
      go (zm (.i a)),
      go (zix rfl rfl bG.of (aV aL h9)),
      go (zlc rfl aO),
      go fun S hS => fW (aF rfl) (.func _ _ Tryz.call50) (ev2 (bF hS rfl) (ev2 rfl (ev2 rfl evn))) rfl (BVs.refl _ _) (dY _ _ _ u) rfl,
      go (zn rfl),
      go (zm (.b (!g))),
      gp f,
      gp f,
      gp f,
      gq,
      gq,
      gq,
      gq,
      gq,
      gq,
      gq,
      gq,
      gq,
      gq,
      gq,
      gq,
      gp f,
      go (zpt Z10 f), trivial⟩
     · exact cC (aH rfl (aM ⟨rfl, rfl, trivial⟩))
    ·obtain ⟨N, m, o⟩ := bns o;refine bch m (fun c m => ?_) (fun c m => ?_)
     ·obtain ⟨p, x, m⟩ := bns m;obtain ⟨q, y, m⟩ := bns m;obtain rfl := sIn m;obtain rfl := sIn o;refine ⟨[(20, 0, .bp b1 0 3), (21, 1, .d (Z17 e)), (22, 2, .i a), (23, 3, .cp [.j x8]), (24, 4, .i x8), (25, 5, .b g), (26, 6, .b (!g)), (27, 7, .b (!g)), (28, 8, .i a), (29, 9, .b (decide (0 < a))), (30, 10, .b (decide (0 < a))), (31, 11, .bp b1 0 3), (32, 12, .d (Z17 e)), (33, 13, .i a), (34, 14, .cp [.j p]), (35, 15, .i p), (36, 16, .bp b1 0 3), (37, 17, .d (Z17 e)), (38, 18, .i a), (39, 19, .i (w64 (a - 1))), (40, 20, .cp [.j q]), (41, 21, .i q), (42, 22, .b (decide (p < q))), (43, 23, .b (decide (p < q))), (44, 24, .b (decide (p < q)))], ?_, ?_⟩
      · exact dk [0, 1, 0, 203, 4, 5, 6, 7, 8, 809, 810, 11, 1112, 11, 111314, 1115, 11, 1117, 11, 1119, 111820, 1121, 111622, 81123, 824] ⟨go (zf rfl iO),
      go (zl 0 rfl rfl rfl cD),
      go (zm (.i a)),
      go (zix rfl rfl bG.of (aV aL h9)),
      go (zlc rfl aO),
      go fun S hS => fW (aF rfl) (.func _ _ Tryz.call50) (ev2 (bF hS rfl) (ev2 rfl (ev2 rfl evn))) rfl (BVs.refl _ _) (dY _ _ _ u) rfl,
      go (zn rfl),
      go (zm (.b (!g))),
      gt f (zm (.i a)),
      gt f (zcm rfl rfl rfl),
      gt f (zm (.b (decide (0 < a)))),
      gt c (zf rfl iO),
      gt c (zl 0 rfl rfl rfl cD),
      gt c (zm (.i a)),
      gt c (zix rfl rfl bG.of (aV aL x)),
      gt c (zlc rfl aO),
      gt c (zf rfl iO),
      gt c (zl 0 rfl rfl rfl cD),
      gt c (zm (.i a)),
      gt c (zar rfl rfl rfl),
      gt c (zix rfl rfl bG.of (aV aL y)),
      gt c (zlc rfl aO),
      gt c (zcm rfl rfl rfl),
      gt f (zpt (.b (decide (p < q))) c),
      go (zpf (.b (decide (p < q))) f), trivial⟩
      · exact cC (aH rfl (aM ⟨rfl, rfl, trivial⟩))
     ·obtain rfl := sIn m;obtain rfl := sIn o;refine ⟨[(20, 0, .bp b1 0 3), (21, 1, .d (Z17 e)), (22, 2, .i a), (23, 3, .cp [.j x8]), (24, 4, .i x8), (25, 5, .b g), (26, 6, .b (!g)), (27, 7, .b (!g)), (28, 8, .i a), (29, 9, .b (decide (0 < a))), (30, 10, .b (decide (0 < a))), (31, 11, .tup []), (32, 12, .tup []), (33, 13, .tup []), (34, 14, .tup []), (35, 15, .tup []), (36, 16, .tup []), (37, 17, .tup []), (38, 18, .tup []), (39, 19, .tup []), (40, 20, .tup []), (41, 21, .tup []), (42, 22, .tup []), (43, 23, .b false), (44, 24, .b (false))], ?_, ?_⟩
      · exact dk [0, 1, 0, 203, 4, 5, 6, 7, 8, 809, 810, 11, 1112, 11, 111314, 1115, 11, 1117, 11, 1119, 111820, 1121, 111622, 81123, 824] ⟨go (zf rfl iO),
      go (zl 0 rfl rfl rfl cD),
      go (zm (.i a)),
      go (zix rfl rfl bG.of (aV aL h9)),
      go (zlc rfl aO),
      go fun S hS => fW (aF rfl) (.func _ _ Tryz.call50) (ev2 (bF hS rfl) (ev2 rfl (ev2 rfl evn))) rfl (BVs.refl _ _) (dY _ _ _ u) rfl,
      go (zn rfl),
      go (zm (.b (!g))),
      gt f (zm (.i a)),
      gt f (zcm rfl rfl rfl),
      gt f (zm (.b (decide (0 < a)))),
      gp c,
      gp c,
      gp c,
      gp c,
      gp c,
      gp c,
      gp c,
      gp c,
      gp c,
      gp c,
      gp c,
      gp c,
      gt f (zpf Z3 c),
      go (zpf (.b (false)) f), trivial⟩
      · exact cC (aH rfl (aM ⟨rfl, rfl, trivial⟩))
   ·refine aB ?_;refine tih h (fun z h => ?_) (fun z h => ?_)
    ·refine aC (aA (ta (.i 100) (aB ?_)));obtain rfl := sIn h;refine bL (bC (bE (l := [2]) ⟨rfl, trivial⟩)) ?_;exact rt
    ·refine cL ?_;refine aA (tm (.i a) (to (sar rfl rfl rfl) (ta (.i (w64 (a + 1))) (aB ?_))));exact ⟨(w64 (a + 1)), h, aN [0] rfl rfl (aH rfl (aM ⟨rfl, trivial⟩))⟩
  ·refine bQ ?_;refine .inl ⟨rfl, ?_⟩;simp only [qC] at h;refine aC (aC (aA (tfl 0 rfl rfl iO rfl cD (to (sle rfl bG.of) (to (sf rfl hZ) (tfl 0 rfl rfl hY rfl aO (to (sar rfl rfl rfl) (to (scm rfl rfl rfl) (tm (Z34 e) ?_)))))))));obtain ⟨A, s, h⟩ := bns h;refine aW 5 [1] 58 A ?_ ?_
   ·refine bch s (fun j s => ?_) (fun j s => ?_)
    ·refine tp j (tp j (tp j (tp j (to (spt Z10 j) ?_))));obtain rfl := sIn s;refine aB (aK rfl ⟨rfl, trivial⟩ rfl)
    ·refine tkl 0 j rfl rfl aJv rfl aO ?_;obtain ⟨B, C, s⟩ := bns s;refine tk j (scr Tryz.call50 (dY _ _ _ C)) (tk j (sn rfl) (to (spf (.b (!B)) j) ?_));obtain rfl := sIn s;refine aB (aK rfl ⟨rfl, trivial⟩ rfl)
   ·refine aB ?_;refine tih h (fun E h => ?_) (fun E h => ?_)
    ·refine aC (aA (ta (.i 100) (aB ?_)));obtain rfl := sIn h;refine bL (bC (bE (l := [2]) ⟨rfl, trivial⟩)) ?_;exact rt
    ·refine aU (aC (aC (aA (to (sla 0 (aT e) rfl rfl eR) ?_))));obtain ⟨F, G, h⟩ := bns h;refine to (scr Tryz.call51 (aDd _ G)) (to (sn rfl) (tm (.b (!F)) ?_));obtain ⟨H, t, h⟩ := bns h;refine aW 4 [1] 66 H ?_ ?_
     ·refine bch t (fun n t => ?_) (fun n t => ?_)
      ·refine tp n (tp n (tp n (to (spt Z10 n) ?_)));obtain rfl := sIn t;refine aB (aK rfl ⟨rfl, trivial⟩ rfl)
      ·refine tk n (sla 0 (aT e) rfl rfl eR) ?_;obtain ⟨I, J, t⟩ := bns t;refine tk n (scr Tryz.call52 (aDc _ J)) (tk n (sn rfl) (to (spf (.b (!I)) n) ?_));obtain rfl := sIn t;refine aB (aK rfl ⟨rfl, trivial⟩ rfl)
     ·refine aB ?_;refine tih h (fun K h => ?_) (fun K h => ?_)
      ·refine aC (aA (ta (.i 101) (aB ?_)));obtain rfl := sIn h;refine bL (bC (bE (l := [2]) ⟨rfl, trivial⟩)) ?_;exact rt
      ·refine aU (aC (aC (aA (to (sla 0 (aT e) rfl rfl eR) ?_))));obtain ⟨O, L, h⟩ := bns h;refine to (scr Tryz.call53 (aDb _ L)) (to (sn rfl) (aB ?_));refine tih h (fun M h => ?_) (fun M h => ?_)
       ·refine aC (aA (ta (.i 102) (aB ?_)));obtain rfl := sIn h;refine bL (bC (bE (l := [2]) ⟨rfl, trivial⟩)) ?_;exact rt
       ·refine aU (aC (aA (ta (.i 0) (aB ?_))));obtain rfl := sIn h;refine bL (bC (bE (l := [2]) ⟨rfl, trivial⟩)) ?_;exact rt

theorem aGk (a : aP) {r : Bool} (h : nE a = some r) : Fn Tryz.prog 10 (Z32 a) (.b r) := by
 unfold nE at h;refine oT [.tmp 2] Tryz.func10 Tryz.results10 Tryz.ntmps10 ?_;refine aC (aA ?_);refine bB rfl (eB (v := .agg (aT a)) (aF rfl) rfl rfl rfl) ?_;rintro _ ⟨b1, rfl⟩;refine ta Z3 (aB (aC (aA (to (sla 0 (aT a) rfl rfl eR) ?_))));obtain ⟨r2, h3, h⟩ := bns h;refine to (scr Tryz.call21 (aJt _ h3)) (to (sn rfl) (tm (.b (!r2)) ?_));obtain ⟨b4, h5, h⟩ := bns h;refine aW 4 [] 10 b4 ?_ ?_
 ·refine bch h5 (fun c6 h5 => ?_) (fun c6 h5 => ?_)
  ·refine tk c6 (sla 0 (aT a) rfl rfl eR) ?_;obtain ⟨r7, h8, h5⟩ := bns h5;refine tk c6 (scr Tryz.call24 (aGm _ h8)) (tk c6 (scm rfl rfl rfl) (to (spt (.b (decide (r7 = 0))) c6) ?_));obtain rfl := sIn h5;refine aB (aK rfl trivial rfl)
  ·refine tp c6 (tp c6 (tp c6 (to (spf Z3 c6) ?_)));obtain rfl := sIn h5;refine aB (aK rfl trivial rfl)
 ·refine ta (.b b4) (aB ?_);obtain rfl := sIn h;refine bL (bC (bE (l := [2]) ⟨rfl, trivial⟩)) ?_;exact rt

theorem aDy {r : aP} (h : nS = some r) : Fn Tryz.prog 39 [] (.agg (aT r)) := by
 unfold nS at h;refine kX Tryz.func39 rfl (rs := [.cell 0 31]) Tryz.results39 Tryz.ntmps39 (Nat.le_of_ble_eq_true rfl) ?_;refine aC (aA ?_);refine bB rfl (cK (zs := [.j 0, .sl 1 Z14, .sl 5 Z36, .sl 1 Z14, .j 0, .sl 3 Z37, .sl 2 Z38, .sl 3 Z39, .sl 4 Z40]) (aF rfl) Tryz.zeroValue31 rfl rfl) ?_;rintro _ ⟨b1, rfl⟩;refine aB (aC (aA (to (fL (aF rfl) bG rfl rfl (rows := ([1, 2, 3, 4]).map aL) rfl (cV (f := aL) fun _ => rfl) rfl (by decide)) ?_)));refine to (dZ (aF rfl) bAs (zs := [.j 0, .sl 1 Z14]) rfl rfl rfl rfl (es := [.j 2, .sl 1 ((([1, 2, 3, 4])).map aL)]) rfl) ?_;refine to (dZ (aF rfl) aVv (zs := [.j 0, .j 0, .j 0, .j 0, .j 0]) rfl rfl rfl rfl (es := [.j 1, .j 0, .j 0, .j 1, .j 0]) rfl) ?_;refine to (fL (aF rfl) fO rfl rfl (rows := ([(aE.mk 1 0 0 1 0)]).map aJ) rfl (cV (f := aJ) fun _ => rfl) rfl (by decide)) ?_;refine to (fL (aF rfl) bG rfl rfl (rows := ([100, 300, 1001]).map aL) rfl (cV (f := aL) fun _ => rfl) rfl (by decide)) ?_;refine to (dZ (aF rfl) aIf (zs := [.j 0, .j 0, .j 0]) rfl rfl rfl rfl (es := [.j 1, .j 11, .j 12]) rfl) ?_;refine to (dZ (aF rfl) aIf (zs := [.j 0, .j 0, .j 0]) rfl rfl rfl rfl (es := [.j 2, .j 21, .j 22]) rfl) ?_;refine to (dZ (aF rfl) aIf (zs := [.j 0, .j 0, .j 0]) rfl rfl rfl rfl (es := [.j 3, .j 31, .j (-1)]) rfl) ?_;refine to (dZ (aF rfl) aIf (zs := [.j 0, .j 0, .j 0]) rfl rfl rfl rfl (es := [.j 4, .j 41, .j (-1)]) rfl) ?_;refine to (fL (aF rfl) nP rfl rfl (rows := Z25.map bK) rfl (cV (f := bK) fun _ => rfl) rfl (by decide)) ?_;refine to (dZ (aF rfl) bAu (zs := [.j 0, .j 0]) rfl rfl rfl rfl (es := [.j 11, .j 250]) rfl) ?_;refine to (fL (aF rfl) wA rfl rfl (rows := ([(fX.mk 11 250)]).map cX) rfl (cV (f := cX) fun _ => rfl) rfl (by decide)) ?_;refine to (dZ (aF rfl) aVw (zs := [.j 0, .j 0, .j 0]) rfl rfl rfl rfl (es := [.j 21, .j 3, .j 2]) rfl) ?_;refine to (dZ (aF rfl) aVw (zs := [.j 0, .j 0, .j 0]) rfl rfl rfl rfl (es := [.j 22, .j 1, .j 3]) rfl) ?_;refine to (fL (aF rfl) aAg rfl rfl (rows := ([(eO.mk 21 3 2), (eO.mk 22 1 3)]).map dO) rfl (cV (f := dO) fun _ => rfl) rfl (by decide)) ?_;refine to (dZ (aF rfl) aQg (zs := [.j 0, .j 0, .j 0, .j 0]) rfl rfl rfl rfl (es := [.j 1, .j 1, .j 21, .j 30]) rfl) ?_;refine to (dZ (aF rfl) aQg (zs := [.j 0, .j 0, .j 0, .j 0]) rfl rfl rfl rfl (es := [.j 2, .j 2, .j 11, .j 2]) rfl) ?_;refine to (dZ (aF rfl) aQg (zs := [.j 0, .j 0, .j 0, .j 0]) rfl rfl rfl rfl (es := [.j 3, .j 1, .j 31, .j 160]) rfl) ?_;refine to (fL (aF rfl) dA rfl rfl (rows := Z31.map aD) rfl (cV (f := aD) fun _ => rfl) rfl (by decide)) ?_;refine to (dZ (aF rfl) bAt (zs := [.j 0, .sl 1 Z14, .sl 5 Z36, .sl 1 Z14, .j 0, .sl 3 Z37, .sl 2 Z38, .sl 3 Z39, .sl 4 Z40]) rfl rfl rfl rfl (es := [.j 2, .sl 1 ((([1, 2, 3, 4])).map aL), .sl 5 ((([(aE.mk 1 0 0 1 0)])).map aJ), .sl 1 ((([100, 300, 1001])).map aL), .j 40, .sl 3 ((Z25).map bK), .sl 2 ((([(fX.mk 11 250)])).map cX), .sl 3 ((([(eO.mk 21 3 2), (eO.mk 22 1 3)])).map dO), .sl 4 ((Z31).map aD)]) rfl) ?_;refine to (sst 0 rfl rfl Tryz.sizeOf31 Z5) (aB ?_);obtain rfl := sIn h;exact cI ⟨rfl, _, [.box b1 0 Z5], .one (.cell 0 31 rfl (i := 0) rfl eR (es := Z5) rfl rfl), .refl _, .same _⟩

theorem gE (d : Int) (c : Int) (a : Int) {r : Bool} (h : fZ d c a = some r) : Fn Tryz.prog 115 [.i d, .i c, .i a] (.b r) := by
 unfold fZ at h;refine oT [.tmp 6] Tryz.func115 Tryz.results115 Tryz.ntmps115 ?_;refine aC (aA (ta Z3 (aB (aC (aA (tm (.i c) (tm (.i d) (to (scm rfl rfl rfl) (tm (Z33 c d) ?_)))))))));obtain ⟨b1, h2, h⟩ := bns h;refine aW 4 [] 14 b1 ?_ ?_
 ·refine bch h2 (fun c3 h2 => ?_) (fun c3 h2 => ?_)
  ·refine tk c3 (sm (.i d)) (tk c3 (sm (.i a)) (tk c3 (scm rfl rfl rfl) (to (spt (Z33 d a) c3) ?_)));obtain rfl := sIn h2;refine aB (aK rfl trivial rfl)
  ·refine tp c3 (tp c3 (tp c3 (to (spf Z3 c3) ?_)));obtain rfl := sIn h2;refine aB (aK rfl trivial rfl)
 ·refine ta (.b b1) (aB ?_);obtain rfl := sIn h;exact rt

theorem aJr (g : aR) {r : Bool} (h : pM g = some r) : Fn Tryz.prog 100 [.agg (aZ g)] (.b r) := by
 unfold pM at h;refine oT [.tmp 2] Tryz.func100 Tryz.results100 Tryz.ntmps100 ?_;refine aC (aA ?_);refine bB rfl (eB (v := .agg (aZ g)) (aF rfl) rfl rfl rfl) ?_;rintro _ ⟨b1, rfl⟩;refine ta Z3 (aB (aC (aC ?_)));obtain ⟨r2, h3, h⟩ := bns h;obtain ⟨b4, h5, h⟩ := bns h;refine cN mix 13 [1] [(18, .b b4)] ?_ ?_
 ·refine bch h5 (fun c6 h5 => ?_) (fun c6 h5 => ?_)
  ·obtain rfl := sIn h5;refine ⟨[(6, 0, .bp b1 0 0), (7, 1, .i g.Rounds), (8, 2, .b r2), (9, 3, .b (!r2)), (10, 4, .b (!r2)), (11, 5, .tup []), (12, 6, .tup []), (13, 7, .tup []), (14, 8, .tup []), (15, 9, .tup []), (16, 10, .tup []), (17, 11, .tup []), (18, 12, .b true)], ?_, ?_⟩
   · exact dk [0, 1, 2, 3, 4, 5, 506, 507, 5, 509, 510, 50811, 512] ⟨go (zf rfl hY),
      go (zl 0 rfl rfl rfl aO),
      go fun S hS => fW (aF rfl) (.func _ _ Tryz.call115) (ev2 (bF hS rfl) (ev2 rfl (ev2 rfl evn))) rfl (BVs.refl _ _) (gE _ _ _ h3) rfl,
      go (zn rfl),
      go (zm (.b (!r2))),
      gp c6,
      gp c6,
      gp c6,
      gp c6,
      gp c6,
      gp c6,
      gp c6,
      go (zpt Z10 c6), trivial⟩
   · exact cC (aH rfl (aM ⟨rfl, trivial⟩))
  ·obtain ⟨u7, h8, h5⟩ := bns h5;obtain rfl := sIn h5;refine ⟨[(6, 0, .bp b1 0 0), (7, 1, .i g.Rounds), (8, 2, .b r2), (9, 3, .b (!r2)), (10, 4, .b (!r2)), (11, 5, .bp b1 0 1), (12, 6, .d (.sl 1 (Z9 g))), (13, 7, .i (g.Slots.length : Int)), (14, 8, .bp b1 0 0), (15, 9, .i g.Rounds), (16, 10, .i (Z20 g)), (17, 11, .b (!decide ((g.Slots.length : Int) = (Z20 g)))), (18, 12, .b (!decide ((g.Slots.length : Int) = (Z20 g))))], ?_, ?_⟩
   · exact dk [0, 1, 2, 3, 4, 5, 506, 507, 5, 509, 510, 50811, 512] ⟨go (zf rfl hY),
      go (zl 0 rfl rfl rfl aO),
      go fun S hS => fW (aF rfl) (.func _ _ Tryz.call115) (ev2 (bF hS rfl) (ev2 rfl (ev2 rfl evn))) rfl (BVs.refl _ _) (gE _ _ _ h3) rfl,
      go (zn rfl),
      go (zm (.b (!r2))),
      gt c6 (zf rfl eA),
      gt c6 (zl 0 rfl rfl rfl cD),
      gt c6 (zle rfl bG.of),
      gt c6 (zf rfl hY),
      gt c6 (zl 0 rfl rfl rfl aO),
      gt c6 fun S hS => aOc (aF rfl) rfl (bF hS rfl) (aBz h8),
      gt c6 (zcm rfl rfl rfl),
      go (zpf (.b (!decide ((g.Slots.length : Int) = (Z20 g)))) c6), trivial⟩
   · exact cC (aH rfl (aM ⟨rfl, trivial⟩))
 ·refine aB ?_;refine tih h (fun c9 h => ?_) (fun c9 h => ?_)
  ·refine aC (aA (ta Z3 (aB ?_)));obtain rfl := sIn h;refine bL (bC (bE (l := [2]) ⟨rfl, trivial⟩)) ?_;exact rt
  ·refine aU (aC (aA ?_));refine bB rfl (aCh (aF rfl)) ?_;rintro _ ⟨t, rfl⟩;refine ta (.d (.lit (.map (some t)))) (aB (aC (aC (aA (tfl 0 rfl rfl eA rfl cD (to (sle rfl bG.of) (tm (.i 0) (aB (aX ?_)))))))));refine bP (S := Int × (List (Int × Int)) × (List Nat) × Nat) [1, 3, 21, 22] (fun o => [(23, .i o.1)]) (fun o => [.box b1 0 (aZ g), .map t (o.2.1.map fun p : Int × Int => (VI p.1, (fun v : Int => AV.i v) p.2)) o.2.2.1 o.2.2.2]) (fun k o => jH g.Slots (g.Slots.length : Int) g k o.1 o.2.1) (fun _ => rfl) (0, ([] : List (Int × Int)), [], 0) h (aN [0, 1] rfl rfl (aH rfl (aM ⟨rfl, rfl, rfl, rfl, trivial⟩))) ?_;rintro H ⟨f, c, u, s⟩ h;simp only [jH] at h;refine aC (aA (to (scm rfl rfl rfl) (aB (aC ?_))));refine tih h (fun w h => ?_) (fun w h => ?_)
   ·refine aU (aC (aX (aC (aA (tm (.i f) ?_)))));obtain ⟨e, x, h⟩ := bns h;refine to (six rfl rfl bG.of (aV aL x)) (to (slc rfl aO) (ta (.i f) (ta (.i e) (aB (aC (aC (aA (tm (.i e) (to (scm rfl rfl rfl) (aB ?_))))))))));refine tih h (fun y h => ?_) (fun y h => ?_)
    ·refine aC (aC (aA (tfl 0 rfl rfl eA rfl cD (tm (.i f) (to (aVk (aF rfl) rfl rfl (.inr (.inr ⟨rfl, rfl⟩))) ?_)))));obtain ⟨I, A, h⟩ := bns h;refine to (six rfl rfl bG.of (aV aL A)) (to (slc rfl aO) (to (scm rfl rfl rfl) (aB ?_)));refine tih h (fun B h => ?_) (fun B h => ?_)
     ·refine aC (aA (ta Z3 (aB ?_)));obtain rfl := sIn h;refine bL (bC (bE (l := [2]) ⟨rfl, trivial⟩)) ?_;exact rt
     ·refine aU ?_;refine bQ ?_;refine .inl ⟨rfl, ?_⟩;refine aA (to (sar rfl rfl rfl) (tm (.i (w64 (f + 1))) (aB ?_)));exact ⟨(w64 (f + 1), c, u, s), h, aN [0, 1] rfl rfl (aH rfl (aM ⟨rfl, rfl, rfl, rfl, trivial⟩))⟩
    ·refine aU (aC (aA (tm (.d (.lit (.map (some t)))) (tm (.i e) (to (aFd (av := (fun v : Int => AV.i v)) (l := c) (z := 0) (a := e) (m := 1) (aF rfl) aTe Tryz.underlying157 Tryz.zeroValue3 (fun _ _ => .d (.lit _ rfl)) rfl rfl rfl rfl (aGw (kv := VI) e)) ?_)))));refine to (sar rfl rfl rfl) (to (aCw (av := (fun v : Int => AV.i v)) (l := c) (v := w64 ((cT e 0 c) + 1)) (a := e) (m := 1) aTe Tryz.underlying157 rfl rfl rfl rfl (aGw (kv := VI) e) rfl rfl) ?_);refine aB (aC (aA (tm (.d (.lit (.map (some t)))) (tm (.i e) (to (aFd (av := (fun v : Int => AV.i v)) (l := (gQ e (w64 ((cT e 0 c) + 1)) c)) (z := 0) (a := e) (m := 1) (aF rfl) aTe Tryz.underlying157 Tryz.zeroValue3 (fun _ _ => .d (.lit _ rfl)) rfl rfl rfl rfl (aGw (kv := VI) e)) ?_)))));refine to (scm rfl rfl rfl) (tm (.b (decide (1 < (cT e 0 (gQ e (w64 ((cT e 0 c) + 1)) c))))) ?_);obtain ⟨C, q, h⟩ := bns h;refine aW 4 [1, 3, 21, 22, 23] 49 C ?_ ?_
     ·refine bch q (fun j q => ?_) (fun j q => ?_)
      ·refine tp j (tp j (tp j (to (spt Z10 j) ?_)));obtain rfl := sIn q;refine aB (aK rfl ⟨rfl, rfl, rfl, rfl, rfl, trivial⟩ rfl)
      ·refine tk j (sm (.i e)) ?_;obtain ⟨E, F, q⟩ := bns q;refine tk j (scr Tryz.call115 (gE _ _ _ F)) (tk j (sn rfl) (to (spf (.b (!E)) j) ?_));obtain rfl := sIn q;refine aB (aK rfl ⟨rfl, rfl, rfl, rfl, rfl, trivial⟩ rfl)
     ·refine aB ?_;refine tih h (fun G h => ?_) (fun G h => ?_)
      ·refine aC (aA (ta Z3 (aB ?_)));obtain rfl := sIn h;refine bL (bC (bE (l := [2]) ⟨rfl, trivial⟩)) ?_;exact rt
      ·refine cL ?_;refine aA (to (sar rfl rfl rfl) (tm (.i (w64 (f + 1))) (aB ?_)));exact ⟨(w64 (f + 1), (gQ e (w64 ((cT e 0 c) + 1)) c), (mbs e c u s), (mck e c s)), h, aN [0, 1] rfl rfl (aH rfl (aM ⟨rfl, rfl, rfl, rfl, trivial⟩))⟩
   ·refine bQ ?_;refine .inl ⟨rfl, ?_⟩;simp only [vM] at h;refine aC (aA (ta Z10 (aB ?_)));obtain rfl := sIn h;refine bL (bC (bE (l := [2]) ⟨rfl, trivial⟩)) ?_;exact rt

theorem zG (e : List aE) (g : aE → Option Bool) {r : Int} (c : Nat) (f : List AV) (j : ∀ args w, (callFunc c args).run Tryz.prog w = .ok (.enter c args) w) (l : ∀ (x0 : aE) r, g x0 = some r → Fn Tryz.prog c ([.agg (aJ x0)] ++ f) (.b r)) (h : jP e g = some r) : Fn Tryz.prog 117 [.d (Z6 e), .fn c f] (.i r) := by
 unfold jP at h;refine oT [.tmp 4] Tryz.func117 Tryz.results117 Tryz.ntmps117 ?_;refine aC (aA (ta (.i 0) (aB (aC (aC (aA (tm (Z27 e) (to (sle rfl fO.of) (tm (.i 0) (aB (aX ?_)))))))))));refine bP (S := Int) [0, 1, 7] (fun s1 => [(8, .i s1)]) (fun s1 => []) (fun k s1 => fC e g (e.length : Int) k s1) (fun _ => rfl) (0) h (aN [] rfl rfl (aH rfl (aM ⟨rfl, rfl, rfl, trivial⟩))) ?_;rintro k2 a h;simp only [fC] at h;refine aC (aA (to (scm rfl rfl rfl) (aB (aC ?_))));refine tih h (fun c3 h => ?_) (fun c3 h => ?_)
 ·refine aU (aC (aX (aC (aA (tm (.i a) (ta (.i a) (aB (aC (aA (tm (.fn c f) (tm (Z27 e) (tm (.i a) ?_))))))))))));obtain ⟨x4, h5, h⟩ := bns h;refine to (six rfl rfl fO.of (aV aJ h5)) (to (qF (aJ x4) rfl mB) ?_);obtain ⟨r6, h7, h⟩ := bns h;refine to (fW (aF rfl) (.clo _ _ _ _ j rfl) (aAx rfl) rfl (BVs.refl _ _) (l _ _  h7) rfl) ?_;refine aB ?_;refine tih h (fun c8 h => ?_) (fun c8 h => ?_)
  ·refine aC (aA (tm (.i a) (ta (.i a) (aB ?_))));obtain rfl := sIn h;exact rt
  ·refine cL ?_;refine aA (to (sar rfl rfl rfl) (tm (.i (w64 (a + 1))) (aB ?_)));exact ⟨(w64 (a + 1)), h, aN [] rfl rfl (aH rfl (aM ⟨rfl, rfl, rfl, trivial⟩))⟩
 ·refine bQ ?_;refine .inl ⟨rfl, ?_⟩;simp only [nK] at h;refine aC (aA (ta (.i (-1)) (aB ?_)));obtain rfl := sIn h;exact rt

theorem xV (e : List aE) (i : aE → Option Bool) {r : Bool} (a : Nat) (c : List AV) (f : ∀ args w, (callFunc a args).run Tryz.prog w = .ok (.enter a args) w) (g : ∀ (x0 : aE) r, i x0 = some r → Fn Tryz.prog a ([.agg (aJ x0)] ++ c) (.b r)) (h : iQ e i = some r) : Fn Tryz.prog 101 [.d (Z6 e), .fn a c] (.b r) := by
 unfold iQ at h;refine oT [.tmp 4] Tryz.func101 Tryz.results101 Tryz.ntmps101 ?_;refine aC (aA (ta Z3 (aB (aC (aA (tm (Z27 e) (tm (.fn a c) ?_)))))));obtain ⟨r1, h2, h⟩ := bns h;refine to (scr Tryz.call117 (zG _ _ a c f g h2)) (to (scm rfl rfl rfl) (ta (.b (decide (0 ≤ r1))) (aB ?_)));obtain rfl := sIn h;exact rt

theorem aGg (c : aG) (a : aR) {r : Bool} (h : pS c a = some r) : Fn Tryz.prog 118 [.agg (aQ c), .agg (aZ a)] (.b r) := by
 unfold pS at h;refine oT [.tmp 4] Tryz.func118 Tryz.results118 Tryz.ntmps118 ?_;refine aC (aA ?_);refine bB rfl (eB (v := .agg (aQ c)) (aF rfl) rfl rfl rfl) ?_;rintro _ ⟨b1, rfl⟩;refine bB rfl (eB (v := .agg (aZ a)) (aF rfl) rfl rfl rfl) ?_;rintro _ ⟨b2, rfl⟩;refine ta Z3 (aB (aC ?_));obtain ⟨r3, h4, h⟩ := bns h;obtain ⟨b5, h6, h⟩ := bns h;refine cN mix 19 [] [(23, .b b5)] ?_ ?_
 ·refine bch h6 (fun c7 h6 => ?_) (fun c7 h6 => ?_)
  ·obtain ⟨u8, h9, h6⟩ := bns h6;obtain ⟨e, f, h6⟩ := bns h6;obtain rfl := sIn h6;refine ⟨[(5, 0, .bp b1 0 0), (6, 1, .i c.round), (7, 2, .bp b2 0 0), (8, 3, .i a.Rounds), (9, 4, .i (w64 (a.Rounds - 1))), (10, 5, .b r3), (11, 6, .b r3), (12, 7, .bp b1 0 1), (13, 8, .i c.place), (14, 9, .bp b2 0 1), (15, 10, .d (.sl 1 (Z9 a))), (16, 11, .i (a.Slots.length : Int)), (17, 12, .bp b1 0 0), (18, 13, .i c.round), (19, 14, .i (w64 (c.round + 1))), (20, 15, .i ((a.Slots.length : Int).fdiv (2 ^ (min (w64 (c.round + 1)).toNat 64)))), (21, 16, .i (w64 (((a.Slots.length : Int).fdiv (2 ^ (min (w64 (c.round + 1)).toNat 64))) - 1))), (22, 17, .b e), (23, 18, .b e)], ?_, ?_⟩
   · exact dk [0, 1, 0, 3, 4, 205, 6, 7, 708, 7, 710, 711, 7, 713, 714, 71215, 716, 70917, 718] ⟨go (zf rfl uO),
      go (zl 0 rfl rfl rfl aO),
      go (zf rfl hY),
      go (zl 1 rfl rfl rfl aO),
      go (zar rfl rfl rfl),
      go fun S hS => fW (aF rfl) (.func _ _ Tryz.call115) (ev2 (bF hS rfl) (ev2 rfl (ev2 (bF hS rfl) evn))) rfl (BVs.refl _ _) (gE _ _ _ h4) rfl,
      go (zm (.b r3)),
      gt c7 (zf rfl aUp),
      gt c7 (zl 0 rfl rfl rfl aO),
      gt c7 (zf rfl eA),
      gt c7 (zl 1 rfl rfl rfl cD),
      gt c7 (zle rfl bG.of),
      gt c7 (zf rfl uO),
      gt c7 (zl 0 rfl rfl rfl aO),
      gt c7 (zar rfl rfl rfl),
      gt c7 fun S hS => aAf (aF rfl) (bF hS rfl) (bF hS rfl) (aBz h9),
      gt c7 (zar rfl rfl rfl),
      gt c7 fun S hS => fW (aF rfl) (.func _ _ Tryz.call115) (ev2 (bF hS rfl) (ev2 rfl (ev2 (bF hS rfl) evn))) rfl (BVs.refl _ _) (gE _ _ _ f) rfl,
      go (zpt (.b e) c7), trivial⟩
   · exact cC (aH rfl (aM trivial))
  ·obtain rfl := sIn h6;refine ⟨[(5, 0, .bp b1 0 0), (6, 1, .i c.round), (7, 2, .bp b2 0 0), (8, 3, .i a.Rounds), (9, 4, .i (w64 (a.Rounds - 1))), (10, 5, .b r3), (11, 6, .b r3), (12, 7, .tup []), (13, 8, .tup []), (14, 9, .tup []), (15, 10, .tup []), (16, 11, .tup []), (17, 12, .tup []), (18, 13, .tup []), (19, 14, .tup []), (20, 15, .tup []), (21, 16, .tup []), (22, 17, .tup []), (23, 18, .b false)], ?_, ?_⟩
   · exact dk [0, 1, 0, 3, 4, 205, 6, 7, 708, 7, 710, 711, 7, 713, 714, 71215, 716, 70917, 718] ⟨go (zf rfl uO),
      go (zl 0 rfl rfl rfl aO),
      go (zf rfl hY),
      go (zl 1 rfl rfl rfl aO),
      go (zar rfl rfl rfl),
      go fun S hS => fW (aF rfl) (.func _ _ Tryz.call115) (ev2 (bF hS rfl) (ev2 rfl (ev2 (bF hS rfl) evn))) rfl (BVs.refl _ _) (gE _ _ _ h4) rfl,
      go (zm (.b r3)),
      gp c7,
      gp c7,
      gp c7,
      gp c7,
      gp c7,
      gp c7,
      gp c7,
      gp c7,
      gp c7,
      gp c7,
      gp c7,
      go (zpf Z3 c7), trivial⟩
   · exact cC (aH rfl (aM trivial))
 ·refine ta (.b b5) (aB ?_);obtain rfl := sIn h;refine bL (bC (bE (l := [4]) ⟨rfl, trivial⟩)) ?_;exact rt

theorem vC (b : List Int) (c : Int) {r : Int} (h : iC b c = some r) : Fn Tryz.prog 89 [.d (Z8 b), .i c] (.i r) := by
 unfold iC at h;refine oT [.tmp 4] Tryz.func89 Tryz.results89 Tryz.ntmps89 ?_;refine aC (aA (ta (.i 0) (aB (aC (aC (aA (tm (Z41 b) (to (sle rfl bG.of) (tm (.i 0) (aB (aX ?_)))))))))));refine bP (S := Int) [0, 1, 7] (fun s1 => [(8, .i s1)]) (fun s1 => []) (fun k s1 => jO b c (b.length : Int) k s1) (fun _ => rfl) (0) h (aN [] rfl rfl (aH rfl (aM ⟨rfl, rfl, rfl, trivial⟩))) ?_;rintro k2 a h;simp only [jO] at h;refine aC (aA (to (scm rfl rfl rfl) (aB (aC ?_))));refine tih h (fun c3 h => ?_) (fun c3 h => ?_)
 ·refine aU (aC (aX (aC (aA (tm (.i a) (ta (.i a) (aB (aC (aA (tm (.i c) (tm (Z41 b) (tm (.i a) ?_))))))))))));obtain ⟨x4, h5, h⟩ := bns h;refine to (six rfl rfl bG.of (aV aL h5)) (to (slc rfl aO) (to (scm rfl rfl rfl) (aB ?_)));refine tih h (fun c6 h => ?_) (fun c6 h => ?_)
  ·refine aC (aA (tm (.i a) (ta (.i a) (aB ?_))));obtain rfl := sIn h;exact rt
  ·refine cL ?_;refine aA (to (sar rfl rfl rfl) (tm (.i (w64 (a + 1))) (aB ?_)));exact ⟨(w64 (a + 1)), h, aN [] rfl rfl (aH rfl (aM ⟨rfl, rfl, rfl, trivial⟩))⟩
 ·refine bQ ?_;refine .inl ⟨rfl, ?_⟩;simp only [tV] at h;refine aC (aA (ta (.i (-1)) (aB ?_)));obtain rfl := sIn h;exact rt

theorem fB (a : List Int) (c : Int) {r : Bool} (h : dD a c = some r) : Fn Tryz.prog 60 [.d (Z8 a), .i c] (.b r) := by
 unfold dD at h;refine oT [.tmp 4] Tryz.func60 Tryz.results60 Tryz.ntmps60 ?_;refine aC (aA (ta Z3 (aB (aC (aA (tm (Z41 a) (tm (.i c) ?_)))))));obtain ⟨r1, h2, h⟩ := bns h;refine to (scr Tryz.call89 (vC _ _ h2)) (to (scm rfl rfl rfl) (ta (.b (decide (0 ≤ r1))) (aB ?_)));obtain rfl := sIn h;exact rt

theorem aJq (n : aR) (d : aE) {r : Bool} (h : rM n d = some r) : Fn Tryz.prog 103 [.agg (aZ n), .agg (aJ d)] (.b r) := by
 unfold rM at h;refine oT [.tmp 4] Tryz.func103 Tryz.results103 Tryz.ntmps103 ?_;refine aC (aA ?_);refine bB rfl (eB (v := .agg (aZ n)) (aF rfl) rfl rfl rfl) ?_;rintro _ ⟨b1, rfl⟩;refine bB rfl (eB (v := .agg (aJ d)) (aF rfl) rfl rfl rfl) ?_;rintro _ ⟨b2, rfl⟩;refine ta Z3 (aB (aC (aC (aA (tfl 1 rfl rfl nG rfl aO ?_)))));obtain ⟨r3, h4, h⟩ := bns h;refine to (scr Tryz.call115 (gE _ _ _ h4)) (to (sn rfl) (aB ?_));refine tih h (fun c5 h => ?_) (fun c5 h => ?_)
 ·refine aC (aA (ta Z3 (aB ?_)));obtain rfl := sIn h;refine bL (bC (bE (l := [4]) ⟨rfl, trivial⟩)) ?_;exact rt
 ·refine aU (aC (aC (aA (tfl 1 rfl rfl mF rfl aO (to (scm rfl rfl rfl) (aB ?_))))));refine tih h (fun c6 h => ?_) (fun c6 h => ?_)
  ·refine aC (aA (tfl 1 rfl rfl oN rfl aO (to (scm rfl rfl rfl) (tm (.b (decide (d.Round = 0))) ?_))));obtain ⟨b7, h8, h⟩ := bns h;refine aW 8 [3] 24 b7 ?_ ?_
   ·refine bch h8 (fun c h8 => ?_) (fun c h8 => ?_)
    ·refine tkl 1 c rfl rfl kG rfl aO (tkl 0 c rfl rfl eA rfl cD (tk c (sle rfl bG.of) (tk c (sar rfl rfl rfl) ?_)));obtain ⟨q, s, h8⟩ := bns h8;refine tk c (scr Tryz.call115 (gE _ _ _ s)) (to (spt (.b q) c) ?_);obtain rfl := sIn h8;refine aB (aK rfl ⟨rfl, trivial⟩ rfl)
    ·refine tp c (tp c (tp c (tp c (tp c (tp c (tp c (to (spf Z3 c) ?_)))))));obtain rfl := sIn h8;refine aB (aK rfl ⟨rfl, trivial⟩ rfl)
   ·refine tm (.b b7) ?_;obtain ⟨b9, j, h⟩ := bns h;refine aW 4 [] 29 b9 ?_ ?_
    ·refine bch j (fun g j => ?_) (fun g j => ?_)
     ·refine tkl 1 g rfl rfl yH rfl aO ?_;obtain ⟨t, u, j⟩ := bns j;refine tk g (scr Tryz.call115 (gE _ _ _ u)) (to (spt (.b t) g) ?_);obtain rfl := sIn j;refine aB (aK rfl trivial rfl)
     ·refine tp g (tp g (tp g (to (spf Z3 g) ?_)));obtain rfl := sIn j;refine aB (aK rfl trivial rfl)
    ·refine ta (.b b9) (aB ?_);obtain rfl := sIn h;refine bL (bC (bE (l := [4]) ⟨rfl, trivial⟩)) ?_;exact rt
  ·refine aU (aC (aA (tfl 1 rfl rfl oN rfl aO (tfl 1 rfl rfl kG rfl aO (to (dZ (aF rfl) aMp (zs := [.j 0, .j 0]) rfl rfl rfl rfl (es := [.j d.Round, .j d.Place]) rfl) ?_)))));refine bB rfl (cK (zs := [.j 0, .j 0]) (aF rfl) Tryz.zeroValue155 rfl rfl) ?_;rintro _ ⟨G, rfl⟩;refine to (sst 2 rfl rfl Tryz.sizeOf155 (aQ (aG.mk d.Round d.Place))) (aB (aC (aC (aA (tfl 1 rfl rfl mF rfl aO ?_)))));obtain ⟨w, x, h⟩ := bns h;refine to (scr Tryz.call115 (gE _ _ _ x)) (to (sn rfl) (tm (.b (!w)) ?_));obtain ⟨o, m, h⟩ := bns h;refine aW 4 [2, 3, 5] 43 o ?_ ?_
   ·refine bch m (fun i m => ?_) (fun i m => ?_)
    ·refine tp i (tp i (tp i (to (spt Z10 i) ?_)));obtain rfl := sIn m;refine aB (aK rfl ⟨rfl, rfl, rfl, trivial⟩ rfl)
    ·refine tkl 1 i rfl rfl yH rfl aO (tk i (scm rfl rfl rfl) (to (spf (.b (!decide (d.Old = 0))) i) ?_));obtain rfl := sIn m;refine aB (aK rfl ⟨rfl, rfl, rfl, trivial⟩ rfl)
   ·refine tm (.b o) ?_;obtain ⟨y, k, h⟩ := bns h;refine aW 5 [2, 3] 49 y ?_ ?_
    ·refine bch k (fun e k => ?_) (fun e k => ?_)
     ·refine tp e (tp e (tp e (tp e (to (spt Z10 e) ?_))));obtain rfl := sIn k;refine aB (aK rfl ⟨rfl, rfl, trivial⟩ rfl)
     ·refine tk e (sla 2 (aQ (aG.mk d.Round d.Place)) rfl rfl wP) (tk e (sla 0 (aZ n) rfl rfl iT) ?_);obtain ⟨z, A, k⟩ := bns k;refine tk e (scr Tryz.call118 (aGg _ _ A)) (tk e (sn rfl) (to (spf (.b (!z)) e) ?_));obtain rfl := sIn k;refine aB (aK rfl ⟨rfl, rfl, trivial⟩ rfl)
    ·refine aB ?_;refine tih h (fun B h => ?_) (fun B h => ?_)
     ·refine aC (aA (ta Z3 (aB ?_)));obtain rfl := sIn h;refine bL (bC (bE (l := [4]) ⟨rfl, trivial⟩)) ?_;exact rt
     ·refine aU (aC (aA (tfl 1 rfl rfl oN rfl aO (to (scm rfl rfl rfl) (tm (.b (decide (0 < d.Round))) ?_)))));obtain ⟨p, f, h⟩ := bns h;refine aW 13 [] 66 p ?_ ?_
      ·refine bch f (fun a f => ?_) (fun a f => ?_)
       ·refine tp a (tp a (tp a (tp a (tp a (tp a (tp a (tp a (tp a (tp a (tp a (tp a (to (spt Z10 a) ?_))))))))))));obtain rfl := sIn f;refine aB (aK rfl trivial rfl)
       ·refine tkl 0 a rfl rfl eA rfl cD (tkl 1 a rfl rfl kG rfl aO (tk a (sar rfl rfl rfl) (tkl 1 a rfl rfl kG rfl aO (tk a (sar rfl rfl rfl) (tk a (sar rfl rfl rfl) ?_)))));obtain ⟨H, C, f⟩ := bns f;refine tk a (aTt (aF rfl) bG.of rfl rfl rfl (aZl aL C)) ?_;obtain ⟨E, F, f⟩ := bns f;refine tk a (scr Tryz.call60 (fB _ _ F)) (tk a (sn rfl) (to (spf (.b (!E)) a) ?_));obtain rfl := sIn f;refine aB (aK rfl trivial rfl)
      ·refine ta (.b p) (aB ?_);obtain rfl := sIn h;refine bL (bC (bE (l := [4]) ⟨rfl, trivial⟩)) ?_;exact rt

theorem aJs (a : aE) (c : aR) {r : Bool} (h : pN a c = some r) : Fn Tryz.prog 102 [.agg (aJ a), .cp (aZ c)] (.b r) := by
 unfold pN at h;refine oT [.tmp 3] Tryz.func102 Tryz.results102 Tryz.ntmps102 ?_;refine aC (aA ?_);refine bB rfl (eB (v := .agg (aJ a)) (aF rfl) rfl rfl rfl) ?_;rintro _ ⟨b1, rfl⟩;refine ta Z3 (aB (aC (aA (to (qF (aZ c) rfl iT) (to (sla 0 (aJ a) rfl rfl mB) ?_)))));obtain ⟨r2, h3, h⟩ := bns h;refine to (scr Tryz.call103 (aJq _ _ h3)) (to (sn rfl) (ta (.b (!r2)) (aB ?_)));obtain rfl := sIn h;refine bL (bC (bE (l := [3]) ⟨rfl, trivial⟩)) ?_;exact rt

theorem tU (a : List Int) {r : (List Int)} (h : slices_Clone_int a = some r) : fP Tryz.prog 63 [.d (Z8 a)] [] (fun r' o' => ∃ (w0 : Value), r' = .d (.lit w0) ∧ o' = [.arr w0 3 1 (r.map aL)]) := by
 unfold slices_Clone_int at h;refine kA Tryz.func63 rfl (rs := [.tmp 2]) Tryz.results63 Tryz.ntmps63 (Nat.le_of_ble_eq_true rfl) ?_;refine aC (aA (to (iK 3 1 (.inl rfl) (aF rfl)) ?_));refine aB (aC (aC (aA (tm (Z41 a) ?_))));refine bB rfl (aLx (aF rfl) rfl rfl Tryz.underlying22) ?_;rintro _ ⟨b2, h3, rfl⟩;refine aB ?_;refine aAi rfl (fun c4 => ?_) (fun c4 => ?_)
 ·obtain rfl := aLi (h3 c4)
  simp [app] at h
  subst h;refine aC (aA (to (iK 3 1 (.inl rfl) (aF rfl)) ?_));refine aB ?_;refine bL (aN [1, 0] rfl rfl (le_refl _)) ?_;exact cI ⟨rfl, _, Z15, Z15, _, .one (.tmp 2 (v := .d Z29) rfl), .refl _, .same _, (.slice none 0 0), rfl, rfl⟩
 ·refine aU (aC (aA ?_));refine bB rfl (aHw (aF rfl) bG rfl rfl (rows := (([] : List Int)).map aL) rfl (cV (f := aL) fun _ => rfl) rfl (by decide)) ?_;rintro _ ⟨v5, rfl⟩;refine tm (Z41 a) ?_;obtain ⟨x6, h7, h⟩ := bns h;refine bB rfl (gM (i := 1) (aF rfl) bG rfl rfl rfl (fun _ => rfl) h7 rfl) ?_;rintro _ ⟨v8, rfl⟩;refine ta (.d (.lit v8)) (aB ?_);obtain rfl := sIn h;refine bL (aN [1, 0] rfl rfl (le_refl _)) ?_;exact cI ⟨rfl, _, [.arr v8 3 1 (x6.map aL)], Z15, _, .one (.tmp 2 (v := .d (.lit v8)) rfl), .refl _, .same _, v8, rfl, rfl⟩

theorem xY (f : aR) (n : List Int) (o : List (aE × Int)) (g : Int) {Q : (aE × Bool) → Prop} {t u : Nat} {c : Value} {w : Nat} {j : Nat} {s : List Nat} {e : Nat} (h : jG f n o g Q) : fP Tryz.prog 134 [.bp t u 0, .d (Z18 j), .i g] (Z7 t u f c w n j o s e) (fun r' o' => ∃ (r : aE × Bool), Q r ∧ r' = .tup [.agg (aJ r.1), .b r.2] ∧ o' = (Z7 t u f c w n j o s e)) := by
 unfold jG at h;refine kA Tryz.func134 rfl (rs := [.cell 6 67, .tmp 7]) Tryz.results134 Tryz.ntmps134 (Nat.le_of_ble_eq_true rfl) ?_;refine aC (aA ?_);refine bB rfl (cK (zs := [.j 0, .j 0, .j 0, .j 0, .j 0]) (aF rfl) Tryz.zeroValue67 rfl rfl) ?_;rintro _ ⟨b1, rfl⟩;refine ta Z3 (aB (aC (aC (aA (tm (.d (Z18 j)) ?_)))));refine bB rfl (aSi (m := 2) (aF rfl) Tryz.underlying159 rfl rfl) ?_;rintro _ ⟨q2, h4, rfl⟩;have h := aHd h h4;refine aB (aX ?_);refine wM [0, 2, 6, 10] (fun (s5 : aE × (List Nat)) => []) (fun (s5 : aE × (List Nat)) => [.arr c 3 1 (n.map aL), .box t u [.j f.Rounds, .sl 1 (Z9 f), .lit c, .lit (.map (some w))], .map j (o.map fun p : aE × Int => ((fun a : aE => Value.agg ((aJ a).map bT).toArray) p.1, (fun v : Int => AV.i v) p.2)) s e, .box b1 0 (aJ s5.1), .iter q2 j e s5.2 e]) (fun (k : Nat) (s5 : aE × (List Nat)) => jB Q g n f o k s5.1 (oI o s s5.2)) (fun _ h => h) (Z35, []) h (aN [1, 0, 2, 3, 4] rfl rfl (aM ⟨rfl, rfl, rfl, rfl, trivial⟩)) ?_;rintro k7 ⟨B, y⟩ h;simp only [jB] at h;refine aC (aA ?_);refine bB rfl (aVq (kv := (fun a : aE => Value.agg ((aJ a).map bT).toArray)) (av := (fun v : Int => AV.i v)) (l := o) (mi := 4) (mm := 2) (aF rfl) rfl rfl rfl) ?_;rintro _ (⟨I, rfl⟩ | ⟨j9, C, p8, E, rfl⟩)
 ·have h := h.1 I;refine to (sex rfl rfl) (aB (aC ?_));refine aAi rfl (fun F => ?_) (fun F => ?_)
  ·exact absurd F (by decide)
  ·refine bQ ?_;refine .inl ⟨rfl, ?_⟩;simp only [pB] at h;refine aC (aA (to (dZ (aF rfl) aVv (zs := [.j 0, .j 0, .j 0, .j 0, .j 0]) rfl rfl rfl rfl (es := [.j 0, .j 0, .j 0, .j 0, .j 0]) rfl) ?_));refine to (sst 3 rfl rfl Tryz.sizeOf67 (aJ Z35)) (ta Z3 (aB ?_));refine bL (aN [1, 0, 2, 3, 4] rfl rfl (le_refl _)) ?_;exact cI ⟨rfl, _, (Z7 t u f c w n j o s e), [.box b1 0 (aJ Z35), .iter q2 j e y e], _, .two (.cell 6 67 rfl (i := 3) rfl mB (es := (aJ Z35)) rfl rfl) (.tmp 7 (v := .b false) rfl), .refl _, .same _, (Z35, false), h, rfl, rfl⟩
 ·have h := aIz h E;refine to (sex rfl rfl) (aB (aC ?_));refine aAi rfl (fun G => ?_) (fun G => ?_)
  ·refine aU (aX (aC (aA (to (aSh (kv := (fun a : aE => Value.agg ((aJ a).map bT).toArray)) (av := (fun v : Int => AV.i v)) (l := o) (mi := 4) (mm := 2) (ka := .agg (aJ p8.1)) (aF rfl) rfl rfl rfl E (fun _ _ => .agg (aGy rfl))) ?_))));refine to (sex rfl rfl) ?_;refine bB rfl (cK (zs := [.j 0, .j 0, .j 0, .j 0, .j 0]) (aF rfl) Tryz.zeroValue67 rfl rfl) ?_;rintro _ ⟨z, rfl⟩;refine to (sst 5 rfl rfl Tryz.sizeOf67 (aJ p8.1)) (aB (aC ?_));obtain ⟨J, x, h⟩ := gL h;refine cN mix 16 [0, 2, 6, 8, 10] [(30, .b J)] ?_ ?_
   ·refine bch x (fun q x => ?_) (fun q x => ?_)
    ·obtain ⟨A, H, x⟩ := bns x;obtain rfl := sIn x;refine ⟨[(15, 0, .bp z 0 2), (16, 1, .i p8.1.Place), (17, 2, .i g), (18, 3, .b (decide (p8.1.Place = g))), (19, 4, .b (decide (p8.1.Place = g))), (20, 5, .bp z 0 4), (21, 6, .i p8.1.Old), (22, 7, .bp t u 0), (23, 8, .bp t u 0), (24, 9, .bp t u 2), (25, 10, .d (.lit c)), (26, 11, .i g), (27, 12, .ep c 1 g.toNat 0), (28, 13, .i A), (29, 14, .b (decide (p8.1.Old = A))), (30, 15, .b (decide (p8.1.Old = A)))], ?_, ?_⟩
     · exact dk [0, 1, 0, 203, 4, 5, 506, 5, 508, 509, 510, 5, 51112, 513, 50714, 515] ⟨go (zf rfl kG),
      go (zl 5 rfl rfl rfl aO),
      go (zm (.i g)),
      go (zcm rfl rfl rfl),
      go (zm (.b (decide (p8.1.Place = g)))),
      gt q (zf rfl yH),
      gt q (zl 5 rfl rfl rfl aO),
      gt q (zm (.bp t u 0)),
      gt q fun S hS => nO (aF rfl) (bF hS rfl),
      gt q (zf rfl pI),
      gt q (zl 1 rfl rfl rfl cD),
      gt q (zm (.i g)),
      gt q (zia 0 rfl rfl rfl bG.of (aV aL H)),
      gt q fun S hS => iY (aF rfl) (bF hS rfl) (m := 0) rfl (dM aL H) rfl aO,
      gt q (zcm rfl rfl rfl),
      go (zpt (.b (decide (p8.1.Old = A))) q), trivial⟩
     · exact cC (aH rfl (aM ⟨rfl, rfl, rfl, rfl, rfl, trivial⟩))
    ·obtain rfl := sIn x;refine ⟨[(15, 0, .bp z 0 2), (16, 1, .i p8.1.Place), (17, 2, .i g), (18, 3, .b (decide (p8.1.Place = g))), (19, 4, .b (decide (p8.1.Place = g))), (20, 5, .tup []), (21, 6, .tup []), (22, 7, .tup []), (23, 8, .tup []), (24, 9, .tup []), (25, 10, .tup []), (26, 11, .tup []), (27, 12, .tup []), (28, 13, .tup []), (29, 14, .tup []), (30, 15, .b false)], ?_, ?_⟩
     · exact dk [0, 1, 0, 203, 4, 5, 506, 5, 508, 509, 510, 5, 51112, 513, 50714, 515] ⟨go (zf rfl kG),
      go (zl 5 rfl rfl rfl aO),
      go (zm (.i g)),
      go (zcm rfl rfl rfl),
      go (zm (.b (decide (p8.1.Place = g)))),
      gp q,
      gp q,
      gp q,
      gp q,
      gp q,
      gp q,
      gp q,
      gp q,
      gp q,
      gp q,
      go (zpf Z3 q), trivial⟩
     · exact cC (aH rfl (aM ⟨rfl, rfl, rfl, rfl, rfl, trivial⟩))
   ·refine aB ?_;refine tip h (fun K h => ?_) (fun K h => ?_)
    ·refine aC (aA (to (sla 5 (aJ p8.1) rfl rfl mB) (to (sst 3 rfl rfl Tryz.sizeOf67 (aJ p8.1)) (ta Z10 (aB ?_)))));refine bL (aN [1, 0, 2, 3, 4, 5] rfl rfl (le_refl _)) ?_;exact cI ⟨rfl, _, (Z7 t u f c w n j o s e), [.box b1 0 (aJ p8.1), .iter q2 j e (y ++ [C]) e, .box z 0 (aJ p8.1)], _, .two (.cell 6 67 rfl (i := 3) rfl mB (es := (aJ p8.1)) rfl rfl) (.tmp 7 (v := .b true) rfl), .refl _, .same _, (p8.1, true), h, rfl, rfl⟩
    ·refine cL ?_;exact ⟨(B, (y ++ [C])), h, aN [0, 1, 2, 3, 4] rfl rfl (aM ⟨rfl, rfl, rfl, rfl, trivial⟩)⟩
  ·exact absurd G (by decide)

theorem aCn (e : aR) (w : List Int) (C : List (aE × Int)) {Q : (Bool × (List Int) × (List (aE × Int))) → Prop} {q s : Nat} {c : Value} {t : Nat} {g : Nat} {z : List Nat} {A : Nat} (h : mC e w C Q) : fP Tryz.prog 119 [.bp q s 0, .d (Z18 g)] [.box q s [.j e.Rounds, .sl 1 (Z9 e), .lit c, .lit (.map (some t))], .arr c 3 1 (w.map aL), .map g (C.map fun p : aE × Int => ((fun a : aE => Value.agg ((aJ a).map bT).toArray) p.1, (fun v : Int => AV.i v) p.2)) z A] (fun r' o' => ∃ (r : Bool × (List Int) × (List (aE × Int))) (U : List Nat) (V : Nat), Q r ∧ r' = .b r.1 ∧ o' = [.box q s [.j e.Rounds, .sl 1 (Z9 e), .lit c, .lit (.map (some t))], .arr c 3 1 (r.2.1.map aL), .map g (r.2.2.map fun p : aE × Int => ((fun a : aE => Value.agg ((aJ a).map bT).toArray) p.1, (fun v : Int => AV.i v) p.2)) U V]) := by
 unfold mC at h;refine kA Tryz.func119 rfl (rs := [.tmp 4]) Tryz.results119 Tryz.ntmps119 (Nat.le_of_ble_eq_true rfl) ?_;refine aC (aA (ta Z3 (aB (aC (aA (tm (.bp q s 0) (to (nO (aF rfl) rfl) ?_)))))));refine to (sf rfl zA) (tfl 0 rfl rfl eA rfl cD ?_);obtain ⟨r1, h2, h⟩ := gL h;refine bB rfl (aAd (aF rfl) (.func _ _ Tryz.call63) rfl rfl (tU _ h2)) ?_;rintro _ ⟨v3, rfl⟩;refine ta (.d (.lit v3)) (aB (aC (aC (aA (tm (.bp q s 0) (to (nO (aF rfl) rfl) ?_))))));refine tfl 0 rfl rfl pI rfl cD (to (kB (m := 1) (aF rfl) rfl rfl bG.of) ?_);refine tm (.i 0) (aB (aX ?_));refine wM [0, 1, 19] (fun (s4 : Int × (List Int) × (List (aE × Int)) × (List Int) × (List Nat) × Nat × Value) => [(5, .d (.lit s4.2.2.2.2.2.2)), (20, .i s4.1)]) (fun (s4 : Int × (List Int) × (List (aE × Int)) × (List Int) × (List Nat) × Nat × Value) => [.arr c 3 1 (s4.2.1.map aL), .box q s [.j e.Rounds, .sl 1 (Z9 e), .lit c, .lit (.map (some t))], .map g (s4.2.2.1.map fun p : aE × Int => ((fun a : aE => Value.agg ((aJ a).map bT).toArray) p.1, (fun v : Int => AV.i v) p.2)) s4.2.2.2.2.1 s4.2.2.2.2.2.1, .arr s4.2.2.2.2.2.2 3 1 (s4.2.2.2.1.map aL)]) (fun (k : Nat) (s4 : Int × (List Int) × (List (aE × Int)) × (List Int) × (List Nat) × Nat × Value) => cU Q (w.length : Int) e k s4.1 s4.2.1 s4.2.2.1 s4.2.2.2.1) (fun _ h => h) (0, w, C, r1, z, A, v3) h (aN [1, 0, 2, 3] rfl rfl (aH rfl (aH rfl (aM ⟨rfl, rfl, rfl, trivial⟩)))) ?_;rintro k8 ⟨j, B, u, H, L, M, w7⟩ h;simp only [cU] at h;refine aC (aA (to (scm rfl rfl rfl) (aB (aC ?_))));refine tip h (fun c9 h => ?_) (fun c9 h => ?_)
 ·refine aU (aC (aX (aC (aA (tm (.i j) (ta (.i j) (aB (aC (aA (tm (.bp q s 0) (tm (.d (Z18 g)) (tm (.i j) ?_))))))))))));refine sD (aN [1, 0, 2, 3] rfl rfl (le_refl _)) ?_;refine bB rfl (eZ (passed := [.box q s [.j e.Rounds, .sl 1 (Z9 e), .lit c, .lit (.map (some t))], .arr c 3 1 (B.map aL), .map g (u.map fun p : aE × Int => ((fun a : aE => Value.agg ((aJ a).map bT).toArray) p.1, (fun v : Int => AV.i v) p.2)) L M]) (aF rfl) rfl (.func _ _ Tryz.call134) rfl rfl (xY e B u j h)) ?_;rintro _ ⟨_, _, ⟨I, h, rfl, rfl⟩, rfl⟩;refine tm (.tup [.agg (aJ I.1), .b I.2]) (to (sex rfl rfl) (to (sex rfl rfl) ?_));refine bB rfl (cK (zs := [.j 0, .j 0, .j 0, .j 0, .j 0]) (aF rfl) Tryz.zeroValue67 rfl rfl) ?_;rintro _ ⟨W, rfl⟩;refine to (sst 4 rfl rfl Tryz.sizeOf67 (aJ I.1)) (ta (.b I.2) (aB ?_));refine tN ?_;refine wM [0, 1, 6, 19, 20] (fun (x : Bool × (List Int) × (List (aE × Int)) × aE × (List Int) × (List Nat) × Nat × Nat × Value) => [(5, .d (.lit x.2.2.2.2.2.2.2.2)), (7, .bp x.2.2.2.2.2.2.2.1 0 0), (8, .b x.1)]) (fun (x : Bool × (List Int) × (List (aE × Int)) × aE × (List Int) × (List Nat) × Nat × Nat × Value) => [.arr c 3 1 (x.2.1.map aL), .box q s [.j e.Rounds, .sl 1 (Z9 e), .lit c, .lit (.map (some t))], .map g (x.2.2.1.map fun p : aE × Int => ((fun a : aE => Value.agg ((aJ a).map bT).toArray) p.1, (fun v : Int => AV.i v) p.2)) x.2.2.2.2.2.1 x.2.2.2.2.2.2.1, .box x.2.2.2.2.2.2.2.1 0 (aJ x.2.2.2.1), .arr x.2.2.2.2.2.2.2.2 3 1 (x.2.2.2.2.1.map aL)]) (fun (k : Nat) (x : Bool × (List Int) × (List (aE × Int)) × aE × (List Int) × (List Nat) × Nat × Nat × Value) => eG Q (cU Q (w.length : Int) e k8) j (w.length : Int) j e k x.1 x.2.1 x.2.2.1 x.2.2.2.1 x.2.2.2.2.1) (fun _ h => h) (I.2, B, u, I.1, H, L, M, W, w7) h (aN [1, 0, 2, 4, 3] rfl rfl (aH rfl (aH rfl (aH rfl (aM ⟨rfl, rfl, rfl, rfl, rfl, trivial⟩))))) ?_;rintro a3 ⟨K, y, o, n, E, F, G, O, N⟩ h;simp only [eG] at h;refine aC (aC (aA (tm (.b K) (aB ?_))));refine tip h (fun X h => ?_) (fun X h => ?_)
  ·refine aU (aC (aX (aC (aC (aA (tm (.d (.lit N)) (tfl 3 rfl rfl nG rfl aO ?_)))))));obtain ⟨a4, Y, h⟩ := gL h;refine to (sc Tryz.call60 (fB _ _ Y) (.cons (.d (nX 4 rfl (cV (f := aL) fun _ => rfl))) (.cons (.same _) .nil))) (aB ?_);refine tip h (fun Z h => ?_) (fun Z h => ?_)
   ·refine aC (aA (ta Z3 (aB ?_)));refine bL (aN [1, 0, 2, 3, 4] rfl rfl (le_refl _)) ?_;exact cI ⟨rfl, _, [.box q s [.j e.Rounds, .sl 1 (Z9 e), .lit c, .lit (.map (some t))], .arr c 3 1 (y.map aL), .map g (o.map fun p : aE × Int => ((fun a : aE => Value.agg ((aJ a).map bT).toArray) p.1, (fun v : Int => AV.i v) p.2)) F G], [.box O 0 (aJ n), .arr N 3 1 (E.map aL)], _, .one (.tmp 4 (v := .b false) rfl), .refl _, .same _, (false, y, o), F, G, h, rfl, rfl⟩
   ·refine aU (aC ?_);refine cN mix 7 [0, 1, 5, 6, 7, 19, 20] [(45, .d (.lit c)), (46, .i j), (48, .i n.Player)] ?_ ?_
    ·refine ⟨[(42, 0, .bp q s 0), (43, 1, .bp q s 0), (44, 2, .bp q s 2), (45, 3, .d (.lit c)), (46, 4, .i j), (47, 5, .bp O 0 3), (48, 6, .i n.Player)], ?_, ?_⟩
     · exact dk [0, 1, 2, 3, 0, 0, 6] ⟨go (zm (.bp q s 0)),
      go fun S hS => nO (aF rfl) (bF hS rfl),
      go (zf rfl pI),
      go (zl 1 rfl rfl rfl cD),
      go (zm (.i j)),
      go (zf rfl nG),
      go (zl 3 rfl rfl rfl aO), trivial⟩
     · exact cC (aH rfl (aH rfl (aH rfl (aM ⟨rfl, rfl, rfl, rfl, rfl, rfl, rfl, trivial⟩))))
    ·obtain ⟨a5, P, h⟩ := gL h;refine to (iB (m := 0) (aF rfl) rfl rfl rfl bG.of (aV aL P)) ?_;refine to (lC (l := 0) rfl rfl (dM aL P) rfl rfl rfl Tryz.sizeOf3 rfl (aF rfl) (Nat.le_of_ble_eq_true rfl) (rows' := ((y.set j.toNat n.Player)).map aL) (rX _ _ _ _ rfl)) ?_;refine aB (aC (aA (tm (.d (.lit N)) (tfl 3 rfl rfl nG rfl aO (to (fL (aF rfl) bG rfl rfl (rows := ([n.Player]).map aL) rfl (cV (f := aL) fun _ => rfl) rfl (by decide)) ?_)))));obtain ⟨a0, a1, h⟩ := gL h;refine bB rfl (gM (i := 4) (aF rfl) bG rfl rfl rfl (fun _ => rfl) a1 rfl) ?_;rintro _ ⟨T, rfl⟩;refine ta (.d (.lit T)) (aB (aA (tm (.d (Z18 g)) (to (sla 3 (aJ n) rfl rfl mB) (to (aXk (av := (fun v : Int => AV.i v)) (l := o) (a := n) (m := 2) aPg Tryz.underlying159 rfl rfl rfl rfl (qL (enc := aJ) n rfl)) ?_)))));refine cM ?_;refine aC (aC (aA (to (sla 3 (aJ n) rfl rfl mB) (aB (aA ?_)))));refine bB rfl (cK (zs := [.j 0, .j 0, .j 0, .j 0, .j 0]) (aF rfl) Tryz.zeroValue67 rfl rfl) ?_;rintro _ ⟨a2, rfl⟩;refine to (sst 5 rfl rfl Tryz.sizeOf67 (aJ n)) (aB (aA (tm (.bp q s 0) (tm (.d (Z18 g)) (tm (.i j) ?_)))));refine sD (aN [1, 0, 2, 3, 4, 5] rfl rfl (le_refl _)) ?_;refine bB rfl (eZ (passed := [.box q s [.j e.Rounds, .sl 1 (Z9 e), .lit c, .lit (.map (some t))], .arr c 3 1 ((y.set j.toNat n.Player).map aL), .map g ((rH n o).map fun p : aE × Int => ((fun a : aE => Value.agg ((aJ a).map bT).toArray) p.1, (fun v : Int => AV.i v) p.2)) (aCt n o F) G]) (aF rfl) rfl (.func _ _ Tryz.call134) rfl rfl (xY e (y.set j.toNat n.Player) (rH n o) j h)) ?_;rintro _ ⟨_, _, ⟨J, h, rfl, rfl⟩, rfl⟩;refine tm (.tup [.agg (aJ J.1), .b J.2]) (to (sex rfl rfl) (to (sex rfl rfl) (to (sst 5 rfl rfl Tryz.sizeOf67 (aJ J.1)) (ta (.b J.2) (aB ?_)))));exact ⟨(J.2, (y.set j.toNat n.Player), (rH n o), J.1, a0, (aCt n o F), G, a2, T), h, aN [1, 0, 2, 5, 4] rfl rfl (aH rfl (aH rfl (aH rfl (aM ⟨rfl, rfl, rfl, rfl, rfl, trivial⟩))))⟩
  ·refine bQ ?_;refine .inl ⟨rfl, ?_⟩;simp only [mU] at h;simp only [mT] at h;refine aA (to (sar rfl rfl rfl) (tm (.i (w64 (j + 1))) (aB ?_)));exact ⟨(w64 (j + 1), y, o, E, F, G, N), h, aN [0, 1, 2, 4] rfl rfl (aH rfl (aH rfl (aM ⟨rfl, rfl, rfl, trivial⟩)))⟩
 ·refine bQ ?_;refine .inl ⟨rfl, ?_⟩;simp only [mS] at h;refine aC (aA (tm (.d (Z18 g)) (to (aXm (m := 2) (aF rfl) Tryz.underlying159 rfl rfl) ?_)));refine to (scm rfl rfl rfl) (ta (.b (decide ((u.length : Int) = 0))) (aB ?_));refine bL (aN [1, 0, 2, 3] rfl rfl (le_refl _)) ?_;exact cI ⟨rfl, _, [.box q s [.j e.Rounds, .sl 1 (Z9 e), .lit c, .lit (.map (some t))], .arr c 3 1 (B.map aL), .map g (u.map fun p : aE × Int => ((fun a : aE => Value.agg ((aJ a).map bT).toArray) p.1, (fun v : Int => AV.i v) p.2)) L M], [.arr w7 3 1 (H.map aL)], _, .one (.tmp 4 (v := .b (decide ((u.length : Int) = 0))) rfl), .refl _, .same _, (decide ((u.length : Int) = 0), B, u), L, M, h, rfl, rfl⟩

theorem uD (a : Int) (b : Int) {r : aG} (h : pC a b = some r) : Fn Tryz.prog 116 [.i a, .i b] (.agg (aQ r)) := by
 unfold pC at h;refine kX Tryz.func116 rfl (rs := [.cell 4 155]) Tryz.results116 Tryz.ntmps116 (Nat.le_of_ble_eq_true rfl) ?_;refine aC (aA ?_);refine bB rfl (cK (zs := [.j 0, .j 0]) (aF rfl) Tryz.zeroValue155 rfl rfl) ?_;rintro _ ⟨b1, rfl⟩;refine aB (aC (aA (tm (.i a) (tm (.i b) (tm (.i a) (to (sar rfl rfl rfl) ?_))))));obtain ⟨u2, h3, h⟩ := bns h;refine to (aAf (aF rfl) rfl rfl (aBz h3)) ?_;refine to (dZ (aF rfl) aMp (zs := [.j 0, .j 0]) rfl rfl rfl rfl (es := [.j a, .j (Z24 b a)]) rfl) ?_;refine to (sst 0 rfl rfl Tryz.sizeOf155 (aQ (aG.mk a (Z24 b a)))) (aB ?_);obtain rfl := sIn h;exact cI ⟨rfl, _, [.box b1 0 (aQ (aG.mk a (Z24 b a)))], .one (.cell 4 155 rfl (i := 0) rfl wP (es := (aQ (aG.mk a (Z24 b a)))) rfl rfl), .refl _, .same _⟩

theorem xZ (g : aR) (o : List Int) (y : List (aG × Int)) (s : Int) (u : Int) {r : Bool × (List (aG × Int))} {j n : Nat} {e : Value} {f : Nat} {w : List Nat} {x : Nat} (h : mL g o y s u = some r) : fP Tryz.prog 120 [.bp j n 0, .i s, .i u] [.box j n [.j g.Rounds, .sl 1 (Z9 g), .lit e, .lit (.map (some f))], .arr e 3 1 (o.map aL), .map f (y.map fun p : aG × Int => ((fun a : aG => Value.agg ((aQ a).map bT).toArray) p.1, (fun v : Int => AV.i v) p.2)) w x] (fun r' o' => ∃ (A : List Nat) (H : Nat), r' = .b r.1 ∧ o' = [.box j n [.j g.Rounds, .sl 1 (Z9 g), .lit e, .lit (.map (some f))], .arr e 3 1 (o.map aL), .map f (r.2.map fun p : aG × Int => ((fun a : aG => Value.agg ((aQ a).map bT).toArray) p.1, (fun v : Int => AV.i v) p.2)) A H]) := by
 unfold mL at h;refine kA Tryz.func120 rfl (rs := [.tmp 6]) Tryz.results120 Tryz.ntmps120 (Nat.le_of_ble_eq_true rfl) ?_;refine aC (aA (ta Z3 (aB (aC (aC (aA (tm (.i u) (to (sar rfl rfl rfl) (tm (.i 0) (aB (aX ?_)))))))))));refine bP (S := Int × (List (aG × Int)) × (List Nat) × Nat) [0, 1, 12] (fun s1 => [(13, .i s1.1)]) (fun s1 => [.arr e 3 1 (o.map aL), .map f (s1.2.1.map fun p : aG × Int => ((fun a : aG => Value.agg ((aQ a).map bT).toArray) p.1, (fun v : Int => AV.i v) p.2)) s1.2.2.1 s1.2.2.2, .box j n [.j g.Rounds, .sl 1 (Z9 g), .lit e, .lit (.map (some f))]]) (fun k s1 => jC s (w64 (u + 1)) o g k s1.1 s1.2.1) (fun _ => rfl) (0, y, w, x) h (aN [1, 2, 0] rfl rfl (aH rfl (aM ⟨rfl, rfl, rfl, trivial⟩))) ?_;rintro k4 ⟨t, c, A, C⟩ h;simp only [jC] at h;refine aC (aA (to (scm rfl rfl rfl) (aB (aC ?_))));refine tih h (fun c5 h => ?_) (fun c5 h => ?_)
 ·refine aU (aC (aX (aC (aA (tm (.i t) (ta (.i t) (aB (aC (aA (tm (.i t) (tm (.i s) ?_)))))))))));obtain ⟨r6, h7, h⟩ := bns h;refine to (eY (aF rfl) (.func _ _ Tryz.call116) rfl rfl (uD _ _ h7)) ?_;refine bB rfl (cK (zs := [.j 0, .j 0]) (aF rfl) Tryz.zeroValue155 rfl rfl) ?_;rintro _ ⟨b8, rfl⟩;refine to (sst 3 rfl rfl Tryz.sizeOf155 (aQ r6)) (aB (aC (aC ?_)));refine cN mix 10 [0, 1, 8, 12, 13] [(9, .i (cT r6 0 c)), (27, .b (dS r6 c))] ?_ ?_
  ·refine ⟨[(20, 0, .bp j n 0), (21, 1, .bp j n 0), (22, 2, .bp j n 3), (23, 3, .d (Z18 f)), (24, 4, .agg (aQ r6)), (25, 5, .tup [.i (cT r6 0 c), .b (dS r6 c)]), (19, 6, .tup [.i (cT r6 0 c), .b (dS r6 c)]), (26, 7, .i (cT r6 0 c)), (27, 8, .b (dS r6 c)), (9, 9, .i (cT r6 0 c))], ?_, ?_⟩
   · exact dk [0, 1, 2, 3, 0, 405, 6, 7, 7, 8] ⟨go (zm (.bp j n 0)),
      go fun S hS => nO (aF rfl) (bF hS rfl),
      go (zf rfl aBy),
      go (zl 2 rfl rfl rfl aIk),
      go (zla 3 (aQ r6) rfl rfl wP),
      go fun S hS => aLz (av := (fun v : Int => AV.i v)) (l := c) (z := 0) (a := r6) (m := 1) (aF rfl) aAn Tryz.underlying151 Tryz.zeroValue3 (fun _ _ => .d (.lit _ rfl)) (bF hS rfl) rfl rfl (bF hS rfl) (qL (enc := aQ) r6 rfl),
      go (zm (.tup [.i (cT r6 0 c), .b (dS r6 c)])),
      go (zex rfl rfl),
      go (zex rfl rfl),
      go (za (.i (cT r6 0 c))), trivial⟩
   · exact cC (aH rfl (aH rfl (aM ⟨rfl, rfl, rfl, rfl, rfl, trivial⟩)))
  ·refine ta (.b (dS r6 c)) (aB (aC (aA (tm (.b (dS r6 c)) (tm (.b (dS r6 c)) ?_)))));obtain ⟨b9, B, h⟩ := bns h;refine aW 10 [0, 1, 8, 12, 13] 39 b9 ?_ ?_
   ·refine bch B (fun q B => ?_) (fun q B => ?_)
    ·refine tk q (sm (.i (cT r6 0 c))) (tk q (sm (.bp j n 0)) (tk q (nO (aF rfl) rfl) ?_));refine tkl 2 q rfl rfl pI rfl cD (tk q (sm (.i s)) ?_);obtain ⟨I, F, B⟩ := bns B;refine tk q (iB (m := 0) (aF rfl) rfl rfl rfl bG.of (aV aL F)) ?_;refine tk q (iY (aF rfl) rfl (m := 0) rfl (dM aL F) rfl aO) ?_;refine tk q (scm rfl rfl rfl) (to (spt (.b (!decide ((cT r6 0 c) = I))) q) ?_);obtain rfl := sIn B;refine aB (aK rfl ⟨rfl, rfl, rfl, rfl, rfl, trivial⟩ rfl)
    ·refine tp q (tp q (tp q (tp q (tp q (tp q (tp q (tp q (tp q (to (spf Z3 q) ?_)))))))));obtain rfl := sIn B;refine aB (aK rfl ⟨rfl, rfl, rfl, rfl, rfl, trivial⟩ rfl)
   ·refine aB ?_;refine tih h (fun J h => ?_) (fun J h => ?_)
    ·refine aC (aA (ta Z3 (aB ?_)));obtain rfl := sIn h;refine bL (aN [2, 0, 1, 3] rfl rfl (le_refl _)) ?_;exact cI ⟨rfl, _, [.box j n [.j g.Rounds, .sl 1 (Z9 g), .lit e, .lit (.map (some f))], .arr e 3 1 (o.map aL), .map f (c.map fun p : aG × Int => ((fun a : aG => Value.agg ((aQ a).map bT).toArray) p.1, (fun v : Int => AV.i v) p.2)) A C], [.box b8 0 (aQ r6)], _, .one (.tmp 6 (v := .b false) rfl), .refl _, .same _, A, C, rfl, rfl⟩
    ·refine aU ?_;obtain ⟨E, G, h⟩ := bns h;refine cN mix 12 [0, 1, 12, 13] [(43, .d (Z18 f)), (44, .agg (aQ r6)), (51, .i E)] ?_ ?_
     ·refine ⟨[(40, 0, .bp j n 0), (41, 1, .bp j n 0), (42, 2, .bp j n 3), (43, 3, .d (Z18 f)), (44, 4, .agg (aQ r6)), (45, 5, .bp j n 0), (46, 6, .bp j n 0), (47, 7, .bp j n 2), (48, 8, .d (.lit e)), (49, 9, .i s), (50, 10, .ep e 1 s.toNat 0), (51, 11, .i E)], ?_, ?_⟩
      · exact dk [0, 1, 2, 3, 0, 0, 6, 7, 8, 0, 910, 11] ⟨go (zm (.bp j n 0)),
      go fun S hS => nO (aF rfl) (bF hS rfl),
      go (zf rfl aBy),
      go (zl 2 rfl rfl rfl aIk),
      go (zla 3 (aQ r6) rfl rfl wP),
      go (zm (.bp j n 0)),
      go fun S hS => nO (aF rfl) (bF hS rfl),
      go (zf rfl pI),
      go (zl 2 rfl rfl rfl cD),
      go (zm (.i s)),
      go (zia 0 rfl rfl rfl bG.of (aV aL G)),
      go fun S hS => iY (aF rfl) (bF hS rfl) (m := 0) rfl (dM aL G) rfl aO, trivial⟩
      · exact cC (aH rfl (aH rfl (aH rfl (aM ⟨rfl, rfl, rfl, rfl, trivial⟩))))
     ·refine to (aCw (av := (fun v : Int => AV.i v)) (l := c) (v := E) (a := r6) (m := 1) aAn Tryz.underlying151 rfl rfl rfl rfl (qL (enc := aQ) r6 rfl) rfl rfl) ?_;refine cM ?_;refine aA (to (sar rfl rfl rfl) (tm (.i (w64 (t + 1))) (aB ?_)));exact ⟨(w64 (t + 1), (gQ r6 E c), (mbs r6 c A C), (mck r6 c C)), h, aN [0, 1, 2] rfl rfl (aH rfl (aM ⟨rfl, rfl, rfl, trivial⟩))⟩
 ·refine bQ ?_;refine .inl ⟨rfl, ?_⟩;simp only [sL] at h;refine aC (aA (ta Z10 (aB ?_)));obtain rfl := sIn h;refine bL (aN [2, 0, 1] rfl rfl (le_refl _)) ?_;exact cI ⟨rfl, _, [.box j n [.j g.Rounds, .sl 1 (Z9 g), .lit e, .lit (.map (some f))], .arr e 3 1 (o.map aL), .map f (c.map fun p : aG × Int => ((fun a : aG => Value.agg ((aQ a).map bT).toArray) p.1, (fun v : Int => AV.i v) p.2)) A C], [], _, .one (.tmp 6 (v := .b true) rfl), .refl _, .same _, A, C, rfl, rfl⟩

theorem aKu (j : aR) (P : List aE) {Q : ((Option bA) × Bool) → Prop} (h : tA j P Q) : fP Tryz.prog 104 (Z30 j P) [] (fun r' o' => ∃ (r : (Option bA) × Bool), Q r ∧ r' = .tup [fF bN r.1, .b r.2] ∧ o' = []) := by
 unfold tA at h;refine kA Tryz.func104 rfl (rs := [.tmp 4, .tmp 5]) Tryz.results104 Tryz.ntmps104 (Nat.le_of_ble_eq_true rfl) ?_;refine aC (aA ?_);refine bB rfl (eB (v := .agg (aZ j)) (aF rfl) rfl rfl rfl) ?_;rintro _ ⟨b1, rfl⟩;refine ta (fF bN (none : Option bA)) (ta Z3 (aB (aC ?_)));obtain ⟨r3, h4, h⟩ := gL h;refine vD mix 5 [1] (fun X2 => [(19, .agg (aZ j)), (22, .d (.lit (X2 3).v)), (23, .d (.lit (.map (some (X2 4).b))))]) (fun X2 => [.box b1 0 (aZ j), .arr (X2 3).v 3 1 (r3.map aL), .map (X2 4).b (([] : List (aG × Int)).map fun p : aG × Int => ((fun a : aG => Value.agg ((aQ a).map bT).toArray) p.1, (fun v : Int => AV.i v) p.2)) ([]) 0]) ?_ ?_
 ·refine ⟨2, fun X2 => [(19, 0, .agg (aZ j)), (20, 1, .bp b1 0 1), (21, 2, .d (.sl 1 (Z9 j))), (22, 3, .d (.lit (X2 3).v)), (23, 4, .d (.lit (.map (some (X2 4).b))))], fun X2 => [([], .box b1 0 (aZ j)), ([(3, .arr (X2 3).v 3 1 (r3.map aL))], nob), ([(4, .map (X2 4).b (([] : List (aG × Int)).map fun p : aG × Int => ((fun a : aG => Value.agg ((aQ a).map bT).toArray) p.1, (fun v : Int => AV.i v) p.2)) ([]) 0)], nob)], ?_, ?_⟩
  · exact xok [(0, 0), (0, 4), (2, 4), (3, 0), (0, 0)] ⟨fun X2 S w _ k => xp w (yla k 0 (aZ j) rfl (og k rfl rfl) iT),
      fun X2 S w _ k => xp w (yf k rfl eA),
      fun X2 S w _ k => xp w (yl k 0 rfl (og k rfl rfl) rfl cD),
      fun X2 S hw hi hS => aWd (X := X2) (p := 1) (v := fun x => .d (.lit x.v)) (mo := fun x => .arr x.v 3 1 (r3.map aL)) hS hi rfl rfl (fun _ => rfl) hw (fun _ => rfl) (fun _ => rfl) (fun _ => rfl) (fun _ => ⟨rfl, rfl, .inr rfl, ⟨rfl, rfl, .inr rfl, ⟨rfl, rfl, .inr rfl, ⟨rfl, rfl, .inl rfl, ⟨rfl, rfl, .inr rfl, trivial⟩⟩⟩⟩⟩) (fun _ => ⟨trivial, rfl, ⟨⟨rfl, .inl rfl, trivial⟩, rfl, ⟨⟨rfl, .inr rfl, trivial⟩, rfl, trivial⟩⟩⟩) (aId (aAd (aF rfl) (.func _ _ Tryz.call63) (ev2 (bF hS rfl) evn) rfl (tU _ h4)) (by rintro _ ⟨w, rfl⟩; exact ⟨⟨0, w⟩, aN [0, 3, 2] rfl rfl (le_refl _)⟩)),
      fun X2 S hw hi hS => aWd (X := X2) (p := 2) (v := fun x => .d (.lit (.map (some x.b)))) (mo := fun x => .map x.b (([] : List (aG × Int)).map fun p : aG × Int => ((fun a : aG => Value.agg ((aQ a).map bT).toArray) p.1, (fun v : Int => AV.i v) p.2)) ([]) 0) hS hi rfl rfl (fun _ => rfl) hw (fun _ => rfl) (fun _ => rfl) (fun _ => rfl) (fun _ => ⟨rfl, rfl, .inr rfl, ⟨rfl, rfl, .inr rfl, ⟨rfl, rfl, .inr rfl, ⟨rfl, rfl, .inr rfl, ⟨rfl, rfl, .inl rfl, trivial⟩⟩⟩⟩⟩) (fun _ => ⟨trivial, rfl, ⟨⟨rfl, .inr rfl, trivial⟩, rfl, ⟨⟨rfl, .inl rfl, trivial⟩, rfl, trivial⟩⟩⟩) (aId (aCh (aF rfl)) (by rintro _ ⟨w, rfl⟩; exact ⟨⟨w, undef⟩, aN [0, 1, 3] rfl rfl (le_refl _)⟩)), trivial⟩
  · exact fun X2 => cC (aH rfl (aH rfl (aH rfl (aM ⟨rfl, trivial⟩))))
 ·intro X2;refine to (dZ (aF rfl) aZk (zs := [.j 0, .sl 1 ((([] : List Int)).map aL), .sl 1 ((([] : List Int)).map aL), .lit (.map none)]) rfl rfl rfl rfl (es := [.j j.Rounds, .sl 1 (Z9 j), .lit (X2 3).v, .lit (.map (some (X2 4).b))]) rfl) ?_;refine bB rfl (eB (v := .agg [.j j.Rounds, .sl 1 (Z9 j), .lit (X2 3).v, .lit (.map (some (X2 4).b))]) (aF rfl) rfl rfl rfl) ?_;rintro _ ⟨b5, rfl⟩;refine ta (.bp b5 0 0) (aB (aC (aA ?_)));refine bB rfl (aCh (aF rfl)) ?_;rintro _ ⟨r6, rfl⟩;refine bB rfl (aCh (aF rfl)) ?_;rintro _ ⟨r7, rfl⟩;refine ta (.d (.lit (.map (some r6)))) (ta (.d (.lit (.map (some r7)))) (aB (aC (aC (aA (tm (Z27 P) (to (sle rfl fO.of) (tm (.i 0) (aB (aX ?_))))))))));refine wM [6, 7, 8, 28, 29] (fun (s8 : Int × (List (aE × Int)) × (List (aG × aE)) × (List Nat) × Nat × (List Nat) × Nat) => [(30, .i s8.1)]) (fun (s8 : Int × (List (aE × Int)) × (List (aG × aE)) × (List Nat) × Nat × (List Nat) × Nat) => [.arr (X2 3).v 3 1 (r3.map aL), .map (X2 4).b (([] : List (aG × Int)).map fun p : aG × Int => ((fun a : aG => Value.agg ((aQ a).map bT).toArray) p.1, (fun v : Int => AV.i v) p.2)) ([]) 0, .box b5 0 [.j j.Rounds, .sl 1 (Z9 j), .lit (X2 3).v, .lit (.map (some (X2 4).b))], .map r6 (s8.2.1.map fun p : aE × Int => ((fun a : aE => Value.agg ((aJ a).map bT).toArray) p.1, (fun v : Int => AV.i v) p.2)) s8.2.2.2.1 s8.2.2.2.2.1, .map r7 (s8.2.2.1.map fun p : aG × aE => ((fun a : aG => Value.agg ((aQ a).map bT).toArray) p.1, (fun v : aE => AV.agg (aJ v)) p.2)) s8.2.2.2.2.2.1 s8.2.2.2.2.2.2]) (fun (k : Nat) (s8 : Int × (List (aE × Int)) × (List (aG × aE)) × (List Nat) × Nat × (List Nat) × Nat) => iZ Q P (P.length : Int) r3 ([] : List (aG × Int)) j k s8.1 s8.2.1 s8.2.2.1) (fun _ h => h) (0, ([] : List (aE × Int)), ([] : List (aG × aE)), [], 0, [], 0) h (aN [1, 2, 3, 4, 5] rfl rfl (aH rfl (aM ⟨rfl, rfl, rfl, rfl, rfl, trivial⟩))) ?_;rintro d7 ⟨I, g, e, J, y, B, s⟩ h;simp only [iZ] at h;refine aC (aA (to (scm rfl rfl rfl) (aB (aC ?_))));refine tip h (fun c0 h => ?_) (fun c0 h => ?_)
  ·refine aU (aC (aX (aC (aA ?_))));obtain ⟨c, c1, h⟩ := gL h;refine to (six rfl rfl fO.of (aV aJ c1)) (to (qF (aJ c) rfl mB) ?_);refine bB rfl (cK (zs := [.j 0, .j 0, .j 0, .j 0, .j 0]) (aF rfl) Tryz.zeroValue67 rfl rfl) ?_;rintro _ ⟨a0, rfl⟩;refine to (sst 5 rfl rfl Tryz.sizeOf67 (aJ c)) (aB (aC (aC (aA (tfl 5 rfl rfl mF rfl aO (to (scm rfl rfl rfl) (aB ?_)))))));refine tip h (fun c2 h => ?_) (fun c2 h => ?_)
   ·refine aC ?_;refine vD mix 6 [6, 7, 8, 28, 29, 30] (fun G => [(37, .d (.lit (.map (some r6)))), (40, .i (w64 ((cT c 0 g) + 1))), (42, .i (tD c g J y))]) (fun G => [.arr (X2 3).v 3 1 (r3.map aL), .map (X2 4).b (([] : List (aG × Int)).map fun p : aG × Int => ((fun a : aG => Value.agg ((aQ a).map bT).toArray) p.1, (fun v : Int => AV.i v) p.2)) ([]) 0, .box b5 0 [.j j.Rounds, .sl 1 (Z9 j), .lit (X2 3).v, .lit (.map (some (X2 4).b))], .map r6 ((rI c 0 g).map fun p : aE × Int => ((fun a : aE => Value.agg ((aJ a).map bT).toArray) p.1, (fun v : Int => AV.i v) p.2)) (mbs c g J y) (mck c g y), .map r7 (e.map fun p : aG × aE => ((fun a : aG => Value.agg ((aQ a).map bT).toArray) p.1, (fun v : aE => AV.agg (aJ v)) p.2)) B s, .box a0 0 (aJ c)]) ?_ ?_
    ·refine ⟨0, fun G => [(37, 0, .d (.lit (.map (some r6)))), (38, 1, .agg (aJ c)), (39, 2, .i (cT c 0 g)), (40, 3, .i (w64 ((cT c 0 g) + 1))), (41, 4, .tup [.i (cT c 0 g), .i (tD c g J y)]), (42, 5, .i (tD c g J y))], fun G => [([], .arr (X2 3).v 3 1 (r3.map aL)), ([], .map (X2 4).b (([] : List (aG × Int)).map fun p : aG × Int => ((fun a : aG => Value.agg ((aQ a).map bT).toArray) p.1, (fun v : Int => AV.i v) p.2)) ([]) 0), ([], .box b5 0 [.j j.Rounds, .sl 1 (Z9 j), .lit (X2 3).v, .lit (.map (some (X2 4).b))]), ([(4, .map r6 ((rI c 0 g).map fun p : aE × Int => ((fun a : aE => Value.agg ((aJ a).map bT).toArray) p.1, (fun v : Int => AV.i v) p.2)) (mbs c g J y) (mck c g y))], .map r6 (g.map fun p : aE × Int => ((fun a : aE => Value.agg ((aJ a).map bT).toArray) p.1, (fun v : Int => AV.i v) p.2)) J y), ([], .map r7 (e.map fun p : aG × aE => ((fun a : aG => Value.agg ((aQ a).map bT).toArray) p.1, (fun v : aE => AV.agg (aJ v)) p.2)) B s), ([], .box a0 0 (aJ c))], ?_, ?_⟩
     · exact xok [(0, 5), (0, 5), (102, 0), (3, 0), (102, 0), (5, 0)] ⟨fun G S w _ k => xp w (ym k (.d (.lit (.map (some r6))))),
      fun G S w _ k => xp w (yla k 5 (aJ c) rfl (og k rfl rfl) mB),
      fun G S w _ k => xp w (aVp (av := (fun v : Int => AV.i v)) (l := g) (z := 0) (a := c) (m := 3) (aF rfl) aPg Tryz.underlying159 Tryz.zeroValue3 (fun _ _ => .d (.lit _ rfl)) (bF k rfl) (og2 rfl) rfl (bF k rfl) (qL (enc := aJ) c rfl)),
      fun G S w _ k => xp w (yar k rfl rfl rfl),
      fun G S hw hi hS => bAy (X := G) (p := 3) hS rfl rfl rfl (hw G) rfl rfl rfl (aId (aTr (av := (fun v : Int => AV.i v)) (l := g) (z := 0) (a := c) (m := 3) (aF rfl) aPg Tryz.underlying159 Tryz.zeroValue3 (fun _ _ => .d (.lit _ rfl)) (bF hS rfl) (og hS rfl rfl) rfl (bF hS rfl) (qL (enc := aJ) c rfl)) (by rintro _ rfl; exact Ent.refl _)),
      fun G S w _ k => xp w (yex k rfl rfl), trivial⟩
     · exact fun G => cC (aH rfl (aH rfl (aH rfl (aM ⟨rfl, rfl, rfl, rfl, rfl, rfl, trivial⟩))))
    ·intro G;refine to (aNz (kv := (fun a : aE => Value.agg ((aJ a).map bT).toArray)) (av := (fun v : Int => AV.i v)) (l := g) (z := 0) (v := w64 ((cT c 0 g) + 1)) (a := c) (m := 3) rfl rfl rfl rfl rfl) ?_;refine aB ?_;refine bQ ?_;refine .inl ⟨rfl, ?_⟩;refine aA (to (sar rfl rfl rfl) (tm (.i (w64 (I + 1))) (aB ?_)));exact ⟨(w64 (I + 1), (gQ c (w64 ((cT c 0 g) + 1)) g), e, (mbs c g J y), (mck c g y), B, s), h, aN [0, 1, 2, 3, 4] rfl rfl (aH rfl (aM ⟨rfl, rfl, rfl, rfl, rfl, trivial⟩))⟩
   ·refine aU (aC (aA (tfl 5 rfl rfl oN rfl aO (tfl 5 rfl rfl kG rfl aO (to (dZ (aF rfl) aMp (zs := [.j 0, .j 0]) rfl rfl rfl rfl (es := [.j c.Round, .j c.Place]) rfl) ?_)))));refine bB rfl (cK (zs := [.j 0, .j 0]) (aF rfl) Tryz.zeroValue155 rfl rfl) ?_;rintro _ ⟨c3, rfl⟩;refine to (sst 6 rfl rfl Tryz.sizeOf155 (aQ (aG.mk c.Round c.Place))) (aB (aC (aC (aA (tm (.d (.lit (.map (some r7)))) (to (sla 6 (aQ (aG.mk c.Round c.Place)) rfl rfl wP) (to (aLz (av := (fun v : aE => AV.agg (aJ v))) (l := e) (z := (aE.mk 0 0 0 0 0)) (a := (aG.mk c.Round c.Place)) (m := 4) (aF rfl) aAn Tryz.underlying160 Tryz.zeroValue67 (fun _ _ => .agg (aGy rfl)) rfl rfl rfl rfl (qL (enc := aQ) (aG.mk c.Round c.Place) rfl)) ?_)))))));refine tm (.tup [.agg (aJ (cT (aG.mk c.Round c.Place) (aE.mk 0 0 0 0 0) e)), .b (dS (aG.mk c.Round c.Place) e)]) (to (sex rfl rfl) (to (sex rfl rfl) ?_));refine bB rfl (cK (zs := [.j 0, .j 0, .j 0, .j 0, .j 0]) (aF rfl) Tryz.zeroValue67 rfl rfl) ?_;rintro _ ⟨c4, rfl⟩;refine to (sst 7 rfl rfl Tryz.sizeOf67 (aJ (cT (aG.mk c.Round c.Place) (aE.mk 0 0 0 0 0) e))) (ta (.b (dS (aG.mk c.Round c.Place) e)) (aB (aC (aA (tm (.b (dS (aG.mk c.Round c.Place) e)) (tm (.b (dS (aG.mk c.Round c.Place) e)) ?_))))));obtain ⟨c5, T, h⟩ := gL h;refine aW 4 [6, 7, 8, 10, 11, 28, 29, 30] 59 c5 ?_ ?_
    ·refine bch T (fun K T => ?_) (fun K T => ?_)
     ·refine tk K (sla 7 (aJ (cT (aG.mk c.Round c.Place) (aE.mk 0 0 0 0 0) e)) rfl rfl mB) (tk K (sla 5 (aJ c) rfl rfl mB) (tk K (aIo (a := (cT (aG.mk c.Round c.Place) (aE.mk 0 0 0 0 0) e)) (b := c) (aF rfl) rfl rfl rfl rfl Tryz.eqGuardType67 aOx) ?_));refine to (spt (.b (!decide ((cT (aG.mk c.Round c.Place) (aE.mk 0 0 0 0 0) e) = c))) K) ?_;obtain rfl := sIn T;refine aB (aK rfl ⟨rfl, rfl, rfl, rfl, rfl, rfl, rfl, rfl, trivial⟩ rfl)
     ·refine tp K (tp K (tp K (to (spf Z3 K) ?_)));obtain rfl := sIn T;refine aB (aK rfl ⟨rfl, rfl, rfl, rfl, rfl, rfl, rfl, rfl, trivial⟩ rfl)
    ·refine aB ?_;refine tip h (fun c6 h => ?_) (fun c6 h => ?_)
     ·refine aC (aA (ta (fF bN (none : Option bA)) (ta Z3 (aB ?_))));exact cI ⟨rfl, _, [], [.arr (X2 3).v 3 1 (r3.map aL), .map (X2 4).b (([] : List (aG × Int)).map fun p : aG × Int => ((fun a : aG => Value.agg ((aQ a).map bT).toArray) p.1, (fun v : Int => AV.i v) p.2)) ([]) 0, .box b5 0 [.j j.Rounds, .sl 1 (Z9 j), .lit (X2 3).v, .lit (.map (some (X2 4).b))], .map r6 (g.map fun p : aE × Int => ((fun a : aE => Value.agg ((aJ a).map bT).toArray) p.1, (fun v : Int => AV.i v) p.2)) J y, .map r7 (e.map fun p : aG × aE => ((fun a : aG => Value.agg ((aQ a).map bT).toArray) p.1, (fun v : aE => AV.agg (aJ v)) p.2)) B s, .box a0 0 (aJ c), .box c3 0 (aQ (aG.mk c.Round c.Place)), .box c4 0 (aJ (cT (aG.mk c.Round c.Place) (aE.mk 0 0 0 0 0) e))], _, .two (.tmp 4 (v := fF bN (none : Option bA)) rfl) (.tmp 5 (v := .b false) rfl), .refl _, .same _, ((none : Option bA), false), h, rfl, rfl⟩
     ·refine aU (aA (tm (.d (.lit (.map (some r7)))) (to (sla 6 (aQ (aG.mk c.Round c.Place)) rfl rfl wP) (to (sla 5 (aJ c) rfl rfl mB) (to (aCw (av := (fun v : aE => AV.agg (aJ v))) (l := e) (v := c) (a := (aG.mk c.Round c.Place)) (m := 4) aAn Tryz.underlying160 rfl rfl rfl rfl (qL (enc := aQ) (aG.mk c.Round c.Place) rfl) rfl rfl) ?_)))));refine cM ?_;refine aA (to (sar rfl rfl rfl) (tm (.i (w64 (I + 1))) (aB ?_)));exact ⟨(w64 (I + 1), g, (gQ (aG.mk c.Round c.Place) c e), J, y, (mbs (aG.mk c.Round c.Place) e B s), (mck (aG.mk c.Round c.Place) e s)), h, aN [0, 1, 2, 3, 4] rfl rfl (aH rfl (aM ⟨rfl, rfl, rfl, rfl, rfl, trivial⟩))⟩
  ·refine bQ ?_;refine .inl ⟨rfl, ?_⟩;simp only [sJ] at h;refine aC (aC (aA (tm (.bp b5 0 0) (tm (.d (.lit (.map (some r6)))) ?_))));refine sD (aN [2, 0, 3, 1, 4] rfl rfl (le_refl _)) ?_;refine bB rfl (eZ (passed := [.box b5 0 [.j j.Rounds, .sl 1 (Z9 j), .lit (X2 3).v, .lit (.map (some (X2 4).b))], .arr (X2 3).v 3 1 (r3.map aL), .map r6 (g.map fun p : aE × Int => ((fun a : aE => Value.agg ((aJ a).map bT).toArray) p.1, (fun v : Int => AV.i v) p.2)) J y]) (aF rfl) rfl (.func _ _ Tryz.call119) rfl rfl (aCn j r3 g h)) ?_;rintro _ ⟨_, _, ⟨C, b6, b7, h, rfl, rfl⟩, rfl⟩;refine to (sn rfl) (aB ?_);refine tip h (fun c7 h => ?_) (fun c7 h => ?_)
   ·refine aC (aA (ta (fF bN (none : Option bA)) (ta Z3 (aB ?_))));exact cI ⟨rfl, _, [], [.box b5 0 [.j j.Rounds, .sl 1 (Z9 j), .lit (X2 3).v, .lit (.map (some (X2 4).b))], .arr (X2 3).v 3 1 (C.2.1.map aL), .map r6 (C.2.2.map fun p : aE × Int => ((fun a : aE => Value.agg ((aJ a).map bT).toArray) p.1, (fun v : Int => AV.i v) p.2)) b6 b7, .map (X2 4).b (([] : List (aG × Int)).map fun p : aG × Int => ((fun a : aG => Value.agg ((aQ a).map bT).toArray) p.1, (fun v : Int => AV.i v) p.2)) ([]) 0, .map r7 (e.map fun p : aG × aE => ((fun a : aG => Value.agg ((aQ a).map bT).toArray) p.1, (fun v : aE => AV.agg (aJ v)) p.2)) B s], _, .two (.tmp 4 (v := fF bN (none : Option bA)) rfl) (.tmp 5 (v := .b false) rfl), .refl _, .same _, ((none : Option bA), false), h, rfl, rfl⟩
   ·refine aU (aC (aC (aA (tm (.bp b5 0 0) (to (nO (aF rfl) rfl) ?_)))));refine tfl 0 rfl rfl pI rfl cD (to (kB (m := 1) (aF rfl) rfl rfl bG.of) ?_);refine tm (.i 0) (aB (aX ?_));refine wM [6, 8, 71, 72] (fun (M : Int × (List (aG × Int)) × (List Nat) × Nat) => [(73, .i M.1)]) (fun (M : Int × (List (aG × Int)) × (List Nat) × Nat) => [.arr (X2 3).v 3 1 (C.2.1.map aL), .map (X2 4).b (M.2.1.map fun p : aG × Int => ((fun a : aG => Value.agg ((aQ a).map bT).toArray) p.1, (fun v : Int => AV.i v) p.2)) M.2.2.1 M.2.2.2, .box b5 0 [.j j.Rounds, .sl 1 (Z9 j), .lit (X2 3).v, .lit (.map (some (X2 4).b))], .map r7 (e.map fun p : aG × aE => ((fun a : aG => Value.agg ((aQ a).map bT).toArray) p.1, (fun v : aE => AV.agg (aJ v)) p.2)) B s]) (fun (k : Nat) (M : Int × (List (aG × Int)) × (List Nat) × Nat) => jA Q (C.2.1.length : Int) C.2.1 j e k M.1 M.2.1) (fun _ h => h) (0, ([] : List (aG × Int)), [], 0) h (aN [1, 3, 0, 4] rfl rfl (aH rfl (aM ⟨rfl, rfl, rfl, rfl, trivial⟩))) ?_;rintro d8 ⟨u, H, U, V⟩ h;simp only [jA] at h;refine aC (aA (to (scm rfl rfl rfl) (aB (aC ?_))));refine tip h (fun c8 h => ?_) (fun c8 h => ?_)
    ·refine aU (aC (aX (aC (aA (tm (.i u) ?_)))));obtain ⟨a8, a9, h⟩ := gL h;refine to (iB (m := 0) (aF rfl) rfl rfl rfl bG.of (aV aL a9)) ?_;refine to (iY (aF rfl) rfl (m := 0) rfl (dM aL a9) rfl aO) ?_;refine ta (.i u) (ta (.i a8) (aB (aC (aA (tm (.i a8) (to (scm rfl rfl rfl) (aB ?_)))))));refine tip h (fun c9 h => ?_) (fun c9 h => ?_)
     ·refine aA (tm (.bp b5 0 0) (tm (.i u) (to (aVk (aF rfl) rfl rfl (.inr (.inr ⟨rfl, rfl⟩))) ?_)));obtain ⟨d0, d1, h⟩ := gL h;refine sD (aN [2, 0, 1, 3] rfl rfl (le_refl _)) ?_;refine bB rfl (eZ (passed := [.box b5 0 [.j j.Rounds, .sl 1 (Z9 j), .lit (X2 3).v, .lit (.map (some (X2 4).b))], .arr (X2 3).v 3 1 (C.2.1.map aL), .map (X2 4).b (H.map fun p : aG × Int => ((fun a : aG => Value.agg ((aQ a).map bT).toArray) p.1, (fun v : Int => AV.i v) p.2)) U V]) (aF rfl) rfl (.func _ _ Tryz.call120) rfl rfl (xZ j C.2.1 H (aOp u 1) 0 d1)) ?_;rintro _ ⟨_, _, ⟨b8, b9, rfl, rfl⟩, rfl⟩;refine cM ?_;refine aA (to (sar rfl rfl rfl) (tm (.i (w64 (u + 1))) (aB ?_)));exact ⟨(w64 (u + 1), d0.2, b8, b9), h, aN [1, 2, 0, 3] rfl rfl (aH rfl (aM ⟨rfl, rfl, rfl, rfl, trivial⟩))⟩
     ·refine cL ?_;refine aA (to (sar rfl rfl rfl) (tm (.i (w64 (u + 1))) (aB ?_)));exact ⟨(w64 (u + 1), H, U, V), h, aN [0, 1, 2, 3] rfl rfl (aH rfl (aM ⟨rfl, rfl, rfl, rfl, trivial⟩))⟩
    ·refine bQ ?_;refine .inl ⟨rfl, ?_⟩;simp only [sK] at h;refine aC (aC (aA (tm (.d (.lit (.map (some r7)))) ?_)));refine bB rfl (aSi (m := 3) (aF rfl) Tryz.underlying160 rfl rfl) ?_;rintro _ ⟨Z, d2, rfl⟩;have h := aHd h d2;refine aB (aX ?_);refine wM [6, 86] (fun (N : (List (aG × Int)) × (List Nat) × Nat × (List Nat)) => []) (fun (N : (List (aG × Int)) × (List Nat) × Nat × (List Nat)) => [.arr (X2 3).v 3 1 (C.2.1.map aL), .map (X2 4).b (N.1.map fun p : aG × Int => ((fun a : aG => Value.agg ((aQ a).map bT).toArray) p.1, (fun v : Int => AV.i v) p.2)) N.2.1 N.2.2.1, .box b5 0 [.j j.Rounds, .sl 1 (Z9 j), .lit (X2 3).v, .lit (.map (some (X2 4).b))], .map r7 (e.map fun p : aG × aE => ((fun a : aG => Value.agg ((aQ a).map bT).toArray) p.1, (fun v : aE => AV.agg (aJ v)) p.2)) B s, .iter Z r7 s N.2.2.2 s]) (fun (k : Nat) (N : (List (aG × Int)) × (List Nat) × Nat × (List Nat)) => lD Q C.2.1 j e k N.1 (oI e B N.2.2.2)) (fun _ h => h) (H, U, V, []) h (aN [0, 1, 2, 3, 4] rfl rfl (aM ⟨rfl, rfl, trivial⟩)) ?_;rintro d9 ⟨A, W, Y, L⟩ h;simp only [lD] at h;refine aC (aA ?_);refine bB rfl (aVq (kv := (fun a : aG => Value.agg ((aQ a).map bT).toArray)) (av := (fun v : aE => AV.agg (aJ v))) (l := e) (mi := 4) (mm := 3) (aF rfl) rfl rfl rfl) ?_;rintro _ (⟨d3, rfl⟩ | ⟨e0, a1, n, b0, rfl⟩)
     ·have h := h.1 d3;refine to (sex rfl rfl) (aB (aC ?_));refine aAi rfl (fun b2 => ?_) (fun b2 => ?_)
      ·exact absurd b2 (by decide)
      ·refine bQ ?_;refine .inl ⟨rfl, ?_⟩;simp only [wD] at h;refine aC (aA (tm (.bp b5 0 0) (ta (.bp b5 0 0) (ta Z10 (aB ?_)))));exact cI ⟨rfl, _, [], [.arr (X2 3).v 3 1 (C.2.1.map aL), .map (X2 4).b (A.map fun p : aG × Int => ((fun a : aG => Value.agg ((aQ a).map bT).toArray) p.1, (fun v : Int => AV.i v) p.2)) W Y, .box b5 0 [.j j.Rounds, .sl 1 (Z9 j), .lit (X2 3).v, .lit (.map (some (X2 4).b))], .map r7 (e.map fun p : aG × aE => ((fun a : aG => Value.agg ((aQ a).map bT).toArray) p.1, (fun v : aE => AV.agg (aJ v)) p.2)) B s, .iter Z r7 s L s], _, .two (.tmp 4 (v := .bp b5 0 0) rfl) (.tmp 5 (v := .b true) rfl), .refl _, aGh (.cons (aDv 2 rfl rfl (dvc (.same _) (dvc (.same _) (dvc (nX 0 rfl (cV (f := aL) fun _ => rfl)) (dvc (bBb (kv := (fun a : aG => Value.agg ((aQ a).map bT).toArray)) (av := (fun v : Int => AV.i v)) (l := A) (enc := aL) (agg := false) 1 rfl (fun _ _ => rfl) (fun _ => rfl)) dvn))))) (.cons (.same _) .nil)), ((some (bA.mk j C.2.1 A)), true), h, rfl, rfl⟩
     ·have h := aIz h b0;refine to (sex rfl rfl) (aB (aC ?_));refine aAi rfl (fun b3 => ?_) (fun b3 => ?_)
      ·refine aU (aX (aC (aA (to (aSh (kv := (fun a : aG => Value.agg ((aQ a).map bT).toArray)) (av := (fun v : aE => AV.agg (aJ v))) (l := e) (mi := 4) (mm := 3) (ka := .agg (aQ n.1)) (aF rfl) rfl rfl rfl b0 (fun _ _ => .agg (aGy rfl))) ?_))));refine to (sex rfl rfl) (to (sex rfl rfl) ?_);refine bB rfl (cK (zs := [.j 0, .j 0]) (aF rfl) Tryz.zeroValue155 rfl rfl) ?_;rintro _ ⟨O, rfl⟩;refine bB rfl (cK (zs := [.j 0, .j 0, .j 0, .j 0, .j 0]) (aF rfl) Tryz.zeroValue67 rfl rfl) ?_;rintro _ ⟨a2, rfl⟩;refine to (sst 5 rfl rfl Tryz.sizeOf155 (aQ n.1)) (to (sst 6 rfl rfl Tryz.sizeOf67 (aJ n.2)) (aB (aC ?_)));refine cN mix 6 [6, 16, 86] [(95, .d (.lit (X2 3).v)), (97, .i n.2.Player)] ?_ ?_
       ·refine ⟨[(92, 0, .bp b5 0 0), (93, 1, .bp b5 0 0), (94, 2, .bp b5 0 2), (95, 3, .d (.lit (X2 3).v)), (96, 4, .bp a2 0 3), (97, 5, .i n.2.Player)], ?_, ?_⟩
        · exact dk [0, 1, 2, 3, 0, 5] ⟨go (zm (.bp b5 0 0)),
      go fun S hS => nO (aF rfl) (bF hS rfl),
      go (zf rfl pI),
      go (zl 2 rfl rfl rfl cD),
      go (zf rfl nG),
      go (zl 6 rfl rfl rfl aO), trivial⟩
        · exact cC (aH rfl (aH rfl (aM ⟨rfl, rfl, rfl, trivial⟩)))
       ·obtain ⟨o, d4, h⟩ := gL h;refine to (sc Tryz.call89 (vC _ _ d4) (.cons (.d (nX 0 rfl (cV (f := aL) fun _ => rfl))) (.cons (.same _) .nil))) (ta (.i o) (aB (aC ?_)));obtain ⟨a3, F, h⟩ := gL h;refine aKq (a3) (fun t => ?_) (fun t => ?_)
        ·have h := aSc t h;refine cN mix 15 [6, 86] [(109, .b a3)] ?_ ?_
         ·refine bch F (fun q F => ?_) (fun q F => ?_)
          ·obtain rfl := sIn F;refine ⟨[(99, 0, .i o), (100, 1, .b (decide (o < 0))), (101, 2, .b (decide (o < 0))), (102, 3, .tup []), (103, 4, .tup []), (104, 5, .tup []), (105, 6, .tup []), (106, 7, .tup []), (107, 8, .tup []), (108, 9, .b true), (109, 10, .b (true)), (110, 11, .tup []), (111, 12, .tup []), (112, 13, .tup []), (113, 14, .tup [])], ?_, ?_⟩
           · exact dk [0, 1, 2, 3, 304, 3, 30506, 3, 30708, 309, 10, 11, 11, 11, 1114] ⟨go (zm (.i o)),
      go (zcm rfl rfl rfl),
      go (zm (.b (decide (o < 0)))),
      gp q,
      gp q,
      gp q,
      gp q,
      gp q,
      gp q,
      go (zpt Z10 q),
      go (zm (.b (true))),
      gp t,
      gp t,
      gp t,
      gp t, trivial⟩
           · exact cC (aH rfl (aM ⟨rfl, rfl, trivial⟩))
          ·obtain ⟨E, a4, F⟩ := bns F;obtain rfl := sIn F;refine ⟨[(99, 0, .i o), (100, 1, .b (decide (o < 0))), (101, 2, .b (decide (o < 0))), (102, 3, .bp O 0 0), (103, 4, .i n.1.round), (104, 5, .i o), (105, 6, .agg (aQ E)), (106, 7, .agg (aQ n.1)), (107, 8, .b (!decide (E = n.1))), (108, 9, .b (!decide (E = n.1))), (109, 10, .b (!decide (E = n.1))), (110, 11, .tup []), (111, 12, .tup []), (112, 13, .tup []), (113, 14, .tup [])], ?_, ?_⟩
           · exact dk [0, 1, 2, 3, 304, 3, 30506, 3, 30708, 309, 10, 11, 11, 11, 1114] ⟨go (zm (.i o)),
      go (zcm rfl rfl rfl),
      go (zm (.b (decide (o < 0)))),
      gt q (zf rfl uO),
      gt q (zl 5 rfl rfl rfl aO),
      gt q (zm (.i o)),
      gt q fun S hS => eY (aF rfl) (.func _ _ Tryz.call116) (ev2 (bF hS rfl) (ev2 (bF hS rfl) evn)) rfl (uD _ _ a4),
      gt q (zla 5 (aQ n.1) rfl rfl wP),
      gt q fun S hS => aIo (a := E) (b := n.1) (aF rfl) (bF hS rfl) (bF hS rfl) rfl rfl Tryz.eqGuardType155 aMh,
      go (zpf (.b (!decide (E = n.1))) q),
      go (zm (.b (!decide (E = n.1)))),
      gp t,
      gp t,
      gp t,
      gp t, trivial⟩
           · exact cC (aH rfl (aM ⟨rfl, rfl, trivial⟩))
         ·refine tp t (tp t (to (spt Z10 t) (aB ?_)));refine aAi rfl (fun b4 => ?_) (fun b4 => ?_)
          ·refine aC (aA (ta (fF bN (none : Option bA)) (ta Z3 (aB ?_))));exact cI ⟨rfl, _, [], [.arr (X2 3).v 3 1 (C.2.1.map aL), .map (X2 4).b (A.map fun p : aG × Int => ((fun a : aG => Value.agg ((aQ a).map bT).toArray) p.1, (fun v : Int => AV.i v) p.2)) W Y, .box b5 0 [.j j.Rounds, .sl 1 (Z9 j), .lit (X2 3).v, .lit (.map (some (X2 4).b))], .map r7 (e.map fun p : aG × aE => ((fun a : aG => Value.agg ((aQ a).map bT).toArray) p.1, (fun v : aE => AV.agg (aJ v)) p.2)) B s, .iter Z r7 s (L ++ [a1]) s, .box O 0 (aQ n.1), .box a2 0 (aJ n.2)], _, .two (.tmp 4 (v := fF bN (none : Option bA)) rfl) (.tmp 5 (v := .b false) rfl), .refl _, .same _, ((none : Option bA), false), h, rfl, rfl⟩
          ·exact absurd b4 (by decide)
        ·have h := aSb t h;refine cN mix 15 [6, 86] [(109, .b a3), (110, .bp b5 0 0), (111, .i o), (112, .bp O 0 0), (113, .i n.1.round)] ?_ ?_
         ·refine bch F (fun q F => ?_) (fun q F => ?_)
          ·obtain rfl := sIn F;refine ⟨[(99, 0, .i o), (100, 1, .b (decide (o < 0))), (101, 2, .b (decide (o < 0))), (102, 3, .tup []), (103, 4, .tup []), (104, 5, .tup []), (105, 6, .tup []), (106, 7, .tup []), (107, 8, .tup []), (108, 9, .b true), (109, 10, .b (true)), (110, 11, .bp b5 0 0), (111, 12, .i o), (112, 13, .bp O 0 0), (113, 14, .i n.1.round)], ?_, ?_⟩
           · exact dk [0, 1, 2, 3, 304, 3, 30506, 3, 30708, 309, 10, 11, 11, 11, 1114] ⟨go (zm (.i o)),
      go (zcm rfl rfl rfl),
      go (zm (.b (decide (o < 0)))),
      gp q,
      gp q,
      gp q,
      gp q,
      gp q,
      gp q,
      go (zpt Z10 q),
      go (zm (.b (true))),
      gt t (zm (.bp b5 0 0)),
      gt t (zm (.i o)),
      gt t (zf rfl uO),
      gt t (zl 5 rfl rfl rfl aO), trivial⟩
           · exact cC (aH rfl (aH rfl (aH rfl (aH rfl (aH rfl (aM ⟨rfl, rfl, trivial⟩))))))
          ·obtain ⟨E, a4, F⟩ := bns F;obtain rfl := sIn F;refine ⟨[(99, 0, .i o), (100, 1, .b (decide (o < 0))), (101, 2, .b (decide (o < 0))), (102, 3, .bp O 0 0), (103, 4, .i n.1.round), (104, 5, .i o), (105, 6, .agg (aQ E)), (106, 7, .agg (aQ n.1)), (107, 8, .b (!decide (E = n.1))), (108, 9, .b (!decide (E = n.1))), (109, 10, .b (!decide (E = n.1))), (110, 11, .bp b5 0 0), (111, 12, .i o), (112, 13, .bp O 0 0), (113, 14, .i n.1.round)], ?_, ?_⟩
           · exact dk [0, 1, 2, 3, 304, 3, 30506, 3, 30708, 309, 10, 11, 11, 11, 1114] ⟨go (zm (.i o)),
      go (zcm rfl rfl rfl),
      go (zm (.b (decide (o < 0)))),
      gt q (zf rfl uO),
      gt q (zl 5 rfl rfl rfl aO),
      gt q (zm (.i o)),
      gt q fun S hS => eY (aF rfl) (.func _ _ Tryz.call116) (ev2 (bF hS rfl) (ev2 (bF hS rfl) evn)) rfl (uD _ _ a4),
      gt q (zla 5 (aQ n.1) rfl rfl wP),
      gt q fun S hS => aIo (a := E) (b := n.1) (aF rfl) (bF hS rfl) (bF hS rfl) rfl rfl Tryz.eqGuardType155 aMh,
      go (zpf (.b (!decide (E = n.1))) q),
      go (zm (.b (!decide (E = n.1)))),
      gt t (zm (.bp b5 0 0)),
      gt t (zm (.i o)),
      gt t (zf rfl uO),
      gt t (zl 5 rfl rfl rfl aO), trivial⟩
           · exact cC (aH rfl (aH rfl (aH rfl (aH rfl (aH rfl (aM ⟨rfl, rfl, trivial⟩))))))
         ·obtain ⟨a5, d5, h⟩ := gL h;refine sD (aN [2, 0, 1, 3, 4, 5, 6] rfl rfl (le_refl _)) ?_;refine aSj rfl rfl (aF rfl) rfl t (eZ (passed := [.box b5 0 [.j j.Rounds, .sl 1 (Z9 j), .lit (X2 3).v, .lit (.map (some (X2 4).b))], .arr (X2 3).v 3 1 (C.2.1.map aL), .map (X2 4).b (A.map fun p : aG × Int => ((fun a : aG => Value.agg ((aQ a).map bT).toArray) p.1, (fun v : Int => AV.i v) p.2)) W Y]) (aF rfl) rfl (.func _ _ Tryz.call120) rfl rfl (xZ j C.2.1 A o n.1.round d5)) ?_;rintro _ ⟨_, _, ⟨a6, a7, rfl, rfl⟩, rfl⟩;refine tk t (sn rfl) (to (spf (.b (!a5.1)) t) (aB ?_));refine tip h (fun d6 h => ?_) (fun d6 h => ?_)
          ·refine aC (aA (ta (fF bN (none : Option bA)) (ta Z3 (aB ?_))));exact cI ⟨rfl, _, [], [.box b5 0 [.j j.Rounds, .sl 1 (Z9 j), .lit (X2 3).v, .lit (.map (some (X2 4).b))], .arr (X2 3).v 3 1 (C.2.1.map aL), .map (X2 4).b (a5.2.map fun p : aG × Int => ((fun a : aG => Value.agg ((aQ a).map bT).toArray) p.1, (fun v : Int => AV.i v) p.2)) a6 a7, .map r7 (e.map fun p : aG × aE => ((fun a : aG => Value.agg ((aQ a).map bT).toArray) p.1, (fun v : aE => AV.agg (aJ v)) p.2)) B s, .iter Z r7 s (L ++ [a1]) s, .box O 0 (aQ n.1), .box a2 0 (aJ n.2)], _, .two (.tmp 4 (v := fF bN (none : Option bA)) rfl) (.tmp 5 (v := .b false) rfl), .refl _, .same _, ((none : Option bA), false), h, rfl, rfl⟩
          ·refine cL ?_;exact ⟨(a5.2, a6, a7, (L ++ [a1])), h, aN [1, 2, 0, 3, 4] rfl rfl (aM ⟨rfl, rfl, trivial⟩)⟩
      ·exact absurd b3 (by decide)

theorem aCz (a : aR) (e : List aE) {Q : ((Option bA) × Int) → Prop} (h : nR a e Q) : fP Tryz.prog 75 (Z30 a e) [] (fun r' o' => ∃ (r : (Option bA) × Int), Q r ∧ r' = .tup [fF bN r.1, .i r.2] ∧ o' = []) := by
 unfold nR at h;refine kA Tryz.func75 rfl (rs := [.tmp 4, .tmp 5]) Tryz.results75 Tryz.ntmps75 (Nat.le_of_ble_eq_true rfl) ?_;refine aC (aA ?_);refine bB rfl (eB (v := .agg (aZ a)) (aF rfl) rfl rfl rfl) ?_;rintro _ ⟨b1, rfl⟩;refine ta (fF bN (none : Option bA)) (ta (.i 0) (aB (aC (aC (aA (to (sla 0 (aZ a) rfl rfl iT) ?_))))));obtain ⟨r2, h3, h⟩ := gL h;refine to (scr Tryz.call100 (aJr _ h3)) (to (sn rfl) (aB ?_));refine tip h (fun c4 h => ?_) (fun c4 h => ?_)
 ·refine aC (aA (ta (fF bN (none : Option bA)) (ta (.i 70) (aB ?_))));exact cI ⟨rfl, _, [], [.box b1 0 (aZ a)], _, .two (.tmp 4 (v := fF bN (none : Option bA)) rfl) (.tmp 5 (v := .i 70) rfl), .refl _, .same _, ((none : Option bA), 70), h, rfl, rfl⟩
 ·refine aU (aC (aC (aA (tm (Z27 e) (to (sle rfl fO.of) (to (scm rfl rfl rfl) (tm (.b (decide (60 < (e.length : Int)))) ?_)))))));obtain ⟨b5, h6, h⟩ := gL h;refine aW 4 [1, 2] 18 b5 ?_ ?_
  ·refine bch h6 (fun c h6 => ?_) (fun c h6 => ?_)
   ·refine tp c (tp c (tp c (to (spt Z10 c) ?_)));obtain rfl := sIn h6;refine aB (aK rfl ⟨rfl, rfl, trivial⟩ rfl)
   ·refine tk c (sm (Z27 e)) (tk c (aQc (aF rfl) rfl rfl) ?_);obtain ⟨f, g, h6⟩ := bns h6;refine tk c (sc Tryz.call101 (xV _ _ 102 [.cp [.j a.Rounds, .sl 1 (Z9 a)]] Tryz.call102 (fun _ _ h6 => aJs _ _ h6) g) (.cons (.same _) (.cons (aYe (.cons (aDv 0 rfl rfl (dvc (.same _) (dvc (.same _) dvn))) .nil)) .nil))) (to (spf (.b f) c) ?_);obtain rfl := sIn h6;refine aB (aK rfl ⟨rfl, rfl, trivial⟩ rfl)
  ·refine aB ?_;refine tip h (fun c7 h => ?_) (fun c7 h => ?_)
   ·refine aC (aA (ta (fF bN (none : Option bA)) (ta (.i 71) (aB ?_))));exact cI ⟨rfl, _, [], [.box b1 0 (aZ a)], _, .two (.tmp 4 (v := fF bN (none : Option bA)) rfl) (.tmp 5 (v := .i 71) rfl), .refl _, .same _, ((none : Option bA), 71), h, rfl, rfl⟩
   ·refine aU (aC (aA (to (sla 0 (aZ a) rfl rfl iT) (tm (Z27 e) ?_))));refine bB rfl (aAs (aF rfl) (.func _ _ Tryz.call104) rfl rfl (aKu _ _ h)) ?_;rintro _ ⟨_, _, ⟨r8, h, rfl, rfl⟩, rfl⟩;refine tm (.tup [fF bN r8.1, .b r8.2]) (to (sex rfl rfl) (to (sex rfl rfl) (ta (fF bN r8.1) (ta (.b r8.2) (aB (aC (aC (aA (tm (.b r8.2) (to (sn rfl) (aB ?_)))))))))));refine tip h (fun c9 h => ?_) (fun c9 h => ?_)
    ·refine aC (aA (ta (fF bN (none : Option bA)) (ta (.i 72) (aB ?_))));exact cI ⟨rfl, _, [], [.box b1 0 (aZ a)], _, .two (.tmp 4 (v := fF bN (none : Option bA)) rfl) (.tmp 5 (v := .i 72) rfl), .refl _, .same _, ((none : Option bA), 72), h, rfl, rfl⟩
    ·refine aU (aC (aA (tm (fF bN r8.1) (ta (fF bN r8.1) (ta (.i 0) (aB ?_))))));exact cI ⟨rfl, _, [], [.box b1 0 (aZ a)], _, .two (.tmp 4 (v := fF bN r8.1) rfl) (.tmp 5 (v := .i 0) rfl), .refl _, .same _, (r8.1, 0), h, rfl, rfl⟩

theorem aKs (a : aR) (b : List aE) {Q : Int → Prop} (h : sZ a b Q) : fP Tryz.prog 45 (Z30 a b) [] (fun r' o' => ∃ (r : Int), Q r ∧ r' = .i r ∧ o' = []) := by
 unfold sZ at h;refine kA Tryz.func45 rfl (rs := [.tmp 4]) Tryz.results45 Tryz.ntmps45 (Nat.le_of_ble_eq_true rfl) ?_;refine aC (aA ?_);refine bB rfl (eB (v := .agg (aZ a)) (aF rfl) rfl rfl rfl) ?_;rintro _ ⟨b1, rfl⟩;refine ta (.i 0) (aB (aC (aA (to (sla 0 (aZ a) rfl rfl iT) (tm (Z27 b) ?_)))));refine bB rfl (aAs (aF rfl) (.func _ _ Tryz.call75) rfl rfl (aCz _ _ h)) ?_;rintro _ ⟨_, _, ⟨r2, h, rfl, rfl⟩, rfl⟩;refine tm (.tup [fF bN r2.1, .i r2.2]) (to (sex rfl rfl) (to (sex rfl rfl) (ta (fF bN r2.1) (ta (.i r2.2) (aB (aC (aA (tm (.i r2.2) (ta (.i r2.2) (aB ?_))))))))));exact cI ⟨rfl, _, [], [.box b1 0 (aZ a)], _, .one (.tmp 4 (v := .i r2.2) rfl), .refl _, .same _, r2.2, h, rfl, rfl⟩

theorem aBw (a : Int) {r : Bool} (h : tB a = some r) : Fn Tryz.prog 121 [.i a] (.b r) := by
 unfold tB at h;refine oT [.tmp 2] Tryz.func121 Tryz.results121 Tryz.ntmps121 ?_;refine aC (aA (ta Z3 (aB (aC (aA (tm (.i a) (tm (.i a) (to (scm rfl rfl rfl) (ta (.b (!decide (a = a))) (aB ?_))))))))));obtain rfl := sIn h;exact rt

theorem aMg (a : Int) (c : Int) {r : Bool} (h : uE a c = some r) : Fn Tryz.prog 105 [.i a, .i c] (.b r) := by
 unfold uE at h;refine oT [.tmp 4] Tryz.func105 Tryz.results105 Tryz.ntmps105 ?_;refine aC (aA (ta Z3 (aB (aC (aA (tm (.i a) ?_))))));obtain ⟨r1, h2, h⟩ := bns h;refine to (scr Tryz.call121 (aBw _ h2)) (tm (.b r1) ?_);obtain ⟨b3, h4, h⟩ := bns h;refine aW 4 [0, 1] 11 b3 ?_ ?_
 ·refine bch h4 (fun c8 h4 => ?_) (fun c8 h4 => ?_)
  ·refine tk c8 (sm (.i c)) ?_;obtain ⟨r9, d, h4⟩ := bns h4;refine tk c8 (scr Tryz.call121 (aBw _ d)) (tk c8 (sn rfl) (to (spt (.b (!r9)) c8) ?_));obtain rfl := sIn h4;refine aB (aK rfl ⟨rfl, rfl, trivial⟩ rfl)
  ·refine tp c8 (tp c8 (tp c8 (to (spf Z3 c8) ?_)));obtain rfl := sIn h4;refine aB (aK rfl ⟨rfl, rfl, trivial⟩ rfl)
 ·refine tm (.b b3) ?_;obtain ⟨b5, h6, h⟩ := bns h;refine aW 4 [] 16 b5 ?_ ?_
  ·refine bch h6 (fun c7 h6 => ?_) (fun c7 h6 => ?_)
   ·refine tp c7 (tp c7 (tp c7 (to (spt Z10 c7) ?_)));obtain rfl := sIn h6;refine aB (aK rfl trivial rfl)
   ·refine tk c7 (sm (.i a)) (tk c7 (sm (.i c)) (tk c7 (scm rfl rfl rfl) (to (spf (.b (decide (a < c))) c7) ?_)));obtain rfl := sIn h6;refine aB (aK rfl trivial rfl)
  ·refine ta (.b b5) (aB ?_);obtain rfl := sIn h;exact rt

theorem aDo (c : List Int) {r : Bool} (h : mZ c = some r) : Fn Tryz.prog 76 [.d (Z8 c)] (.b r) := by
 unfold mZ at h;refine oT [.tmp 2] Tryz.func76 Tryz.results76 Tryz.ntmps76 ?_;refine aC (aA (ta Z3 (aB (aC (aC (aA (tm (Z41 c) (to (sle rfl bG.of) (to (sar rfl rfl rfl) (ta (.i (w64 ((c.length : Int) - 1))) (aB (aX ?_))))))))))));refine bP (S := Int) [0] (fun s1 => [(3, .i s1)]) (fun s1 => []) (fun k s1 => iD c k s1) (fun _ => rfl) (w64 ((c.length : Int) - 1)) h (aN [] rfl rfl (aH rfl (aM ⟨rfl, trivial⟩))) ?_;rintro k2 a h;simp only [iD] at h;refine aC (aC (aA (tm (.i a) (to (scm rfl rfl rfl) (aB ?_)))));refine tih h (fun c3 h => ?_) (fun c3 h => ?_)
 ·refine aU (aC (aX (aC ?_)));obtain ⟨x4, h5, h⟩ := bns h;obtain ⟨x6, h7, h⟩ := bns h;refine cN mix 9 [0, 3] [(14, .i x4), (19, .i x6)] ?_ ?_
  ·refine ⟨[(11, 0, .d (Z8 c)), (12, 1, .i a), (13, 2, .cp [.j x4]), (14, 3, .i x4), (15, 4, .d (Z8 c)), (16, 5, .i a), (17, 6, .i (w64 (a - 1))), (18, 7, .cp [.j x6]), (19, 8, .i x6)], ?_, ?_⟩
   · exact dk [0, 0, 102, 3, 0, 0, 6, 507, 8] ⟨go (zm (Z41 c)),
      go (zm (.i a)),
      go (zix rfl rfl bG.of (aV aL h5)),
      go (zlc rfl aO),
      go (zm (Z41 c)),
      go (zm (.i a)),
      go (zar rfl rfl rfl),
      go (zix rfl rfl bG.of (aV aL h7)),
      go (zlc rfl aO), trivial⟩
   · exact cC (aH rfl (aH rfl (aM ⟨rfl, rfl, trivial⟩)))
  ·obtain ⟨r8, h9, h⟩ := bns h;refine to (scr Tryz.call105 (aMg _ _ h9)) (aB ?_);refine tih h (fun e h => ?_) (fun e h => ?_)
   ·refine aC (aA (ta Z3 (aB ?_)));obtain rfl := sIn h;exact rt
   ·refine cL ?_;refine aA (tm (.i a) (to (sar rfl rfl rfl) (ta (.i (w64 (a - 1))) (aB ?_))));exact ⟨(w64 (a - 1)), h, aN [] rfl rfl (aH rfl (aM ⟨rfl, trivial⟩))⟩
 ·refine bQ ?_;refine .inl ⟨rfl, ?_⟩;simp only [vU] at h;refine aC (aA (ta Z10 (aB ?_)));obtain rfl := sIn h;exact rt

theorem gR (d : Int) (c : Int) (a : Int) {r : Bool} (h : gH d c a = some r) : Fn Tryz.prog 61 [.i d, .i c, .i a] (.b r) := by
 unfold gH at h;refine oT [.tmp 6] Tryz.func61 Tryz.results61 Tryz.ntmps61 ?_;refine aC (aA (ta Z3 (aB (aC (aA (tm (.i c) (tm (.i d) (to (scm rfl rfl rfl) (tm (Z33 c d) ?_)))))))));obtain ⟨b1, h2, h⟩ := bns h;refine aW 4 [] 14 b1 ?_ ?_
 ·refine bch h2 (fun c3 h2 => ?_) (fun c3 h2 => ?_)
  ·refine tk c3 (sm (.i d)) (tk c3 (sm (.i a)) (tk c3 (scm rfl rfl rfl) (to (spt (Z33 d a) c3) ?_)));obtain rfl := sIn h2;refine aB (aK rfl trivial rfl)
  ·refine tp c3 (tp c3 (tp c3 (to (spf Z3 c3) ?_)));obtain rfl := sIn h2;refine aB (aK rfl trivial rfl)
 ·refine ta (.b b1) (aB ?_);obtain rfl := sIn h;exact rt

theorem aLt (f : aP) {r : Bool} (h : tG f = some r) : Fn Tryz.prog 46 (Z32 f) (.b r) := by
 unfold tG at h;refine oT [.tmp 2] Tryz.func46 Tryz.results46 Tryz.ntmps46 ?_;refine aC (aA ?_);refine bB rfl (eB (v := .agg (aT f)) (aF rfl) rfl rfl rfl) ?_;rintro _ ⟨b1, rfl⟩;refine ta Z3 (aB (aC (aC (aA (tfl 0 rfl rfl iO rfl cD (to (sle rfl bG.of) (to (sf rfl hZ) (tfl 0 rfl rfl hY rfl aO (to (sar rfl rfl rfl) (to (scm rfl rfl rfl) (tm (Z34 f) ?_)))))))))));obtain ⟨b2, h3, h⟩ := bns h;refine aW 5 [1] 16 b2 ?_ ?_
 ·refine bch h3 (fun c h3 => ?_) (fun c h3 => ?_)
  ·refine tp c (tp c (tp c (tp c (to (spt Z10 c) ?_))));obtain rfl := sIn h3;refine aB (aK rfl ⟨rfl, trivial⟩ rfl)
  ·refine tkl 0 c rfl rfl iO rfl cD ?_;obtain ⟨g, i, h3⟩ := bns h3;refine tk c (scr Tryz.call76 (aDo _ i)) (tk c (sn rfl) (to (spf (.b (!g)) c) ?_));obtain rfl := sIn h3;refine aB (aK rfl ⟨rfl, trivial⟩ rfl)
 ·refine tm (.b b2) ?_;obtain ⟨b4, h5, h⟩ := bns h;refine aW 5 [1] 22 b4 ?_ ?_
  ·refine bch h5 (fun d h5 => ?_) (fun d h5 => ?_)
   ·refine tp d (tp d (tp d (tp d (to (spt Z10 d) ?_))));obtain rfl := sIn h5;refine aB (aK rfl ⟨rfl, trivial⟩ rfl)
   ·refine tkl 0 d rfl rfl aJv rfl aO ?_;obtain ⟨j, k, h5⟩ := bns h5;refine tk d (scr Tryz.call61 (gR _ _ _ k)) (tk d (sn rfl) (to (spf (.b (!j)) d) ?_));obtain rfl := sIn h5;refine aB (aK rfl ⟨rfl, trivial⟩ rfl)
  ·refine aB ?_;refine tih h (fun c6 h => ?_) (fun c6 h => ?_)
   ·refine aC (aA (ta Z3 (aB ?_)));obtain rfl := sIn h;refine bL (bC (bE (l := [2]) ⟨rfl, trivial⟩)) ?_;exact rt
   ·refine aU (aC (aA (tfl 0 rfl rfl iO rfl cD ?_)));obtain ⟨x7, h8, h⟩ := bns h;refine to (six rfl rfl bG.of (aV aL h8)) (to (slc rfl aO) (to (scm rfl rfl rfl) (tm (.b (decide (0 ≤ x7))) ?_)));obtain ⟨b9, e, h⟩ := bns h;refine aW 10 [] 38 b9 ?_ ?_
    ·refine bch e (fun a e => ?_) (fun a e => ?_)
     ·refine tkl 0 a rfl rfl iO rfl cD (tkl 0 a rfl rfl iO rfl cD (tk a (sle rfl bG.of) (tk a (sar rfl rfl rfl) ?_)));obtain ⟨m, n, e⟩ := bns e;refine tk a (six rfl rfl bG.of (aV aL n)) (tk a (slc rfl aO) (tk a (scm rfl rfl rfl) (to (spt (.b (decide (m ≤ 10000000))) a) ?_)));obtain rfl := sIn e;refine aB (aK rfl trivial rfl)
     ·refine tp a (tp a (tp a (tp a (tp a (tp a (tp a (tp a (tp a (to (spf Z3 a) ?_)))))))));obtain rfl := sIn e;refine aB (aK rfl trivial rfl)
    ·refine ta (.b b9) (aB ?_);obtain rfl := sIn h;refine bL (bC (bE (l := [2]) ⟨rfl, trivial⟩)) ?_;exact rt

theorem zT (x : List Int) {r : List Int} {x_v : Value} {e : TypeId} (h : slices_Sort_int x = some r) : fP Tryz.prog 77 [.d (.lit x_v)] [.arr x_v e 1 (x.map aL)] (fun r' o' => r' = .tup [] ∧ o' = [.arr x_v e 1 (r.map aL)]) := by
 unfold slices_Sort_int at h;split at h
 ·cases h;exact aTv (fun blk off cap zs w => Tryz.slices_Sort_int blk off cap zs w) (fun q cap w => Tryz.slices_Sort_int_none q cap w) (by assumption)
 ·cases h

theorem xQ (c : aP) {r : (List Int)} (h : oP c = some r) : Fn Tryz.prog 55 (Z32 c) (.d (.sl 1 (r.map aL))) := by
 unfold oP at h;refine oT [.tmp 2] Tryz.func55 Tryz.results55 Tryz.ntmps55 ?_;refine aC (aA ?_);refine bB rfl (eB (v := .agg (aT c)) (aF rfl) rfl rfl rfl) ?_;rintro _ ⟨b1, rfl⟩;refine to (aCi 1 (aF rfl)) ?_;refine aB (aC (aA (to (iK 3 1 (.inl rfl) (aF rfl)) ?_)));refine aB (aC (aC (aA (tfl 0 rfl rfl jX rfl oA (to (sle rfl nP.of) (tm (.i 0) (aB (aX ?_))))))));refine bP (S := Int × Z26 × Value) [7, 8] (fun s3 => [(3, .d (.lit s3.2.2)), (9, .i s3.1)]) (fun s3 => [.arr s3.2.2 3 1 (s3.2.1.map aL)]) (fun k s3 => jZ c.Teams (c.Teams.length : Int) k s3.1 s3.2.1) (fun _ => rfl) (0, ([] : List Int), (.slice none 0 0)) h (aN [1] rfl rfl (aH rfl (aH rfl (aM ⟨rfl, rfl, trivial⟩)))) ?_;rintro k5 ⟨a, b, w4⟩ h;simp only [jZ] at h;refine aC (aA (to (scm rfl rfl rfl) (aB (aC ?_))));refine tih h (fun c6 h => ?_) (fun c6 h => ?_)
 ·refine aU (aC (aX (aC (aA ?_))));obtain ⟨x7, h8, h⟩ := bns h;refine to (six rfl rfl nP.of (aV bK h8)) (to (qF (bK x7) rfl uB) ?_);refine bB rfl (cK (zs := [.j 0, .j 0, .j 0]) (aF rfl) Tryz.zeroValue46 rfl rfl) ?_;rintro _ ⟨b9, rfl⟩;refine to (sst 1 rfl rfl Tryz.sizeOf46 (bK x7)) (aB (aC (aA (tm (.d (.lit w4)) (tfl 1 rfl rfl oM rfl aO (to (fL (aF rfl) bG rfl rfl (rows := ([x7.One]).map aL) rfl (cV (f := aL) fun _ => rfl) rfl (by decide)) ?_))))));obtain ⟨j, l, h⟩ := bns h;refine bB rfl (gM (i := 0) (aF rfl) bG rfl rfl rfl (fun _ => rfl) l rfl) ?_;rintro _ ⟨e, rfl⟩;refine ta (.d (.lit e)) (aB (aC (aA (tfl 1 rfl rfl jN rfl aO (to (scm rfl rfl rfl) (aB ?_))))));refine tih h (fun m h => ?_) (fun m h => ?_)
  ·refine aA (tm (.d (.lit e)) (tfl 1 rfl rfl jN rfl aO (to (fL (aF rfl) bG rfl rfl (rows := ([x7.Two]).map aL) rfl (cV (f := aL) fun _ => rfl) rfl (by decide)) ?_)));obtain ⟨n, o, h⟩ := bns h;refine bB rfl (gM (i := 0) (aF rfl) bG rfl rfl rfl (fun _ => rfl) o rfl) ?_;rintro _ ⟨g, rfl⟩;refine ta (.d (.lit g)) ?_;refine cM ?_;refine aA (to (sar rfl rfl rfl) (tm (.i (w64 (a + 1))) (aB ?_)));exact ⟨(w64 (a + 1), n, g), h, aN [0] rfl rfl (aH rfl (aH rfl (aM ⟨rfl, rfl, trivial⟩)))⟩
  ·refine cL ?_;refine aA (to (sar rfl rfl rfl) (tm (.i (w64 (a + 1))) (aB ?_)));exact ⟨(w64 (a + 1), j, e), h, aN [0] rfl rfl (aH rfl (aH rfl (aM ⟨rfl, rfl, trivial⟩)))⟩
 ·refine bQ ?_;refine .inl ⟨rfl, ?_⟩;simp only [sV] at h;refine aC (aA (tm (.d (.lit w4)) ?_));obtain ⟨p, q, h⟩ := bns h;refine bB rfl (eZ (passed := [.arr w4 3 1 (b.map aL)]) (aF rfl) rfl (.func _ _ Tryz.call77) rfl rfl (zT b q)) ?_;rintro _ ⟨_, _, ⟨rfl, rfl⟩, rfl⟩;refine aB (aC (aA (tm (.d (.lit w4)) (ta (.d (.lit w4)) (aB ?_)))));obtain rfl := sIn h;refine bL (bC (wQ (k := 2) (v := .d (.sl 1 (p.map aL))) (.d (nX 0 rfl (cV (f := aL) fun _ => rfl))) (aCy))) ?_;exact rt

theorem aFf (o : List Int) {r : (List Int)} {e : Value} (h : slices_Compact_int o = some r) : fP Tryz.prog 108 [.d (.lit e)] [.arr e 3 1 (o.map aL)] (fun r' o' => ∃ w0 : Value, r' = .d (.lit w0) ∧ o' = [.arr w0 3 1 (r.map aL)]) := by
 unfold slices_Compact_int at h;refine kA Tryz.func108 rfl (rs := [.tmp 2]) Tryz.results108 Tryz.ntmps108 (Nat.le_of_ble_eq_true rfl) ?_;refine aC (aA (to (iK 3 1 (.inl rfl) (aF rfl)) ?_));refine aB (aC (aC (aA (tm (Z19 e) (to (kB (m := 0) (aF rfl) rfl rfl bG.of) ?_)))));refine to (scm rfl rfl rfl) (aB ?_);refine tih h (fun c2 h => ?_) (fun c2 h => ?_)
 ·refine aC (aA (tm (Z19 e) (ta (Z19 e) (aB ?_))));obtain rfl := sIn h;exact cI ⟨rfl, _, [.arr e 3 1 (o.map aL)], Z15, _, .one (.tmp 2 (v := .d (.lit e)) rfl), .refl _, .same _, e, rfl, rfl⟩
 ·refine aU (aC (aC (aA (ta (.i 1) (aB (aX ?_))))));refine bP (S := Int × Z26 × Value) [] (fun s3 => [(0, .d (.lit s3.2.2)), (3, .i s3.1)]) (fun s3 => [.arr s3.2.2 3 1 (s3.2.1.map aL)]) (fun k s3 => fA k s3.1 s3.2.1) (fun _ => rfl) (1, o, e) h (aN [0] rfl rfl (aH rfl (aH rfl (aM trivial)))) ?_;rintro k5 ⟨a, n, w4⟩ h;simp only [fA] at h;refine aC (aC (aA (tm (.i a) (tm (.d (.lit w4)) (to (kB (m := 0) (aF rfl) rfl rfl bG.of) ?_)))));refine to (scm rfl rfl rfl) (aB ?_);refine tih h (fun c6 h => ?_) (fun c6 h => ?_)
  ·refine aU (aC (aX (aC ?_)));obtain ⟨x7, h8, h⟩ := bns h;obtain ⟨x9, p, h⟩ := bns h;refine cN mix 9 [0, 3] [(19, .i x7), (24, .i x9)] ?_ ?_
   ·refine ⟨[(16, 0, .d (.lit w4)), (17, 1, .i a), (18, 2, .ep w4 1 a.toNat 0), (19, 3, .i x7), (20, 4, .d (.lit w4)), (21, 5, .i a), (22, 6, .i (w64 (a - 1))), (23, 7, .ep w4 1 (w64 (a - 1)).toNat 0), (24, 8, .i x9)], ?_, ?_⟩
    · exact dk [0, 0, 102, 3, 0, 0, 6, 507, 8] ⟨go (zm (.d (.lit w4))),
      go (zm (.i a)),
      go (zia 0 rfl rfl rfl bG.of (aV aL h8)),
      go fun S hS => iY (aF rfl) (bF hS rfl) (m := 0) rfl (dM aL h8) rfl aO,
      go (zm (.d (.lit w4))),
      go (zm (.i a)),
      go (zar rfl rfl rfl),
      go (zia 0 rfl rfl rfl bG.of (aV aL p)),
      go fun S hS => iY (aF rfl) (bF hS rfl) (m := 0) rfl (dM aL p) rfl aO, trivial⟩
    · exact cC (aH rfl (aH rfl (aM ⟨rfl, rfl, trivial⟩)))
   ·refine to (scm rfl rfl rfl) (aB ?_);refine tih h (fun A h => ?_) (fun A h => ?_)
    ·refine aC (aA (tm (.d (.lit w4)) (tm (.i a) ?_)));obtain ⟨I, B, h⟩ := bns h;refine to (xU (m := 0) (aF rfl) rfl rfl rfl bG.of B) ?_;refine ta (.d (.lit (kD w4 a.toNat 1))) (aB (aC (aC (aA (ta (.i 1) (aB (aX ?_)))))));refine bP (S := Int × Int × Z26) [] (fun j => [(0, .d (.lit w4)), (3, .i j.1), (4, .d (.lit (kD w4 a.toNat 1))), (5, .i j.2.1)]) (fun j => [.arr w4 3 1 (j.2.2.map aL)]) (fun k j => gN (fA k5) a k j.1 j.2.1 j.2.2) (fun _ => rfl) (a, 1, n) h (aN [0] rfl rfl (aH rfl (aH rfl (aH rfl (aH rfl (aM trivial)))))) ?_;rintro J ⟨c, b, g⟩ h;simp only [gN] at h;refine aC (aC (aA (tm (.i b) (tm (.d (.lit (kD w4 a.toNat 1))) (to (aLy (m := 0) (aF rfl) rfl rfl bG.of) ?_)))));refine to (scm rfl rfl rfl) (aB ?_);refine tih h (fun C h => ?_) (fun C h => ?_)
     ·refine aU (aC (aX (aC ?_)));obtain ⟨s, t, h⟩ := bns h;obtain ⟨u, w, h⟩ := bns h;refine cN mix 9 [0, 3, 4, 5] [(38, .i s), (43, .i u)] ?_ ?_
      ·refine ⟨[(35, 0, .d (.lit (kD w4 a.toNat 1))), (36, 1, .i b), (37, 2, .ep w4 1 (a.toNat + b.toNat) 0), (38, 3, .i s), (39, 4, .d (.lit (kD w4 a.toNat 1))), (40, 5, .i b), (41, 6, .i (w64 (b - 1))), (42, 7, .ep w4 1 (a.toNat + (w64 (b - 1)).toNat) 0), (43, 8, .i u)], ?_, ?_⟩
       · exact dk [0, 0, 102, 3, 0, 0, 6, 507, 8] ⟨go (zm (.d (.lit (kD w4 a.toNat 1)))),
      go (zm (.i b)),
      go fun S hS => tM (m := 0) (aF rfl) (bF hS rfl) rfl (bF hS rfl) bG.of (sC (f := aL) t),
      go fun S hS => iY (aF rfl) (bF hS rfl) (m := 0) rfl (aAr aL t) rfl aO,
      go (zm (.d (.lit (kD w4 a.toNat 1)))),
      go (zm (.i b)),
      go (zar rfl rfl rfl),
      go fun S hS => tM (m := 0) (aF rfl) (bF hS rfl) rfl (bF hS rfl) bG.of (sC (f := aL) w),
      go fun S hS => iY (aF rfl) (bF hS rfl) (m := 0) rfl (aAr aL w) rfl aO, trivial⟩
       · exact cC (aH rfl (aH rfl (aM ⟨rfl, rfl, rfl, rfl, trivial⟩)))
      ·refine to (scm rfl rfl rfl) (aB ?_);refine tih h (fun E h => ?_) (fun E h => ?_)
       ·refine aC (aA (tm (.d (.lit w4)) (tm (.i c) (tm (.d (.lit (kD w4 a.toNat 1))) (tm (.i b) ?_)))));obtain ⟨x, y, h⟩ := bns h;refine to (tM (m := 0) (aF rfl) rfl rfl rfl bG.of (sC (f := aL) y)) ?_;refine to (iY (aF rfl) rfl (m := 0) rfl (aAr aL y) rfl aO) ?_;obtain ⟨K, z, h⟩ := bns h;refine to (iB (m := 0) (aF rfl) rfl rfl rfl bG.of (aV aL z)) ?_;refine to (lC (l := 0) rfl rfl (dM aL z) rfl rfl rfl Tryz.sizeOf3 rfl (aF rfl) (Nat.le_of_ble_eq_true rfl) (rows' := ((g.set c.toNat x)).map aL) (rX _ _ _ _ rfl)) ?_;refine aB (aA (tm (.i c) (to (sar rfl rfl rfl) (ta (.i (w64 (c + 1))) ?_))));refine cM ?_;refine aA (tm (.i b) (to (sar rfl rfl rfl) (ta (.i (w64 (b + 1))) (aB ?_))));exact ⟨(w64 (c + 1), w64 (b + 1), (g.set c.toNat x)), h, aN [0] rfl rfl (aH rfl (aH rfl (aH rfl (aH rfl (aM trivial)))))⟩
       ·refine cL ?_;refine aA (tm (.i b) (to (sar rfl rfl rfl) (ta (.i (w64 (b + 1))) (aB ?_))));exact ⟨(c, w64 (b + 1), g), h, aN [0] rfl rfl (aH rfl (aH rfl (aH rfl (aH rfl (aM trivial)))))⟩
     ·refine bQ ?_;refine .inl ⟨rfl, ?_⟩;simp only [sA] at h;refine aC (aA (tm (.d (.lit w4)) (tm (.i c) ?_)));obtain ⟨L, F, h⟩ := bns h;refine to (xU (m := 0) (aF rfl) rfl rfl rfl bG.of F) ?_;obtain ⟨M, G, h⟩ := bns h;refine to (aQa (f := aL) (m := 0) bG rfl rfl G (by decide)) ?_;refine aB (aC (aA (tm (.d (.lit w4)) (tm (.i c) ?_))));obtain ⟨N, H, h⟩ := bns h;refine to (aHy (m := 0) (q := c.toNat) (v := w4) (aF rfl) rfl rfl rfl rfl (aUg H) bG.of) ?_;refine ta (.d (.lit (lX w4 c.toNat))) (aB ?_);obtain rfl := sIn h;exact cI ⟨rfl, _, [.arr (lX w4 c.toNat) 3 1 ((g.take c.toNat).map aL)], [], _, .one (.tmp 2 (v := .d (.lit (lX w4 c.toNat))) rfl), .refl _, .same _, (lX w4 c.toNat), rfl, rfl⟩
    ·refine cL ?_;simp only [rZ] at h;refine aA (tm (.i a) (to (sar rfl rfl rfl) (ta (.i (w64 (a + 1))) (aB ?_))));exact ⟨(w64 (a + 1), n, w4), h, aN [0] rfl rfl (aH rfl (aH rfl (aM trivial)))⟩
  ·refine bQ ?_;refine .inl ⟨rfl, ?_⟩;simp only [rY] at h;refine aC (aA (tm (.d (.lit w4)) (ta (.d (.lit w4)) (aB ?_))));obtain rfl := sIn h;exact cI ⟨rfl, _, [.arr w4 3 1 (n.map aL)], [], _, .one (.tmp 2 (v := .d (.lit w4)) rfl), .refl _, .same _, w4, rfl, rfl⟩

theorem zS (a : List Int) {r : Bool} (h : oJ a = some r) : Fn Tryz.prog 78 [.d (Z8 a)] (.b r) := by
 unfold oJ at h;refine oT [.tmp 2] Tryz.func78 Tryz.results78 Tryz.ntmps78 ?_;refine aC (aA (ta Z3 (aB (aC (aA (tm (Z41 a) ?_))))));obtain ⟨r1, h2, h⟩ := bns h;refine bB rfl (aAd (aF rfl) (.func _ _ Tryz.call63) rfl rfl (tU _ h2)) ?_;rintro _ ⟨v3, rfl⟩;obtain ⟨r4, h5, h⟩ := bns h;refine bB rfl (eZ (passed := [.arr v3 3 1 (r1.map aL)]) (aF rfl) rfl (.func _ _ Tryz.call108) rfl rfl (aFf r1 h5)) ?_;rintro _ ⟨_, _, ⟨v6, rfl, rfl⟩, rfl⟩;refine to (kB (m := 0) (aF rfl) rfl rfl bG.of) ?_;refine tm (Z41 a) (to (sle rfl bG.of) (to (scm rfl rfl rfl) (ta (.b (decide ((r4.length : Int) = (a.length : Int)))) (aB ?_))));obtain rfl := sIn h;refine bL (bC (bE (l := [2]) ⟨rfl, trivial⟩)) ?_;exact rt

end Go.Am
