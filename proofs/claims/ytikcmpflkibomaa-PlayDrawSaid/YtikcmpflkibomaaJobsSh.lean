/- Shallow functions, printed by program. -/
import Derived.Test.YtikcmpflkibomaaBrSh
namespace Go.Am

structure bJ where
  Low : Int
  High : Int
  deriving DecidableEq, Inhabited
def bA (x : bJ) : List D := [.lit (.int .i64 x.Low), .lit (.int .i64 x.High)]

def bH (x : List bJ) : List D := [.sl 2 (x.map bA)]

structure cS where
  Length : bJ
  After : List Int
  With : List Int
  Due : Int
  Earliest : Int
  deriving DecidableEq, Inhabited
def aT (x : cS) : List D := [.lit (.int .i64 x.Length.Low), .lit (.int .i64 x.Length.High), .sl 1 (x.After.map aW), .sl 1 (x.With.map aW), .lit (.int .i64 x.Due), .lit (.int .i64 x.Earliest)]

structure cP where
  Days : List (List bJ)
  Rest : Int
  Jobs : List cS
  deriving DecidableEq, Inhabited
def bK (x : cP) : List D := [.sl 1 (x.Days.map bH), .lit (.int .i64 x.Rest), .sl 6 (x.Jobs.map aT)]

structure bM where
  Job : Int
  Day : Int
  Court : Int
  deriving DecidableEq, Inhabited
def aR (x : bM) : List D := [.lit (.int .i64 x.Job), .lit (.int .i64 x.Day), .lit (.int .i64 x.Court)]

structure A3 (α : Type) where
  x0 : α
  x1 : α
  x2 : α
  deriving DecidableEq, Inhabited
def A3.at {α : Type} (a : A3 α) (p : Int) : α := if p = 0 then a.x0 else if p = 1 then a.x1 else a.x2
def A3.set {α : Type} (a : A3 α) (p : Int) (v : α) : A3 α := if p = 0 then { a with x0 := v } else if p = 1 then { a with x1 := v } else { a with x2 := v }
theorem A3.cellI {a : A3 Int} {p : Int} {u : Unit} (h : inb 3 p = some u) {ds : List D} {j : Nat} (h0 : ds[j + 0]? = some (.lit (.int .i64 a.x0))) (h1 : ds[j + 1]? = some (.lit (.int .i64 a.x1))) (h2 : ds[j + 2]? = some (.lit (.int .i64 a.x2))) : ds[j + p.toNat * 1]? = some (.lit (.int .i64 (a.at p))) := by
  obtain ⟨a1, a2⟩ := iE h
  have : p = 0 ∨ p = 1 ∨ p = 2 := by omega
  rcases this with rfl | rfl | rfl
  · exact h0
  · exact h1
  · exact h2
theorem A3.celzI {a : A3 Int} {p : Int} {u : Unit} (h : inb 3 p = some u) {ds : List D} (h0 : ds[0]? = some (.lit (.int .i64 a.x0))) (h1 : ds[1]? = some (.lit (.int .i64 a.x1))) (h2 : ds[2]? = some (.lit (.int .i64 a.x2))) : ds[p.toNat * 1]? = some (.lit (.int .i64 (a.at p))) := by
  obtain ⟨a1, a2⟩ := iE h
  have : p = 0 ∨ p = 1 ∨ p = 2 := by omega
  rcases this with rfl | rfl | rfl
  · exact h0
  · exact h1
  · exact h2
theorem A3.updI {a : A3 Int} {p : Int} {v : Int} {u : Unit} (h : inb 3 p = some u) {ds : List D} {j : Nat} (f : A3 Int → List D) (h0 : iF ds (j + 0) [.lit (.int .i64 v)] = f { a with x0 := v }) (h1 : iF ds (j + 1) [.lit (.int .i64 v)] = f { a with x1 := v }) (h2 : iF ds (j + 2) [.lit (.int .i64 v)] = f { a with x2 := v }) : iF ds (j + p.toNat * 1) [.lit (.int .i64 v)] = f (a.set p v) := by
  obtain ⟨a1, a2⟩ := iE h
  have : p = 0 ∨ p = 1 ∨ p = 2 := by omega
  rcases this with rfl | rfl | rfl
  · exact h0
  · exact h1
  · exact h2
structure A6 (α : Type) where
  x0 : α
  x1 : α
  x2 : α
  x3 : α
  x4 : α
  x5 : α
  deriving DecidableEq, Inhabited
def A6.at {α : Type} (a : A6 α) (p : Int) : α := if p = 0 then a.x0 else if p = 1 then a.x1 else if p = 2 then a.x2 else if p = 3 then a.x3 else if p = 4 then a.x4 else a.x5
def A6.set {α : Type} (a : A6 α) (p : Int) (v : α) : A6 α := if p = 0 then { a with x0 := v } else if p = 1 then { a with x1 := v } else if p = 2 then { a with x2 := v } else if p = 3 then { a with x3 := v } else if p = 4 then { a with x4 := v } else { a with x5 := v }
theorem A6.cellI {a : A6 Int} {p : Int} {u : Unit} (h : inb 6 p = some u) {ds : List D} {j : Nat} (h0 : ds[j + 0]? = some (.lit (.int .i64 a.x0))) (h1 : ds[j + 1]? = some (.lit (.int .i64 a.x1))) (h2 : ds[j + 2]? = some (.lit (.int .i64 a.x2))) (h3 : ds[j + 3]? = some (.lit (.int .i64 a.x3))) (h4 : ds[j + 4]? = some (.lit (.int .i64 a.x4))) (h5 : ds[j + 5]? = some (.lit (.int .i64 a.x5))) : ds[j + p.toNat * 1]? = some (.lit (.int .i64 (a.at p))) := by
  obtain ⟨a1, a2⟩ := iE h
  have : p = 0 ∨ p = 1 ∨ p = 2 ∨ p = 3 ∨ p = 4 ∨ p = 5 := by omega
  rcases this with rfl | rfl | rfl | rfl | rfl | rfl
  · exact h0
  · exact h1
  · exact h2
  · exact h3
  · exact h4
  · exact h5
theorem A6.celzI {a : A6 Int} {p : Int} {u : Unit} (h : inb 6 p = some u) {ds : List D} (h0 : ds[0]? = some (.lit (.int .i64 a.x0))) (h1 : ds[1]? = some (.lit (.int .i64 a.x1))) (h2 : ds[2]? = some (.lit (.int .i64 a.x2))) (h3 : ds[3]? = some (.lit (.int .i64 a.x3))) (h4 : ds[4]? = some (.lit (.int .i64 a.x4))) (h5 : ds[5]? = some (.lit (.int .i64 a.x5))) : ds[p.toNat * 1]? = some (.lit (.int .i64 (a.at p))) := by
  obtain ⟨a1, a2⟩ := iE h
  have : p = 0 ∨ p = 1 ∨ p = 2 ∨ p = 3 ∨ p = 4 ∨ p = 5 := by omega
  rcases this with rfl | rfl | rfl | rfl | rfl | rfl
  · exact h0
  · exact h1
  · exact h2
  · exact h3
  · exact h4
  · exact h5
theorem A6.updI {a : A6 Int} {p : Int} {v : Int} {u : Unit} (h : inb 6 p = some u) {ds : List D} {j : Nat} (f : A6 Int → List D) (h0 : iF ds (j + 0) [.lit (.int .i64 v)] = f { a with x0 := v }) (h1 : iF ds (j + 1) [.lit (.int .i64 v)] = f { a with x1 := v }) (h2 : iF ds (j + 2) [.lit (.int .i64 v)] = f { a with x2 := v }) (h3 : iF ds (j + 3) [.lit (.int .i64 v)] = f { a with x3 := v }) (h4 : iF ds (j + 4) [.lit (.int .i64 v)] = f { a with x4 := v }) (h5 : iF ds (j + 5) [.lit (.int .i64 v)] = f { a with x5 := v }) : iF ds (j + p.toNat * 1) [.lit (.int .i64 v)] = f (a.set p v) := by
  obtain ⟨a1, a2⟩ := iE h
  have : p = 0 ∨ p = 1 ∨ p = 2 ∨ p = 3 ∨ p = 4 ∨ p = 5 := by omega
  rcases this with rfl | rfl | rfl | rfl | rfl | rfl
  · exact h0
  · exact h1
  · exact h2
  · exact h3
  · exact h4
  · exact h5
def aMj (x : A6 Int) : List D := [.lit (.int .i64 x.x0), .lit (.int .i64 x.x1), .lit (.int .i64 x.x2), .lit (.int .i64 x.x3), .lit (.int .i64 x.x4), .lit (.int .i64 x.x5)]

structure dF where
  number : Int
  free : A3 Int
  ends : A6 Int
  deriving DecidableEq, Inhabited
def cH (x : dF) : List D := [.lit (.int .i64 x.number), .lit (.int .i64 x.free.x0), .lit (.int .i64 x.free.x1), .lit (.int .i64 x.free.x2), .lit (.int .i64 x.ends.x0), .lit (.int .i64 x.ends.x1), .lit (.int .i64 x.ends.x2), .lit (.int .i64 x.ends.x3), .lit (.int .i64 x.ends.x4), .lit (.int .i64 x.ends.x5)]

structure aS where
  day : dF
  done : Int
  moves : Int
  deriving DecidableEq, Inhabited
def bG (x : aS) : List D := [.lit (.int .i64 x.day.number), .lit (.int .i64 x.day.free.x0), .lit (.int .i64 x.day.free.x1), .lit (.int .i64 x.day.free.x2), .lit (.int .i64 x.day.ends.x0), .lit (.int .i64 x.day.ends.x1), .lit (.int .i64 x.day.ends.x2), .lit (.int .i64 x.day.ends.x3), .lit (.int .i64 x.day.ends.x4), .lit (.int .i64 x.day.ends.x5), .lit (.int .i64 x.done), .lit (.int .i64 x.moves)]

structure eN where
  Program : cP
  days : Int
  old : Option (List bM)
  deriving DecidableEq, Inhabited

structure cX where
  Length : bJ
  Due : Int
  deriving DecidableEq, Inhabited
def cD (x : cX) : List D := [.lit (.int .i64 x.Length.Low), .lit (.int .i64 x.Length.High), .lit (.int .i64 x.Due)]

def aDj (x : List cX) : List D := [.sl 3 (x.map cD)]

def aEj (x : bJ) : Prop := okI x.Low ∧ okI x.High

def xH (x : cX) : Prop := aEj x.Length ∧ okI x.Due

def oK : Option (cP × (List bM)) :=
    some ((cP.mk ([[(bJ.mk 600 900), (bJ.mk 600 780)], [(bJ.mk 600 800), (bJ.mk 600 600)]]) 30 ([(cS.mk (bJ.mk 60 120) ([] : List Int) ([] : List Int) 1 0), (cS.mk (bJ.mk 60 100) ([] : List Int) ([] : List Int) 1 0), (cS.mk (bJ.mk 90 150) ([0, 1]) ([] : List Int) 1 0)])), [(bM.mk 0 0 0), (bM.mk 1 0 1), (bM.mk 2 0 0)])

def fM (n_0 : Int) (low_1 : Int) (high_2 : Int) : Option Bool :=
    (bif decide (low_1 ≤ n_0) then (some (decide (n_0 ≤ high_2))) else (some false)).bind fun b1 =>
    some b1

def nC : Option Int :=
    some (-1)

def iB (s_0 : List bJ) (f_0 : bJ → Option Bool) (t7_0 : Int) : Nat → Int → Option Int
  | 0, _ => none
  | k0 + 1, t8_0 =>
    bif decide (t8_0 < t7_0) then ((idx s_0 t8_0).bind fun x1 =>
    (f_0 x1).bind fun r2 =>
    bif r2 then (some t8_0)
    else ((iB s_0 f_0 t7_0 k0) (w64 (t8_0 + 1))))
    else (nC)

def kU (s_0 : List bJ) (f_1 : bJ → Option Bool) : Option Int :=
    iB s_0 f_1 (s_0.length : Int) BIG 0

def kA (s_0 : List bJ) (f_1 : bJ → Option Bool) : Option Bool :=
    (kU s_0 f_1).bind fun r1 =>
    some (decide (0 ≤ r1))

def pD (s_0 : bJ) (low_1 : Int) (high_2 : Int) : Option Bool :=
    (bif decide (s_0.Low ≤ s_0.High) then ((fM s_0.Low low_1 high_2).bind fun r2 =>
    some r2) else (some false)).bind fun b3 =>
    (bif b3 then ((fM s_0.High low_1 high_2).bind fun r4 =>
    some r4) else (some false)).bind fun b5 =>
    some b5

def uK (s_0 : bJ) : Option Bool :=
    (pD s_0 0 1440).bind fun r2 =>
    some (!r2)

def nB (length_0 : bJ) (due_1 : Int) : Option Bool :=
    (pD length_0 1 600).bind fun r2 =>
    (bif r2 then ((fM due_1 0 2).bind fun r3 =>
    some r3) else (some false)).bind fun b4 =>
    some b4

def vG : Option Bool :=
    some true

def oE (l_0 : List Int) (bound_0 : Int) (t7_0 : List Int) (t8_0 : Int) : Nat → Int → Option Bool
  | 0, _ => none
  | k0 + 1, t9_0 =>
    bif decide (t9_0 < t8_0) then ((idx t7_0 t9_0).bind fun x1 =>
    (fM x1 0 (w64 (bound_0 - 1))).bind fun r2 =>
    (bif !r2 then (some true) else ((bif decide (0 < t9_0) then ((idx l_0 (w64 (t9_0 - 1))).bind fun x3 =>
    some (decide (x1 ≤ x3))) else (some false)).bind fun b4 =>
    some b4)).bind fun b5 =>
    bif b5 then (some false)
    else ((oE l_0 bound_0 t7_0 t8_0 k0) (w64 (t9_0 + 1))))
    else (vG)

def qN (l_0 : List Int) (bound_1 : Int) : Option Bool :=
    oE l_0 bound_1 l_0 (l_0.length : Int) BIG 0

def xX : Option Int :=
    some 0

def pK (t49_2 : List cS) (t50_2 : Int) (p_2 : cP) : Nat → Int → Option Int
  | 0, _ => none
  | k2 + 1, t51_2 =>
    bif decide (t51_2 < t50_2) then ((idx t49_2 t51_2).bind fun x12 =>
    (nB x12.Length x12.Due).bind fun r14 =>
    (bif !r14 then (some true) else ((fM x12.Earliest 0 1440).bind fun r15 =>
    some (!r15))).bind fun b16 =>
    (bif b16 then (some true) else ((qN x12.After t51_2).bind fun r17 =>
    some (!r17))).bind fun b18 =>
    (bif b18 then (some true) else ((qN x12.With (p_2.Jobs.length : Int)).bind fun r19 =>
    some (!r19))).bind fun b20 =>
    (bif b20 then (some true) else ((eC x12.With t51_2).bind fun r21 =>
    some r21)).bind fun b22 =>
    bif b22 then (some 80)
    else ((pK t49_2 t50_2 p_2 k2) (w64 (t51_2 + 1))))
    else (xX)

def xW (p_100 : cP) : Option Int :=
    pK p_100.Jobs (p_100.Jobs.length : Int) p_100 BIG 0

def pJ (t25_0 : List (List bJ)) (t26_0 : Int) (p_0 : cP) : Nat → Int → Option Int
  | 0, _ => none
  | k0 + 1, t27_0 =>
    bif decide (t27_0 < t26_0) then ((idx t25_0 t27_0).bind fun x6 =>
    (fM (x6.length : Int) 1 3).bind fun r7 =>
    (bif !r7 then (some true) else ((idx p_0.Days 0).bind fun x8 =>
    some (!decide ((x6.length : Int) = (x8.length : Int))))).bind fun b9 =>
    bif b9 then (some 80)
    else ((kA x6 (fun y10 => uK y10)).bind fun r11 =>
    bif r11 then (some 80)
    else ((pJ t25_0 t26_0 p_0 k0) (w64 (t27_0 + 1)))))
    else (xW p_0)

def qK (p_0 : cP) : Option Int :=
    (fM (p_0.Days.length : Int) 1 3).bind fun r2 =>
    (bif !r2 then (some true) else ((fM p_0.Rest 0 600).bind fun r3 =>
    some (!r3))).bind fun b4 =>
    (bif b4 then (some true) else (some (decide (6 < (p_0.Jobs.length : Int))))).bind fun b5 =>
    bif b5 then (some 80)
    else (pJ p_0.Days (p_0.Days.length : Int) p_0 BIG 0)

def oY : Option Int :=
    some (-1)

def jT (s_0 : List Int) (f_0 : Int → Option Bool) (t7_0 : Int) : Nat → Int → Option Int
  | 0, _ => none
  | k0 + 1, t8_0 =>
    bif decide (t8_0 < t7_0) then ((idx s_0 t8_0).bind fun x1 =>
    (f_0 x1).bind fun r2 =>
    bif r2 then (some t8_0)
    else ((jT s_0 f_0 t7_0 k0) (w64 (t8_0 + 1))))
    else (oY)

def nO (s_0 : List Int) (f_1 : Int → Option Bool) : Option Int :=
    jT s_0 f_1 (s_0.length : Int) BIG 0

def lX (s_0 : List Int) (f_1 : Int → Option Bool) : Option Bool :=
    (nO s_0 f_1).bind fun r1 =>
    some (decide (0 ≤ r1))

def rT (n_0 : Int) (c_1 : List Int) : Option Bool :=
    (eC c_1 n_0).bind fun r1 =>
    some (!r1)

def vH (p_100 : cP) (done_100 : List Int) : Option Bool :=
    some (decide ((done_100.length : Int) = (p_100.Jobs.length : Int)))

def oG (order_0 : List bM) (t10_0 : List bM) (t11_0 : Int) (p_0 : cP) : Nat → Int → (List Int) → Option Bool
  | 0, _, _ => none
  | k0 + 1, t12_0, done_0 =>
    bif decide (t12_0 < t11_0) then ((idx t10_0 t12_0).bind fun x3 =>
    (fM x3.Job 0 (w64 ((p_0.Jobs.length : Int) - 1))).bind fun r5 =>
    (bif !r5 then (some true) else ((eC done_0 x3.Job).bind fun r6 =>
    some r6)).bind fun b7 =>
    (bif b7 then (some true) else ((fM x3.Day 0 (w64 ((p_0.Days.length : Int) - 1))).bind fun r8 =>
    some (!r8))).bind fun b9 =>
    (bif b9 then (some true) else ((idx p_0.Days 0).bind fun x10 =>
    (fM x3.Court 0 (w64 ((x10.length : Int) - 1))).bind fun r11 =>
    some (!r11))).bind fun b12 =>
    bif b12 then (some false)
    else ((idx p_0.Jobs x3.Job).bind fun x13 =>
    (lX x13.After (fun y15 => rT y15 done_0)).bind fun r16 =>
    (bif decide (x13.Due < x3.Day) then (some true) else (some r16)).bind fun b17 =>
    (bif b17 then (some true) else ((bif decide (0 < t12_0) then ((idx order_0 (w64 (t12_0 - 1))).bind fun x18 =>
    some (decide (x3.Day < x18.Day))) else (some false)).bind fun b19 =>
    some b19)).bind fun b20 =>
    bif b20 then (some false)
    else ((app 8 done_0 ([x3.Job])).bind fun x21 =>
    (oG order_0 t10_0 t11_0 p_0 k0) (w64 (t12_0 + 1)) x21)))
    else (vH p_0 done_0)

def qP (p_0 : cP) (order_1 : List bM) : Option Bool :=
    oG order_1 order_1 (order_1.length : Int) p_0 BIG 0 ([] : List Int)

def zW (o4_100 : dF) (d_100 : dF) : Option dF :=
    some d_100

def qR (t14_0 : List bJ) (t15_0 : Int) (o4_0 : dF) : Nat → Int → dF → Option dF
  | 0, _, _ => none
  | k0 + 1, t16_0, d_0 =>
    bif decide (t16_0 < t15_0) then ((idx t14_0 t16_0).bind fun x5 =>
    (inb 3 t16_0).bind fun u7 =>
    (qR t14_0 t15_0 o4_0 k0) (w64 (t16_0 + 1)) (dF.mk d_0.number (d_0.free.set t16_0 x5.Low) d_0.ends))
    else (zW o4_0 d_0)

def pZ (p_0 : cP) (number_1 : Int) : Option dF :=
    (idx p_0.Days number_1).bind fun x4 =>
    qR x4 (x4.length : Int) (dF.mk 0 (A3.mk 0 0 0) (A6.mk 0 0 0 0 0 0)) BIG 0 (dF.mk number_1 (A3.mk 0 0 0) (A6.mk 0 0 0 0 0 0))

def qS (x_0 : Int) (y_1 : Int) (c_2 : cP) : Option Bool :=
    (idx c_2.Jobs x_0).bind fun x1 =>
    (eC x1.After y_1).bind fun r3 =>
    (bif r3 then (some true) else ((eC x1.With y_1).bind fun r4 =>
    some r4)).bind fun b5 =>
    some b5

def xN (p_0 : cP) (a_1 : Int) (b_2 : Int) : Option Bool :=
    (qS a_1 b_2 p_0).bind fun r2 =>
    (bif r2 then (some true) else ((qS b_2 a_1 p_0).bind fun r3 =>
    some r3)).bind fun b4 =>
    some b4

def uM (length_100 : Int) (beginv_100 : Int) (d_100 : dF) (s_100 : bM) : Option (Int × Int × dF) :=
    (inb 3 s_100.Court).bind fun u8 =>
    (inb 6 s_100.Job).bind fun u9 =>
    some (beginv_100, w64 (beginv_100 + length_100), (dF.mk d_100.number (d_100.free.set s_100.Court (w64 (beginv_100 + length_100))) (d_100.ends.set s_100.Job (w64 (beginv_100 + length_100)))))

def lM (length_0 : Int) (t30_0 : A6 Int) (d_0 : dF) (p_0 : cP) (s_0 : bM) : Nat → Int → Int → Option (Int × Int × dF)
  | 0, _, _ => none
  | k0 + 1, beginv_0, t31_0 =>
    bif decide (t31_0 < 6) then ((inb 6 t31_0).bind fun u5 =>
    (bif decide (0 < (t30_0.at t31_0)) then ((xN p_0 s_0.Job t31_0).bind fun r6 =>
    some r6) else (some false)).bind fun b7 =>
    bif b7 then ((lM length_0 t30_0 d_0 p_0 s_0 k0) (max beginv_0 (w64 ((t30_0.at t31_0) + p_0.Rest))) (w64 (t31_0 + 1)))
    else ((lM length_0 t30_0 d_0 p_0 s_0 k0) beginv_0 (w64 (t31_0 + 1))))
    else (uM length_0 beginv_0 d_0 s_0)

def nT (d_0 : dF) (p_1 : cP) (s_2 : bM) (length_3 : Int) : Option (Int × Int × dF) :=
    (inb 3 s_2.Court).bind fun u3 =>
    (idx p_1.Jobs s_2.Job).bind fun x4 =>
    lM length_3 d_0.ends d_0 p_1 s_2 BIG (max (d_0.free.at s_2.Court) x4.Earliest) 0

def yB (o14_100 : List Int) (o18_100 : List Int) : Option ((List Int) × (List Int)) :=
    some (o14_100, o18_100)

def nU (length_0 : bJ → Option Int) (t21_0 : List bM) (t22_0 : Int) (p_0 : cP) : Nat → Int → dF → (List Int) → (List Int) → Option ((List Int) × (List Int))
  | 0, _, _, _, _ => none
  | k0 + 1, t23_0, now_0, o14_0, o18_0 =>
    bif decide (t23_0 < t22_0) then ((idx t21_0 t23_0).bind fun x10 =>
    bif !decide (x10.Day = now_0.number) then ((pZ p_0 x10.Day).bind fun r12 =>
    (idx p_0.Jobs x10.Job).bind fun x13 =>
    (length_0 x13.Length).bind fun r14 =>
    (nT r12 p_0 x10 r14).bind fun r15 =>
    (idx o14_0 x10.Job).bind fun x16 =>
    (idx o18_0 x10.Job).bind fun x17 =>
    (nU length_0 t21_0 t22_0 p_0 k0) (w64 (t23_0 + 1)) r15.2.2 (o14_0.set x10.Job.toNat r15.1) (o18_0.set x10.Job.toNat r15.2.1))
    else ((idx p_0.Jobs x10.Job).bind fun x18 =>
    (length_0 x18.Length).bind fun r19 =>
    (nT now_0 p_0 x10 r19).bind fun r20 =>
    (idx o14_0 x10.Job).bind fun x21 =>
    (idx o18_0 x10.Job).bind fun x22 =>
    (nU length_0 t21_0 t22_0 p_0 k0) (w64 (t23_0 + 1)) r20.2.2 (o14_0.set x10.Job.toNat r20.1) (o18_0.set x10.Job.toNat r20.2.1)))
    else (yB o14_0 o18_0)

def qT (p_0 : cP) (order_1 : List bM) (length_2 : bJ → Option Int) : Option ((List Int) × (List Int)) :=
    (mk 8 (p_0.Jobs.length : Int) 0).bind fun x4 =>
    (mk 8 (p_0.Jobs.length : Int) 0).bind fun x6 =>
    (pZ p_0 0).bind fun r8 =>
    nU length_2 order_1 (order_1.length : Int) p_0 BIG 0 r8 x4 x6

def qQ (s_0 : bJ) : Option Int :=
    some s_0.High

def zT : Option (Bool × Int × Int) :=
    some (true, (-1), 0)

def qL (ends_0 : List Int) (t27_0 : List bM) (t28_0 : Int) (p_0 : cP) : Nat → Int → Option (Bool × Int × Int)
  | 0, _ => none
  | k0 + 1, t29_0 =>
    bif decide (t29_0 < t28_0) then ((idx t27_0 t29_0).bind fun x6 =>
    (idx ends_0 x6.Job).bind fun x8 =>
    (idx p_0.Days x6.Day).bind fun x9 =>
    (idx x9 x6.Court).bind fun x10 =>
    bif decide (x10.High < x8) then (some (false, x6.Job, 0))
    else ((qL ends_0 t27_0 t28_0 p_0 k0) (w64 (t29_0 + 1))))
    else (zT)

def zS (p_0 : cP) (order_1 : List bM) : Option (Bool × Int × Int) :=
    (qK p_0).bind fun r2 =>
    bif !decide (r2 = 0) then (some (false, 0, r2))
    else ((qP p_0 order_1).bind fun r3 =>
    bif !r3 then (some (false, 0, 81))
    else ((qT p_0 order_1 (fun y4 => qQ y4)).bind fun r5 =>
    qL r5.2 order_1 (order_1.length : Int) p_0 BIG 0))

def oW (x_0 : aS) (job_1 : Int) : Option Bool :=
    (chk (decide (0 ≤ job_1))).bind fun u2 =>
    some (decide ((aNj (x_0.done.fdiv (2 ^ (min job_1.toNat 64))) 1) = 1))

def oU : Option Int :=
    some (-1)

def jK (s_0 : List bM) (t7_0 : Int) (v_0 : bM) : Nat → Int → Option Int
  | 0, _ => none
  | k0 + 1, t8_0 =>
    bif decide (t8_0 < t7_0) then ((idx s_0 t8_0).bind fun x2 =>
    bif decide (v_0 = x2) then (some t8_0)
    else ((jK s_0 t7_0 v_0 k0) (w64 (t8_0 + 1))))
    else (oU)

def nD (s_0 : List bM) (v_1 : bM) : Option Int :=
    jK s_0 (s_0.length : Int) v_1 BIG 0

def lO (s_0 : List bM) (v_1 : bM) : Option Bool :=
    (nD s_0 v_1).bind fun r2 =>
    some (decide (0 ≤ r2))

def pR (s_0 : eN) (x_1 : bM) : Option Int :=
    (bif s_0.old.isNone then (some true) else ((lO (s_0.old.getD []) x_1).bind fun r2 =>
    some r2)).bind fun b3 =>
    bif b3 then (some 0)
    else (some 1)

def iL (againR : eN → (List (aS × Int)) → aS → Option ((List bM) × Bool × (List (aS × Int)))) (again0 : Int → (List (aS × Int)) → Option ((List bM) × Bool × (List (aS × Int)))) (s_101 : cP) (s_101_2 : Int) (s_101_3 : Option (List bM)) (t51_101 : List cS) (t52_101 : Int) (t53_101 : Int) (s_101_4 : List (aS × Int)) (x_101 : aS) : Option ((List bM) × Bool × (List (aS × Int))) :=
    again0 (w64 (t53_101 + 1)) s_101_4

def nX (againR : eN → (List (aS × Int)) → aS → Option ((List bM) × Bool × (List (aS × Int)))) (again0 : Int → (List (aS × Int)) → Option ((List bM) × Bool × (List (aS × Int)))) (again4 : Int → (List (aS × Int)) → Option ((List bM) × Bool × (List (aS × Int)))) (s_105 : cP) (s_105_2 : Int) (s_105_3 : Option (List bM)) (job_105 : Int) (n_105 : Int) (t51_105 : List cS) (t52_105 : Int) (t53_105 : Int) (s_105_4 : List (aS × Int)) (x_105 : aS) (j_105 : cS) : Option ((List bM) × Bool × (List (aS × Int))) :=
    again4 (w64 (n_105 + 1)) s_105_4

def nY (againR : eN → (List (aS × Int)) → aS → Option ((List bM) × Bool × (List (aS × Int)))) (again0 : Int → (List (aS × Int)) → Option ((List bM) × Bool × (List (aS × Int)))) (again4 : Int → (List (aS × Int)) → Option ((List bM) × Bool × (List (aS × Int)))) (s_106 : cP) (s_106_2 : Int) (s_106_3 : Option (List bM)) (job_106 : Int) (n_106 : Int) (t51_106 : List cS) (t52_106 : Int) (t53_106 : Int) (s_106_4 : List (aS × Int)) (x_106 : aS) (j_106 : cS) : Option ((List bM) × Bool × (List (aS × Int))) :=
    nX againR again0 again4 s_106 s_106_2 s_106_3 job_106 n_106 t51_106 t52_106 t53_106 s_106_4 x_106 j_106

def fP (againR : eN → (List (aS × Int)) → aS → Option ((List bM) × Bool × (List (aS × Int)))) (again0 : Int → (List (aS × Int)) → Option ((List bM) × Bool × (List (aS × Int)))) (again4 : Int → (List (aS × Int)) → Option ((List bM) × Bool × (List (aS × Int)))) (s_6 : cP) (s_6_2 : Int) (s_6_3 : Option (List bM)) (job_6 : Int) (n_6 : Int) (t51_6 : List cS) (t52_6 : Int) (t53_6 : Int) (t110_6 : List bJ) (t111_6 : Int) (x_6 : aS) (j_6 : cS) (now_6 : dF) : Nat → Int → (List (aS × Int)) → Option ((List bM) × Bool × (List (aS × Int)))
  | 0, _, _ => none
  | k6 + 1, t112_6, s_6_4 =>
    bif decide (t112_6 < t111_6) then ((idx t110_6 t112_6).bind fun x12 =>
    (chk (decide (0 ≤ job_6))).bind fun u15 =>
    (pR (eN.mk s_6 s_6_2 s_6_3) (bM.mk job_6 n_6 t112_6)).bind fun r16 =>
    (nT now_6 s_6 (bM.mk job_6 n_6 t112_6) j_6.Length.High).bind fun r18 =>
    (bif decide (x12.High < r18.2.1) then (some true) else (some (decide ((w64 (x_6.moves - r16)) < 0)))).bind fun b19 =>
    bif b19 then ((fP againR again0 again4 s_6 s_6_2 s_6_3 job_6 n_6 t51_6 t52_6 t53_6 t110_6 t111_6 x_6 j_6 now_6 k6) (w64 (t112_6 + 1)) s_6_4)
    else ((againR (eN.mk s_6 s_6_2 s_6_3) s_6_4 (aS.mk r18.2.2 (bOr x_6.done (w64 (1 * 2 ^ (min job_6.toNat 64)))) (w64 (x_6.moves - r16)))).bind fun r20 =>
    bif r20.2.1 then ((app 24 ([(bM.mk job_6 n_6 t112_6)]) r20.1).bind fun x23 =>
    some (x23, true, r20.2.2))
    else ((fP againR again0 again4 s_6 s_6_2 s_6_3 job_6 n_6 t51_6 t52_6 t53_6 t110_6 t111_6 x_6 j_6 now_6 k6) (w64 (t112_6 + 1)) r20.2.2)))
    else (nY againR again0 again4 s_6 s_6_2 s_6_3 job_6 n_6 t51_6 t52_6 t53_6 s_6_4 x_6 j_6)

def rL (againR : eN → (List (aS × Int)) → aS → Option ((List bM) × Bool × (List (aS × Int)))) (again0 : Int → (List (aS × Int)) → Option ((List bM) × Bool × (List (aS × Int)))) (s_104 : cP) (s_104_2 : Int) (s_104_3 : Option (List bM)) (t51_104 : List cS) (t52_104 : Int) (t53_104 : Int) (s_104_4 : List (aS × Int)) (x_104 : aS) : Option ((List bM) × Bool × (List (aS × Int))) :=
    iL againR again0 s_104 s_104_2 s_104_3 t51_104 t52_104 t53_104 s_104_4 x_104

def gJ (againR : eN → (List (aS × Int)) → aS → Option ((List bM) × Bool × (List (aS × Int)))) (again0 : Int → (List (aS × Int)) → Option ((List bM) × Bool × (List (aS × Int)))) (s_4 : cP) (s_4_2 : Int) (s_4_3 : Option (List bM)) (job_4 : Int) (t51_4 : List cS) (t52_4 : Int) (t53_4 : Int) (x_4 : aS) (j_4 : cS) : Nat → Int → (List (aS × Int)) → Option ((List bM) × Bool × (List (aS × Int)))
  | 0, _, _ => none
  | k4 + 1, n_4, s_4_4 =>
    (bif decide (n_4 < s_4_2) then (some (decide (n_4 ≤ j_4.Due))) else (some false)).bind fun b8 =>
    bif b8 then (bif decide (x_4.day.number < n_4) then ((pZ s_4 n_4).bind fun r10 =>
    (idx s_4.Days n_4).bind fun x11 =>
    fP againR again0 (gJ againR again0 s_4 s_4_2 s_4_3 job_4 t51_4 t52_4 t53_4 x_4 j_4 k4) s_4 s_4_2 s_4_3 job_4 n_4 t51_4 t52_4 t53_4 x11 (x11.length : Int) x_4 j_4 r10 BIG 0 s_4_4)
    else ((idx s_4.Days n_4).bind fun x24 =>
    fP againR again0 (gJ againR again0 s_4 s_4_2 s_4_3 job_4 t51_4 t52_4 t53_4 x_4 j_4 k4) s_4 s_4_2 s_4_3 job_4 n_4 t51_4 t52_4 t53_4 x24 (x24.length : Int) x_4 j_4 x_4.day BIG 0 s_4_4))
    else (rL againR again0 s_4 s_4_2 s_4_3 t51_4 t52_4 t53_4 s_4_4 x_4)

def rK (againR : eN → (List (aS × Int)) → aS → Option ((List bM) × Bool × (List (aS × Int)))) (again0 : Int → (List (aS × Int)) → Option ((List bM) × Bool × (List (aS × Int)))) (s_102 : cP) (s_102_2 : Int) (s_102_3 : Option (List bM)) (job_102 : Int) (t51_102 : List cS) (t52_102 : Int) (t53_102 : Int) (s_102_4 : List (aS × Int)) (x_102 : aS) (j_102 : cS) : Option ((List bM) × Bool × (List (aS × Int))) :=
    gJ againR again0 s_102 s_102_2 s_102_3 job_102 t51_102 t52_102 t53_102 x_102 j_102 BIG x_102.day.number s_102_4

def lT (againR : eN → (List (aS × Int)) → aS → Option ((List bM) × Bool × (List (aS × Int)))) (again0 : Int → (List (aS × Int)) → Option ((List bM) × Bool × (List (aS × Int)))) (s_2 : cP) (s_2_2 : Int) (s_2_3 : Option (List bM)) (job_2 : Int) (t51_2 : List cS) (t52_2 : Int) (t53_2 : Int) (t62_2 : List Int) (t63_2 : Int) (s_2_4 : List (aS × Int)) (x_2 : aS) (j_2 : cS) : Nat → Int → Option ((List bM) × Bool × (List (aS × Int)))
  | 0, _ => none
  | k2 + 1, t64_2 =>
    bif decide (t64_2 < t63_2) then ((idx t62_2 t64_2).bind fun x6 =>
    (oW x_2 x6).bind fun r7 =>
    bif !r7 then (iL againR again0 s_2 s_2_2 s_2_3 t51_2 t52_2 t53_2 s_2_4 x_2)
    else ((lT againR again0 s_2 s_2_2 s_2_3 job_2 t51_2 t52_2 t53_2 t62_2 t63_2 s_2_4 x_2 j_2 k2) (w64 (t64_2 + 1))))
    else (rK againR again0 s_2 s_2_2 s_2_3 job_2 t51_2 t52_2 t53_2 s_2_4 x_2 j_2)

def rJ (againR : eN → (List (aS × Int)) → aS → Option ((List bM) × Bool × (List (aS × Int)))) (s_100 : List (aS × Int)) : Option ((List bM) × Bool × (List (aS × Int))) :=
    some (([] : List bM), false, s_100)

def eJ (againR : eN → (List (aS × Int)) → aS → Option ((List bM) × Bool × (List (aS × Int)))) (s_0 : cP) (s_0_2 : Int) (s_0_3 : Option (List bM)) (t51_0 : List cS) (t52_0 : Int) (x_0 : aS) : Nat → Int → (List (aS × Int)) → Option ((List bM) × Bool × (List (aS × Int)))
  | 0, _, _ => none
  | k0 + 1, t53_0, s_0_4 =>
    bif decide (t53_0 < t52_0) then ((idx t51_0 t53_0).bind fun x3 =>
    (oW x_0 t53_0).bind fun r5 =>
    bif r5 then (iL againR (eJ againR s_0 s_0_2 s_0_3 t51_0 t52_0 x_0 k0) s_0 s_0_2 s_0_3 t51_0 t52_0 t53_0 s_0_4 x_0)
    else (lT againR (eJ againR s_0 s_0_2 s_0_3 t51_0 t52_0 x_0 k0) s_0 s_0_2 s_0_3 t53_0 t51_0 t52_0 t53_0 x3.After (x3.After.length : Int) s_0_4 x_0 x3 BIG 0))
    else (rJ againR s_0_4)

def dJ : Nat → eN → (List (aS × Int)) → aS → Option ((List bM) × Bool × (List (aS × Int)))
  | 0, _, _, _ => none
  | kr + 1, s_0, s_0_seen, x_1 =>
    (chk (decide (0 ≤ (s_0.Program.Jobs.length : Int)))).bind fun u2 =>
    bif decide (x_1.done = (w64 ((w64 (1 * 2 ^ (min (s_0.Program.Jobs.length : Int).toNat 64))) - 1))) then (some (([] : List bM), true, s_0_seen))
    else (bif decide (1 < (cZ x_1 0 (eP x_1 (w64 ((cZ x_1 0 s_0_seen) + 1)) s_0_seen))) then (some (([] : List bM), false, (eP x_1 (w64 ((cZ x_1 0 s_0_seen) + 1)) s_0_seen)))
    else (eJ (dJ kr) s_0.Program s_0.days s_0.old s_0.Program.Jobs (s_0.Program.Jobs.length : Int) x_1 BIG 0 (eP x_1 (w64 ((cZ x_1 0 s_0_seen) + 1)) s_0_seen)))

def uN : eN → (List (aS × Int)) → aS → Option ((List bM) × Bool × (List (aS × Int))) := dJ BIG

def xM (p_0 : cP) (days_1 : Int) (old_2 : Option (List bM)) (moves_3 : Int) : Option ((List bM) × Bool) :=
    bif decide (days_1 = 0) then (some (([] : List bM), decide ((p_0.Jobs.length : Int) = 0)))
    else ((pZ p_0 0).bind fun r4 =>
    (uN (eN.mk p_0 days_1 old_2) ([] : List (aS × Int)) (aS.mk r4 0 moves_3)).bind fun r5 =>
    some (r5.1, r5.2.1))

def zV : Option (Int × (List bM) × Bool) :=
    some (0, ([] : List bM), false)

def qO (t11_0 : Int) (p_0 : cP) : Nat → Int → Option (Int × (List bM) × Bool)
  | 0, _ => none
  | k0 + 1, t12_0 =>
    bif decide (t12_0 < t11_0) then ((xM p_0 t12_0 none 0).bind fun r2 =>
    bif r2.2 then (some (t12_0, r2.1, true))
    else ((qO t11_0 p_0 k0) (w64 (t12_0 + 1))))
    else (zV)

def zU (p_0 : cP) : Option (Int × (List bM) × Bool) :=
    qO (w64 ((p_0.Days.length : Int) + 1)) p_0 BIG 0

def zR (p_0 : cP) : Option (Int × Int) :=
    (qK p_0).bind fun r2 =>
    bif !decide (r2 = 0) then (some (0, r2))
    else ((zU p_0).bind fun r3 =>
    bif !r3.2.2 then (some (0, 3))
    else (some (r3.1, 0)))

def tB (s_0 : bJ) : Option Int :=
    some s_0.Low

def xZ (begins_100 : List bJ) (ends_100 : List bJ) : Option ((List bJ) × (List bJ) × Int) :=
    some (begins_100, ends_100, 0)

def pL (a_0 : List Int) (b_0 : List Int) (c_0 : List Int) (d_0 : List Int) (t36_0 : Int) : Nat → Int → (List bJ) → (List bJ) → Option ((List bJ) × (List bJ) × Int)
  | 0, _, _, _ => none
  | k0 + 1, t37_0, begins_0, ends_0 =>
    bif decide (t37_0 < t36_0) then ((idx a_0 t37_0).bind fun x14 =>
    (idx c_0 t37_0).bind fun x15 =>
    (app 16 begins_0 ([(bJ.mk x14 x15)])).bind fun x16 =>
    (idx b_0 t37_0).bind fun x18 =>
    (idx d_0 t37_0).bind fun x19 =>
    (app 16 ends_0 ([(bJ.mk x18 x19)])).bind fun x20 =>
    (pL a_0 b_0 c_0 d_0 t36_0 k0) (w64 (t37_0 + 1)) x16 x20)
    else (xZ begins_0 ends_0)

def xL (p_0 : cP) (order_1 : List bM) : Option ((List bJ) × (List bJ) × Int) :=
    (qK p_0).bind fun r4 =>
    bif !decide (r4 = 0) then (some (([] : List bJ), ([] : List bJ), r4))
    else ((qP p_0 order_1).bind fun r7 =>
    bif !r7 then (some (([] : List bJ), ([] : List bJ), 81))
    else ((qT p_0 order_1 (fun y10 => tB y10)).bind fun r11 =>
    (qT p_0 order_1 (fun y12 => qQ y12)).bind fun r13 =>
    pL r11.1 r11.2 r13.1 r13.2 (p_0.Jobs.length : Int) BIG 0 ([] : List bJ) ([] : List bJ)))

def iP : Option Bool :=
    (oK).bind fun r1 =>
    (zS r1.1 r1.2).bind fun r3 =>
    (zR r1.1).bind fun r4 =>
    (xL r1.1 r1.2).bind fun r5 =>
    (bif decide (r3.2.2 = 0) then (some (decide (r4.2 = 0))) else (some false)).bind fun b6 =>
    (bif b6 then (some (decide (r5.2.2 = 0))) else (some false)).bind fun b7 =>
    (bif b7 then (some r3.1) else (some false)).bind fun b8 =>
    (bif b8 then (some (decide (r3.2.1 = (-1)))) else (some false)).bind fun b9 =>
    (bif b9 then (some (decide (r4.1 = 1))) else (some false)).bind fun b10 =>
    (bif b10 then (some (decide ((r5.1.length : Int) = 3))) else (some false)).bind fun b11 =>
    (bif b11 then ((idx r5.1 2).bind fun x12 =>
    some (decide (x12 = (bJ.mk 690 750)))) else (some false)).bind fun b13 =>
    some b13

def jP : Option Int :=
    some (-1)

def eH (s_0 : List cX) (f_0 : cX → Option Bool) (t7_0 : Int) : Nat → Int → Option Int
  | 0, _ => none
  | k0 + 1, t8_0 =>
    bif decide (t8_0 < t7_0) then ((idx s_0 t8_0).bind fun x1 =>
    (f_0 x1).bind fun r2 =>
    bif r2 then (some t8_0)
    else ((eH s_0 f_0 t7_0 k0) (w64 (t8_0 + 1))))
    else (jP)

def gD (s_0 : List cX) (f_1 : cX → Option Bool) : Option Int :=
    eH s_0 f_1 (s_0.length : Int) BIG 0

def fN (s_0 : List cX) (f_1 : cX → Option Bool) : Option Bool :=
    (gD s_0 f_1).bind fun r1 =>
    some (decide (0 ≤ r1))

def pC (s_0 : cX) : Option Bool :=
    (nB s_0.Length s_0.Due).bind fun r2 =>
    some (!r2)

def mB (a0 : aV) (a1 : List aJ) : Option ((List bN) × Int) := jY a0 a1

def jX (a0 : aV) (a1 : List aJ) (a2 : Int) (a3 : Int) : Option (Int × Int) := fQ a0 a1 a2 a3

def nA (again0 : Int → (List cS) → (List bN) → Option ((List cS) × (List bN) × Int)) (l_101 : List aJ) (stages_101 : List cX) (t38_101 : List bN) (t39_101 : Int) (t40_101 : Int) (t_101 : aV) (jobs_101 : List cS) (bouts_101 : List bN) : Option ((List cS) × (List bN) × Int) :=
    again0 (w64 (t40_101 + 1)) jobs_101 bouts_101

def qM (again0 : Int → (List cS) → (List bN) → Option ((List cS) × (List bN) × Int)) (l_102 : List aJ) (stages_102 : List cX) (t38_102 : List bN) (t39_102 : Int) (t40_102 : Int) (t_102 : aV) (jobs_102 : List cS) (bouts_102 : List bN) (b_102 : bN) (j_102 : List Int) (j_102_2 : bJ) (j_102_3 : List Int) (j_102_4 : Int) (j_102_5 : Int) : Option ((List cS) × (List bN) × Int) :=
    (app 80 jobs_102 ([(cS.mk j_102_2 j_102 j_102_3 j_102_4 j_102_5)])).bind fun x19 =>
    (app 32 bouts_102 ([b_102])).bind fun x21 =>
    nA again0 l_102 stages_102 t38_102 t39_102 t40_102 t_102 x19 x21

def kJ (again0 : Int → (List cS) → (List bN) → Option ((List cS) × (List bN) × Int)) (l_2 : List aJ) (stages_2 : List cX) (t38_2 : List bN) (t39_2 : Int) (t40_2 : Int) (t70_2 : Int) (t_2 : aV) (jobs_2 : List cS) (bouts_2 : List bN) (b_2 : bN) : Nat → Int → (List Int) → bJ → (List Int) → Int → Int → Option ((List cS) × (List bN) × Int)
  | 0, _, _, _, _, _, _ => none
  | k2 + 1, t71_2, j_2, j_2_2, j_2_3, j_2_4, j_2_5 =>
    bif decide (t71_2 < t70_2) then ((idx bouts_2 t71_2).bind fun x14 =>
    (bif decide (x14.Round = (w64 (b_2.Round - 1))) then (some (decide ((w64 (x14.Place.tdiv 2)) = b_2.Place))) else (some false)).bind fun b16 =>
    bif b16 then ((app 8 j_2 ([t71_2])).bind fun x17 =>
    (kJ again0 l_2 stages_2 t38_2 t39_2 t40_2 t70_2 t_2 jobs_2 bouts_2 b_2 k2) (w64 (t71_2 + 1)) x17 j_2_2 j_2_3 j_2_4 j_2_5)
    else ((kJ again0 l_2 stages_2 t38_2 t39_2 t40_2 t70_2 t_2 jobs_2 bouts_2 b_2 k2) (w64 (t71_2 + 1)) j_2 j_2_2 j_2_3 j_2_4 j_2_5))
    else (qM again0 l_2 stages_2 t38_2 t39_2 t40_2 t_2 jobs_2 bouts_2 b_2 j_2 j_2_2 j_2_3 j_2_4 j_2_5)

def oT (jobs_100 : List cS) (bouts_100 : List bN) : Option ((List cS) × (List bN) × Int) :=
    bif decide (6 < (jobs_100.length : Int)) then (some (([] : List cS), ([] : List bN), 2))
    else (some (jobs_100, bouts_100, 0))

def gC (l_0 : List aJ) (stages_0 : List cX) (t38_0 : List bN) (t39_0 : Int) (t_0 : aV) : Nat → Int → (List cS) → (List bN) → Option ((List cS) × (List bN) × Int)
  | 0, _, _, _ => none
  | k0 + 1, t40_0, jobs_0, bouts_0 =>
    bif decide (t40_0 < t39_0) then ((idx t38_0 t40_0).bind fun x8 =>
    (jX t_0 l_0 x8.Round x8.Place).bind fun r10 =>
    bif decide (r10.2 = 0) then (nA (gC l_0 stages_0 t38_0 t39_0 t_0 k0) l_0 stages_0 t38_0 t39_0 t40_0 t_0 jobs_0 bouts_0)
    else ((idx stages_0 x8.Round).bind fun x11 =>
    (idx stages_0 x8.Round).bind fun x12 =>
    kJ (gC l_0 stages_0 t38_0 t39_0 t_0 k0) l_0 stages_0 t38_0 t39_0 t40_0 (bouts_0.length : Int) t_0 jobs_0 bouts_0 x8 BIG 0 ([] : List Int) x11.Length ([] : List Int) x12.Due 0))
    else (oT jobs_0 bouts_0)

def kX (t_0 : aV) (l_1 : List aJ) (stages_2 : List cX) : Option ((List cS) × (List bN) × Int) :=
    (mB t_0 l_1).bind fun r2 =>
    bif !decide (r2.2 = 0) then (some (([] : List cS), ([] : List bN), r2.2))
    else ((bif !decide ((stages_2.length : Int) = t_0.Rounds) then (some true) else ((fN stages_2 (fun y3 => pC y3)).bind fun r4 =>
    some r4)).bind fun b5 =>
    bif b5 then (some (([] : List cS), ([] : List bN), 82))
    else (gC l_1 stages_2 r2.1 (r2.1.length : Int) t_0 BIG 0 ([] : List cS) ([] : List bN)))

def oC (a0 : aV) (a1 : List aJ) : Option Int := gA a0 a1

def mK (again0 : Int → Option Bool) (l_101 : List aJ) (stages_101 : List cX) (jobs_101 : List cS) (bouts_101 : List bN) (i_101 : Int) (t_101 : aV) : Option Bool :=
    again0 (w64 (i_101 + 1))

def iM (again0 : Int → Option Bool) (l_102 : List aJ) (stages_102 : List cX) (jobs_102 : List cS) (bouts_102 : List bN) (i_102 : Int) (t_102 : aV) : Option Bool :=
    mK again0 l_102 stages_102 jobs_102 bouts_102 i_102 t_102

def eW (again0 : Int → Option Bool) (l_2 : List aJ) (stages_2 : List cX) (jobs_2 : List cS) (bouts_2 : List bN) (i_2 : Int) (t_2 : aV) (b_2 : bN) : Nat → Int → Option Bool
  | 0, _ => none
  | k2 + 1, k_2 =>
    (idx jobs_2 i_2).bind fun x30 =>
    bif decide (k_2 < (x30.After.length : Int)) then ((idx jobs_2 i_2).bind fun x31 =>
    (idx x31.After k_2).bind fun x32 =>
    (bif decide (x32 < 0) then (some true) else (some (decide (i_2 ≤ x32)))).bind fun b33 =>
    (bif b33 then (some true) else ((idx bouts_2 x32).bind fun x34 =>
    some (!decide (x34.Round = (w64 (b_2.Round - 1)))))).bind fun b35 =>
    (bif b35 then (some true) else ((idx bouts_2 x32).bind fun x36 =>
    some (!decide ((w64 (x36.Place.tdiv 2)) = b_2.Place)))).bind fun b37 =>
    bif b37 then (some false)
    else ((eW again0 l_2 stages_2 jobs_2 bouts_2 i_2 t_2 b_2 k2) (w64 (k_2 + 1))))
    else (iM again0 l_2 stages_2 jobs_2 bouts_2 i_2 t_2)

def mL : Option Bool :=
    (iP).bind fun r41 =>
    some r41

def fL (l_4 : List aJ) (stages_4 : List cX) (jobs_4 : List cS) (t_4 : aV) : Nat → Int → Option Bool
  | 0, _ => none
  | k4 + 1, k_4 =>
    bif decide (k_4 < (l_4.length : Int)) then ((sub l_4 0 k_4).bind fun x38 =>
    (kX t_4 x38 stages_4).bind fun r39 =>
    (bif decide (r39.2.2 = 0) then (some (decide ((r39.1.length : Int) < (jobs_4.length : Int)))) else (some false)).bind fun b40 =>
    bif b40 then (some false)
    else ((fL l_4 stages_4 jobs_4 t_4 k4) (w64 (k_4 + 1))))
    else (mL)

def gF (l_100 : List aJ) (stages_100 : List cX) (jobs_100 : List cS) (t_100 : aV) : Option Bool :=
    fL l_100 stages_100 jobs_100 t_100 BIG 0

def dS (l_0 : List aJ) (stages_0 : List cX) (jobs_0 : List cS) (bouts_0 : List bN) (t_0 : aV) : Nat → Int → Option Bool
  | 0, _ => none
  | k0 + 1, i_0 =>
    bif decide (i_0 < (jobs_0.length : Int)) then ((idx bouts_0 i_0).bind fun x13 =>
    (jX t_0 l_0 x13.Round x13.Place).bind fun r15 =>
    (bif !decide (r15.2 = 3) then (some true) else (some (decide (x13.Round < 0)))).bind fun b16 =>
    (bif b16 then (some true) else (some (decide (t_0.Rounds ≤ x13.Round)))).bind fun b17 =>
    (bif b17 then (some true) else ((idx jobs_0 i_0).bind fun x18 =>
    (idx stages_0 x13.Round).bind fun x19 =>
    some (!decide (x18.Length = x19.Length)))).bind fun b20 =>
    (bif b20 then (some true) else ((idx jobs_0 i_0).bind fun x21 =>
    (idx stages_0 x13.Round).bind fun x22 =>
    some (!decide (x21.Due = x22.Due)))).bind fun b23 =>
    (bif b23 then (some true) else ((idx jobs_0 i_0).bind fun x24 =>
    some (!decide (x24.Earliest = 0)))).bind fun b25 =>
    (bif b25 then (some true) else ((idx jobs_0 i_0).bind fun x26 =>
    some (decide (0 < (x26.With.length : Int))))).bind fun b27 =>
    (bif b27 then (some true) else ((idx jobs_0 i_0).bind fun x28 =>
    some (decide (2 < (x28.After.length : Int))))).bind fun b29 =>
    bif b29 then (some false)
    else (eW (dS l_0 stages_0 jobs_0 bouts_0 t_0 k0) l_0 stages_0 jobs_0 bouts_0 i_0 t_0 x13 BIG 0))
    else (gF l_0 stages_0 jobs_0 t_0)

def lR (t_0 : aV) (l_1 : List aJ) (stages_2 : List cX) : Option Bool :=
    (bif decide (40 < (t_0.Slots.length : Int)) then (some true) else (some (decide (20 < (l_1.length : Int))))).bind fun b2 =>
    (bif b2 then (some true) else (some (decide (20 < (stages_2.length : Int))))).bind fun b3 =>
    bif b3 then ((iP).bind fun r4 =>
    some r4)
    else ((kX t_0 l_1 stages_2).bind fun r5 =>
    bif !decide (r5.2.2 = 0) then ((bif decide ((r5.1.length : Int) = 0) then (some (decide ((r5.2.1.length : Int) = 0))) else (some false)).bind fun b6 =>
    (bif b6 then ((iP).bind fun r7 =>
    some r7) else (some false)).bind fun b8 =>
    some b8)
    else ((bif !decide ((r5.1.length : Int) = (r5.2.1.length : Int)) then (some true) else (some (decide (6 < (r5.1.length : Int))))).bind fun b9 =>
    (bif b9 then (some true) else (some (!decide ((stages_2.length : Int) = t_0.Rounds)))).bind fun b10 =>
    (bif b10 then (some true) else ((oC t_0 l_1).bind fun r11 =>
    some (!decide (r11 = 0)))).bind fun b12 =>
    bif b12 then (some false)
    else (dS l_1 stages_2 r5.1 r5.2.1 t_0 BIG 0)))

end Go.Am
