/- Shallow functions, printed by program. -/
import Derived.Test.YtikcmpflkibomaaBrSh
namespace Go.Am

structure bO where
  Low : Int
  High : Int
  deriving DecidableEq, Inhabited
def bF (x : bO) : List D := [.lit (.int .i64 x.Low), .lit (.int .i64 x.High)]

def bS (x : List bO) : List D := [.sl 2 (x.map bF)]

structure cI where
  Length : bO
  After : List Int
  With : List Int
  Due : Int
  Earliest : Int
  deriving DecidableEq, Inhabited
def aQ (x : cI) : List D := [.lit (.int .i64 x.Length.Low), .lit (.int .i64 x.Length.High), .sl 1 (x.After.map aP), .sl 1 (x.With.map aP), .lit (.int .i64 x.Due), .lit (.int .i64 x.Earliest)]

structure cX where
  Days : List (List bO)
  Rest : Int
  Jobs : List cI
  deriving DecidableEq, Inhabited
def bV (x : cX) : List D := [.sl 1 (x.Days.map bS), .lit (.int .i64 x.Rest), .sl 6 (x.Jobs.map aQ)]

structure bW where
  Job : Int
  Day : Int
  Court : Int
  deriving DecidableEq, Inhabited
def aV (x : bW) : List D := [.lit (.int .i64 x.Job), .lit (.int .i64 x.Day), .lit (.int .i64 x.Court)]

structure A3 (α : Type) where
  x0 : α
  x1 : α
  x2 : α
  deriving DecidableEq, Inhabited
def A3.at {α : Type} (a : A3 α) (p : Int) : α := if p = 0 then a.x0 else if p = 1 then a.x1 else a.x2
def A3.set {α : Type} (a : A3 α) (p : Int) (v : α) : A3 α := if p = 0 then { a with x0 := v } else if p = 1 then { a with x1 := v } else { a with x2 := v }
theorem A3.cellI {a : A3 Int} {p : Int} {u : Unit} (h : inb 3 p = some u) {ds : List D} {j : Nat} (h0 : ds[j + 0]? = some (.lit (.int .i64 a.x0))) (h1 : ds[j + 1]? = some (.lit (.int .i64 a.x1))) (h2 : ds[j + 2]? = some (.lit (.int .i64 a.x2))) : ds[j + p.toNat * 1]? = some (.lit (.int .i64 (a.at p))) := by
  obtain ⟨a1, a2⟩ := jK h
  have : p = 0 ∨ p = 1 ∨ p = 2 := by omega
  rcases this with rfl | rfl | rfl
  · exact h0
  · exact h1
  · exact h2
theorem A3.celzI {a : A3 Int} {p : Int} {u : Unit} (h : inb 3 p = some u) {ds : List D} (h0 : ds[0]? = some (.lit (.int .i64 a.x0))) (h1 : ds[1]? = some (.lit (.int .i64 a.x1))) (h2 : ds[2]? = some (.lit (.int .i64 a.x2))) : ds[p.toNat * 1]? = some (.lit (.int .i64 (a.at p))) := by
  obtain ⟨a1, a2⟩ := jK h
  have : p = 0 ∨ p = 1 ∨ p = 2 := by omega
  rcases this with rfl | rfl | rfl
  · exact h0
  · exact h1
  · exact h2
theorem A3.updI {a : A3 Int} {p : Int} {v : Int} {u : Unit} (h : inb 3 p = some u) {ds : List D} {j : Nat} (f : A3 Int → List D) (h0 : iV ds (j + 0) [.lit (.int .i64 v)] = f { a with x0 := v }) (h1 : iV ds (j + 1) [.lit (.int .i64 v)] = f { a with x1 := v }) (h2 : iV ds (j + 2) [.lit (.int .i64 v)] = f { a with x2 := v }) : iV ds (j + p.toNat * 1) [.lit (.int .i64 v)] = f (a.set p v) := by
  obtain ⟨a1, a2⟩ := jK h
  have : p = 0 ∨ p = 1 ∨ p = 2 := by omega
  rcases this with rfl | rfl | rfl
  · exact h0
  · exact h1
  · exact h2
structure A6 (α : Type) where
  x0 : α
  x1 : α
  x2 : α
  x3 : α
  x4 : α
  x5 : α
  deriving DecidableEq, Inhabited
def A6.at {α : Type} (a : A6 α) (p : Int) : α := if p = 0 then a.x0 else if p = 1 then a.x1 else if p = 2 then a.x2 else if p = 3 then a.x3 else if p = 4 then a.x4 else a.x5
def A6.set {α : Type} (a : A6 α) (p : Int) (v : α) : A6 α := if p = 0 then { a with x0 := v } else if p = 1 then { a with x1 := v } else if p = 2 then { a with x2 := v } else if p = 3 then { a with x3 := v } else if p = 4 then { a with x4 := v } else { a with x5 := v }
theorem A6.cellI {a : A6 Int} {p : Int} {u : Unit} (h : inb 6 p = some u) {ds : List D} {j : Nat} (h0 : ds[j + 0]? = some (.lit (.int .i64 a.x0))) (h1 : ds[j + 1]? = some (.lit (.int .i64 a.x1))) (h2 : ds[j + 2]? = some (.lit (.int .i64 a.x2))) (h3 : ds[j + 3]? = some (.lit (.int .i64 a.x3))) (h4 : ds[j + 4]? = some (.lit (.int .i64 a.x4))) (h5 : ds[j + 5]? = some (.lit (.int .i64 a.x5))) : ds[j + p.toNat * 1]? = some (.lit (.int .i64 (a.at p))) := by
  obtain ⟨a1, a2⟩ := jK h
  have : p = 0 ∨ p = 1 ∨ p = 2 ∨ p = 3 ∨ p = 4 ∨ p = 5 := by omega
  rcases this with rfl | rfl | rfl | rfl | rfl | rfl
  · exact h0
  · exact h1
  · exact h2
  · exact h3
  · exact h4
  · exact h5
theorem A6.celzI {a : A6 Int} {p : Int} {u : Unit} (h : inb 6 p = some u) {ds : List D} (h0 : ds[0]? = some (.lit (.int .i64 a.x0))) (h1 : ds[1]? = some (.lit (.int .i64 a.x1))) (h2 : ds[2]? = some (.lit (.int .i64 a.x2))) (h3 : ds[3]? = some (.lit (.int .i64 a.x3))) (h4 : ds[4]? = some (.lit (.int .i64 a.x4))) (h5 : ds[5]? = some (.lit (.int .i64 a.x5))) : ds[p.toNat * 1]? = some (.lit (.int .i64 (a.at p))) := by
  obtain ⟨a1, a2⟩ := jK h
  have : p = 0 ∨ p = 1 ∨ p = 2 ∨ p = 3 ∨ p = 4 ∨ p = 5 := by omega
  rcases this with rfl | rfl | rfl | rfl | rfl | rfl
  · exact h0
  · exact h1
  · exact h2
  · exact h3
  · exact h4
  · exact h5
theorem A6.updI {a : A6 Int} {p : Int} {v : Int} {u : Unit} (h : inb 6 p = some u) {ds : List D} {j : Nat} (f : A6 Int → List D) (h0 : iV ds (j + 0) [.lit (.int .i64 v)] = f { a with x0 := v }) (h1 : iV ds (j + 1) [.lit (.int .i64 v)] = f { a with x1 := v }) (h2 : iV ds (j + 2) [.lit (.int .i64 v)] = f { a with x2 := v }) (h3 : iV ds (j + 3) [.lit (.int .i64 v)] = f { a with x3 := v }) (h4 : iV ds (j + 4) [.lit (.int .i64 v)] = f { a with x4 := v }) (h5 : iV ds (j + 5) [.lit (.int .i64 v)] = f { a with x5 := v }) : iV ds (j + p.toNat * 1) [.lit (.int .i64 v)] = f (a.set p v) := by
  obtain ⟨a1, a2⟩ := jK h
  have : p = 0 ∨ p = 1 ∨ p = 2 ∨ p = 3 ∨ p = 4 ∨ p = 5 := by omega
  rcases this with rfl | rfl | rfl | rfl | rfl | rfl
  · exact h0
  · exact h1
  · exact h2
  · exact h3
  · exact h4
  · exact h5
def aOk (x : A6 Int) : List D := [.lit (.int .i64 x.x0), .lit (.int .i64 x.x1), .lit (.int .i64 x.x2), .lit (.int .i64 x.x3), .lit (.int .i64 x.x4), .lit (.int .i64 x.x5)]

structure dP where
  number : Int
  free : A3 Int
  ends : A6 Int
  deriving DecidableEq, Inhabited
def cR (x : dP) : List D := [.lit (.int .i64 x.number), .lit (.int .i64 x.free.x0), .lit (.int .i64 x.free.x1), .lit (.int .i64 x.free.x2), .lit (.int .i64 x.ends.x0), .lit (.int .i64 x.ends.x1), .lit (.int .i64 x.ends.x2), .lit (.int .i64 x.ends.x3), .lit (.int .i64 x.ends.x4), .lit (.int .i64 x.ends.x5)]

structure aW where
  day : dP
  done : Int
  moves : Int
  deriving DecidableEq, Inhabited
def bQ (x : aW) : List D := [.lit (.int .i64 x.day.number), .lit (.int .i64 x.day.free.x0), .lit (.int .i64 x.day.free.x1), .lit (.int .i64 x.day.free.x2), .lit (.int .i64 x.day.ends.x0), .lit (.int .i64 x.day.ends.x1), .lit (.int .i64 x.day.ends.x2), .lit (.int .i64 x.day.ends.x3), .lit (.int .i64 x.day.ends.x4), .lit (.int .i64 x.day.ends.x5), .lit (.int .i64 x.done), .lit (.int .i64 x.moves)]

structure fD where
  Program : cX
  days : Int
  old : Option (List bW)
  deriving DecidableEq, Inhabited

structure cZ where
  Length : bO
  Due : Int
  deriving DecidableEq, Inhabited
def cY (x : cZ) : List D := [.lit (.int .i64 x.Length.Low), .lit (.int .i64 x.Length.High), .lit (.int .i64 x.Due)]

def aFa (x : List cZ) : List D := [.sl 3 (x.map cY)]

def aGc (x : bO) : Prop := okI x.Low ∧ okI x.High

def yV (x : cZ) : Prop := aGc x.Length ∧ okI x.Due

def pW : Option (cX × (List bW)) :=
    some ((cX.mk ([[(bO.mk 600 900), (bO.mk 600 780)], [(bO.mk 600 800), (bO.mk 600 600)]]) 30 ([(cI.mk (bO.mk 60 120) ([] : List Int) ([] : List Int) 1 0), (cI.mk (bO.mk 60 100) ([] : List Int) ([] : List Int) 1 0), (cI.mk (bO.mk 90 150) ([0, 1]) ([] : List Int) 1 0)])), [(bW.mk 0 0 0), (bW.mk 1 0 1), (bW.mk 2 0 0)])

def gE (n_0 : Int) (low_1 : Int) (high_2 : Int) : Option Bool :=
    (bif decide (low_1 ≤ n_0) then (some (decide (n_0 ≤ high_2))) else (some false)).bind fun b1 =>
    some b1

def oK : Option Int :=
    some (-1)

def jG (s_0 : List bO) (f_0 : bO → Option Bool) (t7_0 : Int) : Nat → Int → Option Int
  | 0, _ => none
  | k0 + 1, t8_0 =>
    bif decide (t8_0 < t7_0) then ((idx s_0 t8_0).bind fun x1 =>
    (f_0 x1).bind fun r2 =>
    bif r2 then (some t8_0)
    else ((jG s_0 f_0 t7_0 k0) (w64 (t8_0 + 1))))
    else (oK)

def mF (s_0 : List bO) (f_1 : bO → Option Bool) : Option Int :=
    jG s_0 f_1 (s_0.length : Int) BIG 0

def lE (s_0 : List bO) (f_1 : bO → Option Bool) : Option Bool :=
    (mF s_0 f_1).bind fun r1 =>
    some (decide (0 ≤ r1))

def qW (s_0 : bO) (low_1 : Int) (high_2 : Int) : Option Bool :=
    (bif decide (s_0.Low ≤ s_0.High) then ((gE s_0.Low low_1 high_2).bind fun r2 =>
    some r2) else (some false)).bind fun b3 =>
    (bif b3 then ((gE s_0.High low_1 high_2).bind fun r4 =>
    some r4) else (some false)).bind fun b5 =>
    some b5

def vO (s_0 : bO) : Option Bool :=
    (qW s_0 0 1440).bind fun r2 =>
    some (!r2)

def oJ (length_0 : bO) (due_1 : Int) : Option Bool :=
    (qW length_0 1 600).bind fun r2 =>
    (bif r2 then ((gE due_1 0 2).bind fun r3 =>
    some r3) else (some false)).bind fun b4 =>
    some b4

def wN : Option Bool :=
    some true

def pQ (l_0 : List Int) (bound_0 : Int) (t7_0 : List Int) (t8_0 : Int) : Nat → Int → Option Bool
  | 0, _ => none
  | k0 + 1, t9_0 =>
    bif decide (t9_0 < t8_0) then ((idx t7_0 t9_0).bind fun x1 =>
    (gE x1 0 (w64 (bound_0 - 1))).bind fun r2 =>
    (bif !r2 then (some true) else ((bif decide (0 < t9_0) then ((idx l_0 (w64 (t9_0 - 1))).bind fun x3 =>
    some (decide (x1 ≤ x3))) else (some false)).bind fun b4 =>
    some b4)).bind fun b5 =>
    bif b5 then (some false)
    else ((pQ l_0 bound_0 t7_0 t8_0 k0) (w64 (t9_0 + 1))))
    else (wN)

def sE (l_0 : List Int) (bound_1 : Int) : Option Bool :=
    pQ l_0 bound_1 l_0 (l_0.length : Int) BIG 0

def zJ : Option Int :=
    some 0

def rE (t49_2 : List cI) (t50_2 : Int) (p_2 : cX) : Nat → Int → Option Int
  | 0, _ => none
  | k2 + 1, t51_2 =>
    bif decide (t51_2 < t50_2) then ((idx t49_2 t51_2).bind fun x12 =>
    (oJ x12.Length x12.Due).bind fun r14 =>
    (bif !r14 then (some true) else ((gE x12.Earliest 0 1440).bind fun r15 =>
    some (!r15))).bind fun b16 =>
    (bif b16 then (some true) else ((sE x12.After t51_2).bind fun r17 =>
    some (!r17))).bind fun b18 =>
    (bif b18 then (some true) else ((sE x12.With (p_2.Jobs.length : Int)).bind fun r19 =>
    some (!r19))).bind fun b20 =>
    (bif b20 then (some true) else ((eN x12.With t51_2).bind fun r21 =>
    some r21)).bind fun b22 =>
    bif b22 then (some 80)
    else ((rE t49_2 t50_2 p_2 k2) (w64 (t51_2 + 1))))
    else (zJ)

def zI (p_100 : cX) : Option Int :=
    rE p_100.Jobs (p_100.Jobs.length : Int) p_100 BIG 0

def rD (t25_0 : List (List bO)) (t26_0 : Int) (p_0 : cX) : Nat → Int → Option Int
  | 0, _ => none
  | k0 + 1, t27_0 =>
    bif decide (t27_0 < t26_0) then ((idx t25_0 t27_0).bind fun x6 =>
    (gE (x6.length : Int) 1 3).bind fun r7 =>
    (bif !r7 then (some true) else ((idx p_0.Days 0).bind fun x8 =>
    some (!decide ((x6.length : Int) = (x8.length : Int))))).bind fun b9 =>
    bif b9 then (some 80)
    else ((lE x6 (fun y10 => vO y10)).bind fun r11 =>
    bif r11 then (some 80)
    else ((rD t25_0 t26_0 p_0 k0) (w64 (t27_0 + 1)))))
    else (zI p_0)

def sB (p_0 : cX) : Option Int :=
    (gE (p_0.Days.length : Int) 1 3).bind fun r2 =>
    (bif !r2 then (some true) else ((gE p_0.Rest 0 600).bind fun r3 =>
    some (!r3))).bind fun b4 =>
    (bif b4 then (some true) else (some (decide (6 < (p_0.Jobs.length : Int))))).bind fun b5 =>
    bif b5 then (some 80)
    else (rD p_0.Days (p_0.Days.length : Int) p_0 BIG 0)

def qQ : Option Int :=
    some (-1)

def kZ (s_0 : List Int) (f_0 : Int → Option Bool) (t7_0 : Int) : Nat → Int → Option Int
  | 0, _ => none
  | k0 + 1, t8_0 =>
    bif decide (t8_0 < t7_0) then ((idx s_0 t8_0).bind fun x1 =>
    (f_0 x1).bind fun r2 =>
    bif r2 then (some t8_0)
    else ((kZ s_0 f_0 t7_0 k0) (w64 (t8_0 + 1))))
    else (qQ)

def pB (s_0 : List Int) (f_1 : Int → Option Bool) : Option Int :=
    kZ s_0 f_1 (s_0.length : Int) BIG 0

def nC (s_0 : List Int) (f_1 : Int → Option Bool) : Option Bool :=
    (pB s_0 f_1).bind fun r1 =>
    some (decide (0 ≤ r1))

def tE (n_0 : Int) (c_1 : List Int) : Option Bool :=
    (eN c_1 n_0).bind fun r1 =>
    some (!r1)

def wO (p_100 : cX) (done_100 : List Int) : Option Bool :=
    some (decide ((done_100.length : Int) = (p_100.Jobs.length : Int)))

def pS (order_0 : List bW) (t10_0 : List bW) (t11_0 : Int) (p_0 : cX) : Nat → Int → (List Int) → Option Bool
  | 0, _, _ => none
  | k0 + 1, t12_0, done_0 =>
    bif decide (t12_0 < t11_0) then ((idx t10_0 t12_0).bind fun x3 =>
    (gE x3.Job 0 (w64 ((p_0.Jobs.length : Int) - 1))).bind fun r5 =>
    (bif !r5 then (some true) else ((eN done_0 x3.Job).bind fun r6 =>
    some r6)).bind fun b7 =>
    (bif b7 then (some true) else ((gE x3.Day 0 (w64 ((p_0.Days.length : Int) - 1))).bind fun r8 =>
    some (!r8))).bind fun b9 =>
    (bif b9 then (some true) else ((idx p_0.Days 0).bind fun x10 =>
    (gE x3.Court 0 (w64 ((x10.length : Int) - 1))).bind fun r11 =>
    some (!r11))).bind fun b12 =>
    bif b12 then (some false)
    else ((idx p_0.Jobs x3.Job).bind fun x13 =>
    (nC x13.After (fun y15 => tE y15 done_0)).bind fun r16 =>
    (bif decide (x13.Due < x3.Day) then (some true) else (some r16)).bind fun b17 =>
    (bif b17 then (some true) else ((bif decide (0 < t12_0) then ((idx order_0 (w64 (t12_0 - 1))).bind fun x18 =>
    some (decide (x3.Day < x18.Day))) else (some false)).bind fun b19 =>
    some b19)).bind fun b20 =>
    bif b20 then (some false)
    else ((app 8 done_0 ([x3.Job])).bind fun x21 =>
    (pS order_0 t10_0 t11_0 p_0 k0) (w64 (t12_0 + 1)) x21)))
    else (wO p_0 done_0)

def sG (p_0 : cX) (order_1 : List bW) : Option Bool :=
    pS order_1 order_1 (order_1.length : Int) p_0 BIG 0 ([] : List Int)

def aBh (o4_100 : dP) (d_100 : dP) : Option dP :=
    some d_100

def sI (t14_0 : List bO) (t15_0 : Int) (o4_0 : dP) : Nat → Int → dP → Option dP
  | 0, _, _ => none
  | k0 + 1, t16_0, d_0 =>
    bif decide (t16_0 < t15_0) then ((idx t14_0 t16_0).bind fun x5 =>
    (inb 3 t16_0).bind fun u7 =>
    (sI t14_0 t15_0 o4_0 k0) (w64 (t16_0 + 1)) (dP.mk d_0.number (d_0.free.set t16_0 x5.Low) d_0.ends))
    else (aBh o4_0 d_0)

def rR (p_0 : cX) (number_1 : Int) : Option dP :=
    (idx p_0.Days number_1).bind fun x4 =>
    sI x4 (x4.length : Int) (dP.mk 0 (A3.mk 0 0 0) (A6.mk 0 0 0 0 0 0)) BIG 0 (dP.mk number_1 (A3.mk 0 0 0) (A6.mk 0 0 0 0 0 0))

def sJ (x_0 : Int) (y_1 : Int) (c_2 : cX) : Option Bool :=
    (idx c_2.Jobs x_0).bind fun x1 =>
    (eN x1.After y_1).bind fun r3 =>
    (bif r3 then (some true) else ((eN x1.With y_1).bind fun r4 =>
    some r4)).bind fun b5 =>
    some b5

def yZ (p_0 : cX) (a_1 : Int) (b_2 : Int) : Option Bool :=
    (sJ a_1 b_2 p_0).bind fun r2 =>
    (bif r2 then (some true) else ((sJ b_2 a_1 p_0).bind fun r3 =>
    some r3)).bind fun b4 =>
    some b4

def vQ (length_100 : Int) (beginv_100 : Int) (d_100 : dP) (s_100 : bW) : Option (Int × Int × dP) :=
    (inb 3 s_100.Court).bind fun u8 =>
    (inb 6 s_100.Job).bind fun u9 =>
    some (beginv_100, w64 (beginv_100 + length_100), (dP.mk d_100.number (d_100.free.set s_100.Court (w64 (beginv_100 + length_100))) (d_100.ends.set s_100.Job (w64 (beginv_100 + length_100)))))

def mU (length_0 : Int) (t30_0 : A6 Int) (d_0 : dP) (p_0 : cX) (s_0 : bW) : Nat → Int → Int → Option (Int × Int × dP)
  | 0, _, _ => none
  | k0 + 1, beginv_0, t31_0 =>
    bif decide (t31_0 < 6) then ((inb 6 t31_0).bind fun u5 =>
    (bif decide (0 < (t30_0.at t31_0)) then ((yZ p_0 s_0.Job t31_0).bind fun r6 =>
    some r6) else (some false)).bind fun b7 =>
    bif b7 then ((mU length_0 t30_0 d_0 p_0 s_0 k0) (max beginv_0 (w64 ((t30_0.at t31_0) + p_0.Rest))) (w64 (t31_0 + 1)))
    else ((mU length_0 t30_0 d_0 p_0 s_0 k0) beginv_0 (w64 (t31_0 + 1))))
    else (vQ length_0 beginv_0 d_0 s_0)

def pF (d_0 : dP) (p_1 : cX) (s_2 : bW) (length_3 : Int) : Option (Int × Int × dP) :=
    (inb 3 s_2.Court).bind fun u3 =>
    (idx p_1.Jobs s_2.Job).bind fun x4 =>
    mU length_3 d_0.ends d_0 p_1 s_2 BIG (max (d_0.free.at s_2.Court) x4.Earliest) 0

def zN (o14_100 : List Int) (o18_100 : List Int) : Option ((List Int) × (List Int)) :=
    some (o14_100, o18_100)

def pG (length_0 : bO → Option Int) (t21_0 : List bW) (t22_0 : Int) (p_0 : cX) : Nat → Int → dP → (List Int) → (List Int) → Option ((List Int) × (List Int))
  | 0, _, _, _, _ => none
  | k0 + 1, t23_0, now_0, o14_0, o18_0 =>
    bif decide (t23_0 < t22_0) then ((idx t21_0 t23_0).bind fun x10 =>
    bif !decide (x10.Day = now_0.number) then ((rR p_0 x10.Day).bind fun r12 =>
    (idx p_0.Jobs x10.Job).bind fun x13 =>
    (length_0 x13.Length).bind fun r14 =>
    (pF r12 p_0 x10 r14).bind fun r15 =>
    (idx o14_0 x10.Job).bind fun x16 =>
    (idx o18_0 x10.Job).bind fun x17 =>
    (pG length_0 t21_0 t22_0 p_0 k0) (w64 (t23_0 + 1)) r15.2.2 (o14_0.set x10.Job.toNat r15.1) (o18_0.set x10.Job.toNat r15.2.1))
    else ((idx p_0.Jobs x10.Job).bind fun x18 =>
    (length_0 x18.Length).bind fun r19 =>
    (pF now_0 p_0 x10 r19).bind fun r20 =>
    (idx o14_0 x10.Job).bind fun x21 =>
    (idx o18_0 x10.Job).bind fun x22 =>
    (pG length_0 t21_0 t22_0 p_0 k0) (w64 (t23_0 + 1)) r20.2.2 (o14_0.set x10.Job.toNat r20.1) (o18_0.set x10.Job.toNat r20.2.1)))
    else (zN o14_0 o18_0)

def sK (p_0 : cX) (order_1 : List bW) (length_2 : bO → Option Int) : Option ((List Int) × (List Int)) :=
    (mk 8 (p_0.Jobs.length : Int) 0).bind fun x4 =>
    (mk 8 (p_0.Jobs.length : Int) 0).bind fun x6 =>
    (rR p_0 0).bind fun r8 =>
    pG length_2 order_1 (order_1.length : Int) p_0 BIG 0 r8 x4 x6

def sH (s_0 : bO) : Option Int :=
    some s_0.High

def aBe : Option (Bool × Int × Int) :=
    some (true, (-1), 0)

def sC (ends_0 : List Int) (t27_0 : List bW) (t28_0 : Int) (p_0 : cX) : Nat → Int → Option (Bool × Int × Int)
  | 0, _ => none
  | k0 + 1, t29_0 =>
    bif decide (t29_0 < t28_0) then ((idx t27_0 t29_0).bind fun x6 =>
    (idx ends_0 x6.Job).bind fun x8 =>
    (idx p_0.Days x6.Day).bind fun x9 =>
    (idx x9 x6.Court).bind fun x10 =>
    bif decide (x10.High < x8) then (some (false, x6.Job, 0))
    else ((sC ends_0 t27_0 t28_0 p_0 k0) (w64 (t29_0 + 1))))
    else (aBe)

def aBd (p_0 : cX) (order_1 : List bW) : Option (Bool × Int × Int) :=
    (sB p_0).bind fun r2 =>
    bif !decide (r2 = 0) then (some (false, 0, r2))
    else ((sG p_0 order_1).bind fun r3 =>
    bif !r3 then (some (false, 0, 81))
    else ((sK p_0 order_1 (fun y4 => sH y4)).bind fun r5 =>
    sC r5.2 order_1 (order_1.length : Int) p_0 BIG 0))

def qN (x_0 : aW) (job_1 : Int) : Option Bool :=
    (chk (decide (0 ≤ job_1))).bind fun u2 =>
    some (decide ((aPl (x_0.done.fdiv (2 ^ (min job_1.toNat 64))) 1) = 1))

def qJ : Option Int :=
    some (-1)

def kO (s_0 : List bW) (t7_0 : Int) (v_0 : bW) : Nat → Int → Option Int
  | 0, _ => none
  | k0 + 1, t8_0 =>
    bif decide (t8_0 < t7_0) then ((idx s_0 t8_0).bind fun x2 =>
    bif decide (v_0 = x2) then (some t8_0)
    else ((kO s_0 t7_0 v_0 k0) (w64 (t8_0 + 1))))
    else (qJ)

def oL (s_0 : List bW) (v_1 : bW) : Option Int :=
    kO s_0 (s_0.length : Int) v_1 BIG 0

def mW (s_0 : List bW) (v_1 : bW) : Option Bool :=
    (oL s_0 v_1).bind fun r2 =>
    some (decide (0 ≤ r2))

def rL (s_0 : fD) (x_1 : bW) : Option Int :=
    (bif s_0.old.isNone then (some true) else ((mW (s_0.old.getD []) x_1).bind fun r2 =>
    some r2)).bind fun b3 =>
    bif b3 then (some 0)
    else (some 1)

def jT (againR : fD → (List (aW × Int)) → aW → Option ((List bW) × Bool × (List (aW × Int)))) (again0 : Int → (List (aW × Int)) → Option ((List bW) × Bool × (List (aW × Int)))) (s_101 : cX) (s_101_2 : Int) (s_101_3 : Option (List bW)) (t51_101 : List cI) (t52_101 : Int) (t53_101 : Int) (s_101_4 : List (aW × Int)) (x_101 : aW) : Option ((List bW) × Bool × (List (aW × Int))) :=
    again0 (w64 (t53_101 + 1)) s_101_4

def pM (againR : fD → (List (aW × Int)) → aW → Option ((List bW) × Bool × (List (aW × Int)))) (again0 : Int → (List (aW × Int)) → Option ((List bW) × Bool × (List (aW × Int)))) (again4 : Int → (List (aW × Int)) → Option ((List bW) × Bool × (List (aW × Int)))) (s_105 : cX) (s_105_2 : Int) (s_105_3 : Option (List bW)) (job_105 : Int) (n_105 : Int) (t51_105 : List cI) (t52_105 : Int) (t53_105 : Int) (s_105_4 : List (aW × Int)) (x_105 : aW) (j_105 : cI) : Option ((List bW) × Bool × (List (aW × Int))) :=
    again4 (w64 (n_105 + 1)) s_105_4

def pN (againR : fD → (List (aW × Int)) → aW → Option ((List bW) × Bool × (List (aW × Int)))) (again0 : Int → (List (aW × Int)) → Option ((List bW) × Bool × (List (aW × Int)))) (again4 : Int → (List (aW × Int)) → Option ((List bW) × Bool × (List (aW × Int)))) (s_106 : cX) (s_106_2 : Int) (s_106_3 : Option (List bW)) (job_106 : Int) (n_106 : Int) (t51_106 : List cI) (t52_106 : Int) (t53_106 : Int) (s_106_4 : List (aW × Int)) (x_106 : aW) (j_106 : cI) : Option ((List bW) × Bool × (List (aW × Int))) :=
    pM againR again0 again4 s_106 s_106_2 s_106_3 job_106 n_106 t51_106 t52_106 t53_106 s_106_4 x_106 j_106

def gM (againR : fD → (List (aW × Int)) → aW → Option ((List bW) × Bool × (List (aW × Int)))) (again0 : Int → (List (aW × Int)) → Option ((List bW) × Bool × (List (aW × Int)))) (again4 : Int → (List (aW × Int)) → Option ((List bW) × Bool × (List (aW × Int)))) (s_6 : cX) (s_6_2 : Int) (s_6_3 : Option (List bW)) (job_6 : Int) (n_6 : Int) (t51_6 : List cI) (t52_6 : Int) (t53_6 : Int) (t110_6 : List bO) (t111_6 : Int) (x_6 : aW) (j_6 : cI) (now_6 : dP) : Nat → Int → (List (aW × Int)) → Option ((List bW) × Bool × (List (aW × Int)))
  | 0, _, _ => none
  | k6 + 1, t112_6, s_6_4 =>
    bif decide (t112_6 < t111_6) then ((idx t110_6 t112_6).bind fun x12 =>
    (chk (decide (0 ≤ job_6))).bind fun u15 =>
    (rL (fD.mk s_6 s_6_2 s_6_3) (bW.mk job_6 n_6 t112_6)).bind fun r16 =>
    (pF now_6 s_6 (bW.mk job_6 n_6 t112_6) j_6.Length.High).bind fun r18 =>
    (bif decide (x12.High < r18.2.1) then (some true) else (some (decide ((w64 (x_6.moves - r16)) < 0)))).bind fun b19 =>
    bif b19 then ((gM againR again0 again4 s_6 s_6_2 s_6_3 job_6 n_6 t51_6 t52_6 t53_6 t110_6 t111_6 x_6 j_6 now_6 k6) (w64 (t112_6 + 1)) s_6_4)
    else ((againR (fD.mk s_6 s_6_2 s_6_3) s_6_4 (aW.mk r18.2.2 (bOr x_6.done (w64 (1 * 2 ^ (min job_6.toNat 64)))) (w64 (x_6.moves - r16)))).bind fun r20 =>
    bif r20.2.1 then ((app 24 ([(bW.mk job_6 n_6 t112_6)]) r20.1).bind fun x23 =>
    some (x23, true, r20.2.2))
    else ((gM againR again0 again4 s_6 s_6_2 s_6_3 job_6 n_6 t51_6 t52_6 t53_6 t110_6 t111_6 x_6 j_6 now_6 k6) (w64 (t112_6 + 1)) r20.2.2)))
    else (pN againR again0 again4 s_6 s_6_2 s_6_3 job_6 n_6 t51_6 t52_6 t53_6 s_6_4 x_6 j_6)

def sX (againR : fD → (List (aW × Int)) → aW → Option ((List bW) × Bool × (List (aW × Int)))) (again0 : Int → (List (aW × Int)) → Option ((List bW) × Bool × (List (aW × Int)))) (s_104 : cX) (s_104_2 : Int) (s_104_3 : Option (List bW)) (t51_104 : List cI) (t52_104 : Int) (t53_104 : Int) (s_104_4 : List (aW × Int)) (x_104 : aW) : Option ((List bW) × Bool × (List (aW × Int))) :=
    jT againR again0 s_104 s_104_2 s_104_3 t51_104 t52_104 t53_104 s_104_4 x_104

def iN (againR : fD → (List (aW × Int)) → aW → Option ((List bW) × Bool × (List (aW × Int)))) (again0 : Int → (List (aW × Int)) → Option ((List bW) × Bool × (List (aW × Int)))) (s_4 : cX) (s_4_2 : Int) (s_4_3 : Option (List bW)) (job_4 : Int) (t51_4 : List cI) (t52_4 : Int) (t53_4 : Int) (x_4 : aW) (j_4 : cI) : Nat → Int → (List (aW × Int)) → Option ((List bW) × Bool × (List (aW × Int)))
  | 0, _, _ => none
  | k4 + 1, n_4, s_4_4 =>
    (bif decide (n_4 < s_4_2) then (some (decide (n_4 ≤ j_4.Due))) else (some false)).bind fun b8 =>
    bif b8 then (bif decide (x_4.day.number < n_4) then ((rR s_4 n_4).bind fun r10 =>
    (idx s_4.Days n_4).bind fun x11 =>
    gM againR again0 (iN againR again0 s_4 s_4_2 s_4_3 job_4 t51_4 t52_4 t53_4 x_4 j_4 k4) s_4 s_4_2 s_4_3 job_4 n_4 t51_4 t52_4 t53_4 x11 (x11.length : Int) x_4 j_4 r10 BIG 0 s_4_4)
    else ((idx s_4.Days n_4).bind fun x24 =>
    gM againR again0 (iN againR again0 s_4 s_4_2 s_4_3 job_4 t51_4 t52_4 t53_4 x_4 j_4 k4) s_4 s_4_2 s_4_3 job_4 n_4 t51_4 t52_4 t53_4 x24 (x24.length : Int) x_4 j_4 x_4.day BIG 0 s_4_4))
    else (sX againR again0 s_4 s_4_2 s_4_3 t51_4 t52_4 t53_4 s_4_4 x_4)

def sW (againR : fD → (List (aW × Int)) → aW → Option ((List bW) × Bool × (List (aW × Int)))) (again0 : Int → (List (aW × Int)) → Option ((List bW) × Bool × (List (aW × Int)))) (s_102 : cX) (s_102_2 : Int) (s_102_3 : Option (List bW)) (job_102 : Int) (t51_102 : List cI) (t52_102 : Int) (t53_102 : Int) (s_102_4 : List (aW × Int)) (x_102 : aW) (j_102 : cI) : Option ((List bW) × Bool × (List (aW × Int))) :=
    iN againR again0 s_102 s_102_2 s_102_3 job_102 t51_102 t52_102 t53_102 x_102 j_102 BIG x_102.day.number s_102_4

def mZ (againR : fD → (List (aW × Int)) → aW → Option ((List bW) × Bool × (List (aW × Int)))) (again0 : Int → (List (aW × Int)) → Option ((List bW) × Bool × (List (aW × Int)))) (s_2 : cX) (s_2_2 : Int) (s_2_3 : Option (List bW)) (job_2 : Int) (t51_2 : List cI) (t52_2 : Int) (t53_2 : Int) (t62_2 : List Int) (t63_2 : Int) (s_2_4 : List (aW × Int)) (x_2 : aW) (j_2 : cI) : Nat → Int → Option ((List bW) × Bool × (List (aW × Int)))
  | 0, _ => none
  | k2 + 1, t64_2 =>
    bif decide (t64_2 < t63_2) then ((idx t62_2 t64_2).bind fun x6 =>
    (qN x_2 x6).bind fun r7 =>
    bif !r7 then (jT againR again0 s_2 s_2_2 s_2_3 t51_2 t52_2 t53_2 s_2_4 x_2)
    else ((mZ againR again0 s_2 s_2_2 s_2_3 job_2 t51_2 t52_2 t53_2 t62_2 t63_2 s_2_4 x_2 j_2 k2) (w64 (t64_2 + 1))))
    else (sW againR again0 s_2 s_2_2 s_2_3 job_2 t51_2 t52_2 t53_2 s_2_4 x_2 j_2)

def sV (againR : fD → (List (aW × Int)) → aW → Option ((List bW) × Bool × (List (aW × Int)))) (s_100 : List (aW × Int)) : Option ((List bW) × Bool × (List (aW × Int))) :=
    some (([] : List bW), false, s_100)

def eV (againR : fD → (List (aW × Int)) → aW → Option ((List bW) × Bool × (List (aW × Int)))) (s_0 : cX) (s_0_2 : Int) (s_0_3 : Option (List bW)) (t51_0 : List cI) (t52_0 : Int) (x_0 : aW) : Nat → Int → (List (aW × Int)) → Option ((List bW) × Bool × (List (aW × Int)))
  | 0, _, _ => none
  | k0 + 1, t53_0, s_0_4 =>
    bif decide (t53_0 < t52_0) then ((idx t51_0 t53_0).bind fun x3 =>
    (qN x_0 t53_0).bind fun r5 =>
    bif r5 then (jT againR (eV againR s_0 s_0_2 s_0_3 t51_0 t52_0 x_0 k0) s_0 s_0_2 s_0_3 t51_0 t52_0 t53_0 s_0_4 x_0)
    else (mZ againR (eV againR s_0 s_0_2 s_0_3 t51_0 t52_0 x_0 k0) s_0 s_0_2 s_0_3 t53_0 t51_0 t52_0 t53_0 x3.After (x3.After.length : Int) s_0_4 x_0 x3 BIG 0))
    else (sV againR s_0_4)

def dR : Nat → fD → (List (aW × Int)) → aW → Option ((List bW) × Bool × (List (aW × Int)))
  | 0, _, _, _ => none
  | kr + 1, s_0, s_0_seen, x_1 =>
    (chk (decide (0 ≤ (s_0.Program.Jobs.length : Int)))).bind fun u2 =>
    bif decide (x_1.done = (w64 ((w64 (1 * 2 ^ (min (s_0.Program.Jobs.length : Int).toNat 64))) - 1))) then (some (([] : List bW), true, s_0_seen))
    else (bif decide (1 < (dK x_1 0 (fH x_1 (w64 ((dK x_1 0 s_0_seen) + 1)) s_0_seen))) then (some (([] : List bW), false, (fH x_1 (w64 ((dK x_1 0 s_0_seen) + 1)) s_0_seen)))
    else (eV (dR kr) s_0.Program s_0.days s_0.old s_0.Program.Jobs (s_0.Program.Jobs.length : Int) x_1 BIG 0 (fH x_1 (w64 ((dK x_1 0 s_0_seen) + 1)) s_0_seen)))

def vR : fD → (List (aW × Int)) → aW → Option ((List bW) × Bool × (List (aW × Int))) := dR BIG

def yY (p_0 : cX) (days_1 : Int) (old_2 : Option (List bW)) (moves_3 : Int) : Option ((List bW) × Bool) :=
    bif decide (days_1 = 0) then (some (([] : List bW), decide ((p_0.Jobs.length : Int) = 0)))
    else ((rR p_0 0).bind fun r4 =>
    (vR (fD.mk p_0 days_1 old_2) ([] : List (aW × Int)) (aW.mk r4 0 moves_3)).bind fun r5 =>
    some (r5.1, r5.2.1))

def aBg : Option (Int × (List bW) × Bool) :=
    some (0, ([] : List bW), false)

def sF (t11_0 : Int) (p_0 : cX) : Nat → Int → Option (Int × (List bW) × Bool)
  | 0, _ => none
  | k0 + 1, t12_0 =>
    bif decide (t12_0 < t11_0) then ((yY p_0 t12_0 none 0).bind fun r2 =>
    bif r2.2 then (some (t12_0, r2.1, true))
    else ((sF t11_0 p_0 k0) (w64 (t12_0 + 1))))
    else (aBg)

def aBf (p_0 : cX) : Option (Int × (List bW) × Bool) :=
    sF (w64 ((p_0.Days.length : Int) + 1)) p_0 BIG 0

def aBc (p_0 : cX) : Option (Int × Int) :=
    (sB p_0).bind fun r2 =>
    bif !decide (r2 = 0) then (some (0, r2))
    else ((aBf p_0).bind fun r3 =>
    bif !r3.2.2 then (some (0, 3))
    else (some (r3.1, 0)))

def uJ (s_0 : bO) : Option Int :=
    some s_0.Low

def zL (begins_100 : List bO) (ends_100 : List bO) : Option ((List bO) × (List bO) × Int) :=
    some (begins_100, ends_100, 0)

def rF (a_0 : List Int) (b_0 : List Int) (c_0 : List Int) (d_0 : List Int) (t36_0 : Int) : Nat → Int → (List bO) → (List bO) → Option ((List bO) × (List bO) × Int)
  | 0, _, _, _ => none
  | k0 + 1, t37_0, begins_0, ends_0 =>
    bif decide (t37_0 < t36_0) then ((idx a_0 t37_0).bind fun x14 =>
    (idx c_0 t37_0).bind fun x15 =>
    (app 16 begins_0 ([(bO.mk x14 x15)])).bind fun x16 =>
    (idx b_0 t37_0).bind fun x18 =>
    (idx d_0 t37_0).bind fun x19 =>
    (app 16 ends_0 ([(bO.mk x18 x19)])).bind fun x20 =>
    (rF a_0 b_0 c_0 d_0 t36_0 k0) (w64 (t37_0 + 1)) x16 x20)
    else (zL begins_0 ends_0)

def yX (p_0 : cX) (order_1 : List bW) : Option ((List bO) × (List bO) × Int) :=
    (sB p_0).bind fun r4 =>
    bif !decide (r4 = 0) then (some (([] : List bO), ([] : List bO), r4))
    else ((sG p_0 order_1).bind fun r7 =>
    bif !r7 then (some (([] : List bO), ([] : List bO), 81))
    else ((sK p_0 order_1 (fun y10 => uJ y10)).bind fun r11 =>
    (sK p_0 order_1 (fun y12 => sH y12)).bind fun r13 =>
    rF r11.1 r11.2 r13.1 r13.2 (p_0.Jobs.length : Int) BIG 0 ([] : List bO) ([] : List bO)))

def mM : Option Bool :=
    (pW).bind fun r1 =>
    (aBd r1.1 r1.2).bind fun r3 =>
    (aBc r1.1).bind fun r4 =>
    (yX r1.1 r1.2).bind fun r5 =>
    (bif decide (r3.2.2 = 0) then (some (decide (r4.2 = 0))) else (some false)).bind fun b6 =>
    (bif b6 then (some (decide (r5.2.2 = 0))) else (some false)).bind fun b7 =>
    (bif b7 then (some r3.1) else (some false)).bind fun b8 =>
    (bif b8 then (some (decide (r3.2.1 = (-1)))) else (some false)).bind fun b9 =>
    (bif b9 then (some (decide (r4.1 = 1))) else (some false)).bind fun b10 =>
    (bif b10 then (some (decide ((r5.1.length : Int) = 3))) else (some false)).bind fun b11 =>
    (bif b11 then ((idx r5.1 2).bind fun x12 =>
    some (decide (x12 = (bO.mk 690 750)))) else (some false)).bind fun b13 =>
    some b13

def kV : Option Int :=
    some (-1)

def eU (s_0 : List cZ) (f_0 : cZ → Option Bool) (t7_0 : Int) : Nat → Int → Option Int
  | 0, _ => none
  | k0 + 1, t8_0 =>
    bif decide (t8_0 < t7_0) then ((idx s_0 t8_0).bind fun x1 =>
    (f_0 x1).bind fun r2 =>
    bif r2 then (some t8_0)
    else ((eU s_0 f_0 t7_0 k0) (w64 (t8_0 + 1))))
    else (kV)

def iH (s_0 : List cZ) (f_1 : cZ → Option Bool) : Option Int :=
    eU s_0 f_1 (s_0.length : Int) BIG 0

def gG (s_0 : List cZ) (f_1 : cZ → Option Bool) : Option Bool :=
    (iH s_0 f_1).bind fun r1 =>
    some (decide (0 ≤ r1))

def qV (s_0 : cZ) : Option Bool :=
    (oJ s_0.Length s_0.Due).bind fun r2 =>
    some (!r2)

def nG (a0 : bD) (a1 : List aK) : Option ((List bK) × Int) := iC a0 a1

def oW (a0 : bD) (a1 : List aK) (a2 : Int) (a3 : Int) : Option (Int × Int) := eY a0 a1 a2 a3

def oI (again0 : Int → (List cI) → (List bK) → Option ((List cI) × (List bK) × Int)) (l_101 : List aK) (stages_101 : List cZ) (t38_101 : List bK) (t39_101 : Int) (t40_101 : Int) (t_101 : bD) (jobs_101 : List cI) (bouts_101 : List bK) : Option ((List cI) × (List bK) × Int) :=
    again0 (w64 (t40_101 + 1)) jobs_101 bouts_101

def sD (again0 : Int → (List cI) → (List bK) → Option ((List cI) × (List bK) × Int)) (l_102 : List aK) (stages_102 : List cZ) (t38_102 : List bK) (t39_102 : Int) (t40_102 : Int) (t_102 : bD) (jobs_102 : List cI) (bouts_102 : List bK) (b_102 : bK) (j_102 : List Int) (j_102_2 : bO) (j_102_3 : List Int) (j_102_4 : Int) (j_102_5 : Int) : Option ((List cI) × (List bK) × Int) :=
    (app 80 jobs_102 ([(cI.mk j_102_2 j_102 j_102_3 j_102_4 j_102_5)])).bind fun x19 =>
    (app 32 bouts_102 ([b_102])).bind fun x21 =>
    oI again0 l_102 stages_102 t38_102 t39_102 t40_102 t_102 x19 x21

def lQ (again0 : Int → (List cI) → (List bK) → Option ((List cI) × (List bK) × Int)) (l_2 : List aK) (stages_2 : List cZ) (t38_2 : List bK) (t39_2 : Int) (t40_2 : Int) (t70_2 : Int) (t_2 : bD) (jobs_2 : List cI) (bouts_2 : List bK) (b_2 : bK) : Nat → Int → (List Int) → bO → (List Int) → Int → Int → Option ((List cI) × (List bK) × Int)
  | 0, _, _, _, _, _, _ => none
  | k2 + 1, t71_2, j_2, j_2_2, j_2_3, j_2_4, j_2_5 =>
    bif decide (t71_2 < t70_2) then ((idx bouts_2 t71_2).bind fun x14 =>
    (bif decide (x14.Round = (w64 (b_2.Round - 1))) then (some (decide ((w64 (x14.Place.tdiv 2)) = b_2.Place))) else (some false)).bind fun b16 =>
    bif b16 then ((app 8 j_2 ([t71_2])).bind fun x17 =>
    (lQ again0 l_2 stages_2 t38_2 t39_2 t40_2 t70_2 t_2 jobs_2 bouts_2 b_2 k2) (w64 (t71_2 + 1)) x17 j_2_2 j_2_3 j_2_4 j_2_5)
    else ((lQ again0 l_2 stages_2 t38_2 t39_2 t40_2 t70_2 t_2 jobs_2 bouts_2 b_2 k2) (w64 (t71_2 + 1)) j_2 j_2_2 j_2_3 j_2_4 j_2_5))
    else (sD again0 l_2 stages_2 t38_2 t39_2 t40_2 t_2 jobs_2 bouts_2 b_2 j_2 j_2_2 j_2_3 j_2_4 j_2_5)

def qH (jobs_100 : List cI) (bouts_100 : List bK) : Option ((List cI) × (List bK) × Int) :=
    bif decide (6 < (jobs_100.length : Int)) then (some (([] : List cI), ([] : List bK), 2))
    else (some (jobs_100, bouts_100, 0))

def iG (l_0 : List aK) (stages_0 : List cZ) (t38_0 : List bK) (t39_0 : Int) (t_0 : bD) : Nat → Int → (List cI) → (List bK) → Option ((List cI) × (List bK) × Int)
  | 0, _, _, _ => none
  | k0 + 1, t40_0, jobs_0, bouts_0 =>
    bif decide (t40_0 < t39_0) then ((idx t38_0 t40_0).bind fun x8 =>
    (oW t_0 l_0 x8.Round x8.Place).bind fun r10 =>
    bif decide (r10.2 = 0) then (oI (iG l_0 stages_0 t38_0 t39_0 t_0 k0) l_0 stages_0 t38_0 t39_0 t40_0 t_0 jobs_0 bouts_0)
    else ((idx stages_0 x8.Round).bind fun x11 =>
    (idx stages_0 x8.Round).bind fun x12 =>
    lQ (iG l_0 stages_0 t38_0 t39_0 t_0 k0) l_0 stages_0 t38_0 t39_0 t40_0 (bouts_0.length : Int) t_0 jobs_0 bouts_0 x8 BIG 0 ([] : List Int) x11.Length ([] : List Int) x12.Due 0))
    else (qH jobs_0 bouts_0)

def mH (t_0 : bD) (l_1 : List aK) (stages_2 : List cZ) : Option ((List cI) × (List bK) × Int) :=
    (nG t_0 l_1).bind fun r2 =>
    bif !decide (r2.2 = 0) then (some (([] : List cI), ([] : List bK), r2.2))
    else ((bif !decide ((stages_2.length : Int) = t_0.Rounds) then (some true) else ((gG stages_2 (fun y3 => qV y3)).bind fun r4 =>
    some r4)).bind fun b5 =>
    bif b5 then (some (([] : List cI), ([] : List bK), 82))
    else (iG l_1 stages_2 r2.1 (r2.1.length : Int) t_0 BIG 0 ([] : List cI) ([] : List bK)))

def jQ (s_0 : bO) : Option Bool :=
    (bif decide (1 ≤ s_0.Low) then (some (decide (s_0.Low ≤ s_0.High))) else (some false)).bind fun b2 =>
    (bif b2 then (some (decide (s_0.High ≤ 600))) else (some false)).bind fun b3 =>
    some b3

def kT (n_0 : Int) (low_1 : Int) (high_2 : Int) : Option Bool :=
    (bif decide (low_1 ≤ n_0) then (some (decide (n_0 ≤ high_2))) else (some false)).bind fun b1 =>
    some b1

def qB (again4 : Int → (List cI) → Option ((List cI) × (List bK) × Int)) (stages_105 : List cZ) (i_105 : Int) (openv_105 : List bK) (jobs_105 : List cI) : Option ((List cI) × (List bK) × Int) :=
    again4 (w64 (i_105 + 1)) jobs_105

def nJ (again4 : Int → (List cI) → Option ((List cI) × (List bK) × Int)) (stages_106 : List cZ) (i_106 : Int) (openv_106 : List bK) (jobs_106 : List cI) (j_106 : List Int) (j_106_2 : bO) (j_106_3 : List Int) (j_106_4 : Int) (j_106_5 : Int) : Option ((List cI) × (List bK) × Int) :=
    (app 80 jobs_106 ([(cI.mk j_106_2 j_106 j_106_3 j_106_4 j_106_5)])).bind fun x29 =>
    qB again4 stages_106 i_106 openv_106 x29

def hB (again4 : Int → (List cI) → Option ((List cI) × (List bK) × Int)) (stages_6 : List cZ) (i_6 : Int) (openv_6 : List bK) (jobs_6 : List cI) : Nat → Int → (List Int) → bO → (List Int) → Int → Int → Option ((List cI) × (List bK) × Int)
  | 0, _, _, _, _, _, _ => none
  | k6 + 1, k_6, j_6, j_6_2, j_6_3, j_6_4, j_6_5 =>
    bif decide (k_6 < i_6) then ((idx openv_6 k_6).bind fun x22 =>
    (idx openv_6 i_6).bind fun x23 =>
    (bif decide (x22.Round = (w64 (x23.Round - 1))) then ((idx openv_6 k_6).bind fun x24 =>
    (idx openv_6 i_6).bind fun x25 =>
    some (decide ((w64 (x24.Place.tdiv 2)) = x25.Place))) else (some false)).bind fun b26 =>
    bif b26 then ((app 8 j_6 ([k_6])).bind fun x27 =>
    (hB again4 stages_6 i_6 openv_6 jobs_6 k6) (w64 (k_6 + 1)) x27 j_6_2 j_6_3 j_6_4 j_6_5)
    else ((hB again4 stages_6 i_6 openv_6 jobs_6 k6) (w64 (k_6 + 1)) j_6 j_6_2 j_6_3 j_6_4 j_6_5))
    else (nJ again4 stages_6 i_6 openv_6 jobs_6 j_6 j_6_2 j_6_3 j_6_4 j_6_5)

def nI (openv_104 : List bK) (jobs_104 : List cI) : Option ((List cI) × (List bK) × Int) :=
    some (jobs_104, openv_104, 0)

def eS (stages_4 : List cZ) (openv_4 : List bK) : Nat → Int → (List cI) → Option ((List cI) × (List bK) × Int)
  | 0, _, _ => none
  | k4 + 1, i_4, jobs_4 =>
    bif decide (i_4 < (openv_4.length : Int)) then ((idx openv_4 i_4).bind fun x17 =>
    (idx stages_4 x17.Round).bind fun x18 =>
    (idx openv_4 i_4).bind fun x19 =>
    (idx stages_4 x19.Round).bind fun x20 =>
    hB (eS stages_4 openv_4 k4) stages_4 i_4 openv_4 jobs_4 BIG 0 ([] : List Int) x18.Length ([] : List Int) x20.Due 0)
    else (nI openv_4 jobs_4)

def kG (stages_102 : List cZ) (openv_102 : List bK) : Option ((List cI) × (List bK) × Int) :=
    bif decide (6 < (openv_102.length : Int)) then (some (([] : List cI), ([] : List bK), 2))
    else (eS stages_102 openv_102 BIG 0 ([] : List cI))

def fY (l_2 : List aK) (stages_2 : List cZ) (allv_2 : List bK) (t_2 : bD) : Nat → Int → (List bK) → Option ((List cI) × (List bK) × Int)
  | 0, _, _ => none
  | k2 + 1, i_2, openv_2 =>
    bif decide (i_2 < (allv_2.length : Int)) then ((idx allv_2 i_2).bind fun x10 =>
    (idx allv_2 i_2).bind fun x11 =>
    (eY t_2 l_2 x10.Round x11.Place).bind fun r12 =>
    bif decide (r12.2 = 3) then ((idx allv_2 i_2).bind fun x13 =>
    (app 32 openv_2 ([x13])).bind fun x14 =>
    (fY l_2 stages_2 allv_2 t_2 k2) (w64 (i_2 + 1)) x14)
    else ((fY l_2 stages_2 allv_2 t_2 k2) (w64 (i_2 + 1)) openv_2))
    else (kG stages_2 openv_2)

def iY (l_100 : List aK) (stages_100 : List cZ) (t_100 : bD) : Option ((List cI) × (List bK) × Int) :=
    (iC t_100 l_100).bind fun r9 =>
    fY l_100 stages_100 r9.1 t_100 BIG 0 ([] : List bK)

def fX (l_0 : List aK) (stages_0 : List cZ) (t_0 : bD) : Nat → Int → Option ((List cI) × (List bK) × Int)
  | 0, _ => none
  | k0 + 1, i_0 =>
    bif decide (i_0 < (stages_0.length : Int)) then ((idx stages_0 i_0).bind fun x3 =>
    (jQ x3.Length).bind fun r4 =>
    (bif !r4 then (some true) else ((idx stages_0 i_0).bind fun x5 =>
    (kT x5.Due 0 2).bind fun r6 =>
    some (!r6))).bind fun b7 =>
    bif b7 then (some (([] : List cI), ([] : List bK), 82))
    else ((fX l_0 stages_0 t_0 k0) (w64 (i_0 + 1))))
    else (iY l_0 stages_0 t_0)

def gT (t_0 : bD) (l_1 : List aK) (stages_2 : List cZ) : Option ((List cI) × (List bK) × Int) :=
    (iD t_0 l_1).bind fun r2 =>
    bif !decide (r2 = 0) then (some (([] : List cI), ([] : List bK), r2))
    else (bif !decide ((stages_2.length : Int) = t_0.Rounds) then (some (([] : List cI), ([] : List bK), 82))
    else (fX l_1 stages_2 t_0 BIG 0))

def nS : Option Bool :=
    some true

def gC (a_0 : List Int) (b_0 : List Int) : Nat → Int → Option Bool
  | 0, _ => none
  | k0 + 1, i_0 =>
    bif decide (i_0 < (a_0.length : Int)) then ((idx a_0 i_0).bind fun x1 =>
    (idx b_0 i_0).bind fun x2 =>
    bif !decide (x1 = x2) then (some false)
    else ((gC a_0 b_0 k0) (w64 (i_0 + 1))))
    else (nS)

def jN (a_0 : List Int) (b_1 : List Int) : Option Bool :=
    bif !decide ((a_0.length : Int) = (b_1.length : Int)) then (some false)
    else (gC a_0 b_1 BIG 0)

def nT : Option Bool :=
    some true

def gD (a_0 : List cI) (b_0 : List cI) : Nat → Int → Option Bool
  | 0, _ => none
  | k0 + 1, i_0 =>
    bif decide (i_0 < (a_0.length : Int)) then ((idx a_0 i_0).bind fun x1 =>
    (idx b_0 i_0).bind fun x2 =>
    (bif !decide (x1.Length = x2.Length) then (some true) else ((idx a_0 i_0).bind fun x3 =>
    (idx b_0 i_0).bind fun x4 =>
    (jN x3.After x4.After).bind fun r5 =>
    some (!r5))).bind fun b6 =>
    (bif b6 then (some true) else ((idx a_0 i_0).bind fun x7 =>
    (idx b_0 i_0).bind fun x8 =>
    (jN x7.With x8.With).bind fun r9 =>
    some (!r9))).bind fun b10 =>
    (bif b10 then (some true) else ((idx a_0 i_0).bind fun x11 =>
    (idx b_0 i_0).bind fun x12 =>
    some (!decide (x11.Due = x12.Due)))).bind fun b13 =>
    (bif b13 then (some true) else ((idx a_0 i_0).bind fun x14 =>
    (idx b_0 i_0).bind fun x15 =>
    some (!decide (x14.Earliest = x15.Earliest)))).bind fun b16 =>
    bif b16 then (some false)
    else ((gD a_0 b_0 k0) (w64 (i_0 + 1))))
    else (nT)

def jO (a_0 : List cI) (b_1 : List cI) : Option Bool :=
    bif !decide ((a_0.length : Int) = (b_1.length : Int)) then (some false)
    else (gD a_0 b_1 BIG 0)

def nR : Option Bool :=
    (mM).bind fun r15 =>
    some r15

def fA (b_0 : List bK) (d_0 : List bK) : Nat → Int → Option Bool
  | 0, _ => none
  | k0 + 1, i_0 =>
    bif decide (i_0 < (b_0.length : Int)) then ((idx b_0 i_0).bind fun x13 =>
    (idx d_0 i_0).bind fun x14 =>
    bif !decide (x13 = x14) then (some false)
    else ((fA b_0 d_0 k0) (w64 (i_0 + 1))))
    else (nR)

def mY (t_0 : bD) (l_1 : List aK) (stages_2 : List cZ) : Option Bool :=
    (bif decide (40 < (t_0.Slots.length : Int)) then (some true) else (some (decide (20 < (l_1.length : Int))))).bind fun b2 =>
    (bif b2 then (some true) else (some (decide (20 < (stages_2.length : Int))))).bind fun b3 =>
    bif b3 then ((mM).bind fun r4 =>
    some r4)
    else ((app 8 ([] : List Int) t_0.Slots).bind fun x5 =>
    (app 40 ([] : List aK) l_1).bind fun x6 =>
    (app 24 ([] : List cZ) stages_2).bind fun x7 =>
    (mH (bD.mk t_0.Rounds x5) x6 x7).bind fun r8 =>
    (gT (bD.mk t_0.Rounds x5) l_1 stages_2).bind fun r9 =>
    (jO r8.1 r9.1).bind fun r10 =>
    (bif !r10 then (some true) else (some (!decide ((r8.2.1.length : Int) = (r9.2.1.length : Int))))).bind fun b11 =>
    (bif b11 then (some true) else (some (!decide (r8.2.2 = r9.2.2)))).bind fun b12 =>
    bif b12 then (some false)
    else (fA r8.2.1 r9.2.1 BIG 0))

end Go.Am
