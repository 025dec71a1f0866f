/- Shallow functions, printed by program. -/
import Derived.Test.YtikcmpflkibomaaAmFull
namespace Go.Am

structure ApiSpan where
  Low : Int
  High : Int
  deriving DecidableEq, Inhabited
def encApiSpan (x : ApiSpan) : List D := [.lit (.int .i64 x.Low), .lit (.int .i64 x.High)]

def encSl_ApiSpan (x : List ApiSpan) : List D := [.sl 2 (x.map encApiSpan)]

def encSl_Sl_ApiSpan (x : List (List ApiSpan)) : List D := [.sl 1 (x.map encSl_ApiSpan)]

def encSl_I (x : List Int) : List D := [.sl 1 (x.map encI)]

structure ApiJob where
  Length : ApiSpan
  After : List Int
  With : List Int
  Due : Int
  Earliest : Int
  deriving DecidableEq, Inhabited
def encApiJob (x : ApiJob) : List D := [.lit (.int .i64 x.Length.Low), .lit (.int .i64 x.Length.High), .sl 1 (x.After.map encI), .sl 1 (x.With.map encI), .lit (.int .i64 x.Due), .lit (.int .i64 x.Earliest)]

def encSl_ApiJob (x : List ApiJob) : List D := [.sl 6 (x.map encApiJob)]

structure ApiProgram where
  Days : List (List ApiSpan)
  Rest : Int
  Jobs : List ApiJob
  deriving DecidableEq, Inhabited
def encApiProgram (x : ApiProgram) : List D := [.sl 1 (x.Days.map encSl_ApiSpan), .lit (.int .i64 x.Rest), .sl 6 (x.Jobs.map encApiJob)]

structure ApiSeat where
  Job : Int
  Day : Int
  Court : Int
  deriving DecidableEq, Inhabited
def encApiSeat (x : ApiSeat) : List D := [.lit (.int .i64 x.Job), .lit (.int .i64 x.Day), .lit (.int .i64 x.Court)]

def encSl_ApiSeat (x : List ApiSeat) : List D := [.sl 3 (x.map encApiSeat)]

structure A3 (α : Type) where
  x0 : α
  x1 : α
  x2 : α
  deriving DecidableEq, Inhabited
def A3.at {α : Type} (a : A3 α) (p : Int) : α := if p = 0 then a.x0 else if p = 1 then a.x1 else a.x2
def A3.set {α : Type} (a : A3 α) (p : Int) (v : α) : A3 α := if p = 0 then { a with x0 := v } else if p = 1 then { a with x1 := v } else { a with x2 := v }
theorem A3.cellI {a : A3 Int} {p : Int} {u : Unit} (h : inb 3 p = some u) {ds : List D} {j : Nat} (h0 : ds[j + 0]? = some (.lit (.int .i64 a.x0))) (h1 : ds[j + 1]? = some (.lit (.int .i64 a.x1))) (h2 : ds[j + 2]? = some (.lit (.int .i64 a.x2))) : ds[j + p.toNat * 1]? = some (.lit (.int .i64 (a.at p))) := by
  obtain ⟨a1, a2⟩ := inb_spec h
  have : p = 0 ∨ p = 1 ∨ p = 2 := by omega
  rcases this with rfl | rfl | rfl
  · exact h0
  · exact h1
  · exact h2
theorem A3.celzI {a : A3 Int} {p : Int} {u : Unit} (h : inb 3 p = some u) {ds : List D} (h0 : ds[0]? = some (.lit (.int .i64 a.x0))) (h1 : ds[1]? = some (.lit (.int .i64 a.x1))) (h2 : ds[2]? = some (.lit (.int .i64 a.x2))) : ds[p.toNat * 1]? = some (.lit (.int .i64 (a.at p))) := by
  obtain ⟨a1, a2⟩ := inb_spec h
  have : p = 0 ∨ p = 1 ∨ p = 2 := by omega
  rcases this with rfl | rfl | rfl
  · exact h0
  · exact h1
  · exact h2
theorem A3.updI {a : A3 Int} {p : Int} {v : Int} {u : Unit} (h : inb 3 p = some u) {ds : List D} {j : Nat} (f : A3 Int → List D) (h0 : patch ds (j + 0) [.lit (.int .i64 v)] = f { a with x0 := v }) (h1 : patch ds (j + 1) [.lit (.int .i64 v)] = f { a with x1 := v }) (h2 : patch ds (j + 2) [.lit (.int .i64 v)] = f { a with x2 := v }) : patch ds (j + p.toNat * 1) [.lit (.int .i64 v)] = f (a.set p v) := by
  obtain ⟨a1, a2⟩ := inb_spec h
  have : p = 0 ∨ p = 1 ∨ p = 2 := by omega
  rcases this with rfl | rfl | rfl
  · exact h0
  · exact h1
  · exact h2
theorem A3.cellB {a : A3 Bool} {p : Int} {u : Unit} (h : inb 3 p = some u) {ds : List D} {j : Nat} (h0 : ds[j + 0]? = some (.lit (.bool a.x0))) (h1 : ds[j + 1]? = some (.lit (.bool a.x1))) (h2 : ds[j + 2]? = some (.lit (.bool a.x2))) : ds[j + p.toNat * 1]? = some (.lit (.bool (a.at p))) := by
  obtain ⟨a1, a2⟩ := inb_spec h
  have : p = 0 ∨ p = 1 ∨ p = 2 := by omega
  rcases this with rfl | rfl | rfl
  · exact h0
  · exact h1
  · exact h2
theorem A3.celzB {a : A3 Bool} {p : Int} {u : Unit} (h : inb 3 p = some u) {ds : List D} (h0 : ds[0]? = some (.lit (.bool a.x0))) (h1 : ds[1]? = some (.lit (.bool a.x1))) (h2 : ds[2]? = some (.lit (.bool a.x2))) : ds[p.toNat * 1]? = some (.lit (.bool (a.at p))) := by
  obtain ⟨a1, a2⟩ := inb_spec h
  have : p = 0 ∨ p = 1 ∨ p = 2 := by omega
  rcases this with rfl | rfl | rfl
  · exact h0
  · exact h1
  · exact h2
theorem A3.updB {a : A3 Bool} {p : Int} {v : Bool} {u : Unit} (h : inb 3 p = some u) {ds : List D} {j : Nat} (f : A3 Bool → List D) (h0 : patch ds (j + 0) [.lit (.bool v)] = f { a with x0 := v }) (h1 : patch ds (j + 1) [.lit (.bool v)] = f { a with x1 := v }) (h2 : patch ds (j + 2) [.lit (.bool v)] = f { a with x2 := v }) : patch ds (j + p.toNat * 1) [.lit (.bool v)] = f (a.set p v) := by
  obtain ⟨a1, a2⟩ := inb_spec h
  have : p = 0 ∨ p = 1 ∨ p = 2 := by omega
  rcases this with rfl | rfl | rfl
  · exact h0
  · exact h1
  · exact h2

def encA3_I (x : A3 Int) : List D := [.lit (.int .i64 x.x0), .lit (.int .i64 x.x1), .lit (.int .i64 x.x2)]

structure A6 (α : Type) where
  x0 : α
  x1 : α
  x2 : α
  x3 : α
  x4 : α
  x5 : α
  deriving DecidableEq, Inhabited
def A6.at {α : Type} (a : A6 α) (p : Int) : α := if p = 0 then a.x0 else if p = 1 then a.x1 else if p = 2 then a.x2 else if p = 3 then a.x3 else if p = 4 then a.x4 else a.x5
def A6.set {α : Type} (a : A6 α) (p : Int) (v : α) : A6 α := if p = 0 then { a with x0 := v } else if p = 1 then { a with x1 := v } else if p = 2 then { a with x2 := v } else if p = 3 then { a with x3 := v } else if p = 4 then { a with x4 := v } else { a with x5 := v }
theorem A6.cellI {a : A6 Int} {p : Int} {u : Unit} (h : inb 6 p = some u) {ds : List D} {j : Nat} (h0 : ds[j + 0]? = some (.lit (.int .i64 a.x0))) (h1 : ds[j + 1]? = some (.lit (.int .i64 a.x1))) (h2 : ds[j + 2]? = some (.lit (.int .i64 a.x2))) (h3 : ds[j + 3]? = some (.lit (.int .i64 a.x3))) (h4 : ds[j + 4]? = some (.lit (.int .i64 a.x4))) (h5 : ds[j + 5]? = some (.lit (.int .i64 a.x5))) : ds[j + p.toNat * 1]? = some (.lit (.int .i64 (a.at p))) := by
  obtain ⟨a1, a2⟩ := inb_spec h
  have : p = 0 ∨ p = 1 ∨ p = 2 ∨ p = 3 ∨ p = 4 ∨ p = 5 := by omega
  rcases this with rfl | rfl | rfl | rfl | rfl | rfl
  · exact h0
  · exact h1
  · exact h2
  · exact h3
  · exact h4
  · exact h5
theorem A6.celzI {a : A6 Int} {p : Int} {u : Unit} (h : inb 6 p = some u) {ds : List D} (h0 : ds[0]? = some (.lit (.int .i64 a.x0))) (h1 : ds[1]? = some (.lit (.int .i64 a.x1))) (h2 : ds[2]? = some (.lit (.int .i64 a.x2))) (h3 : ds[3]? = some (.lit (.int .i64 a.x3))) (h4 : ds[4]? = some (.lit (.int .i64 a.x4))) (h5 : ds[5]? = some (.lit (.int .i64 a.x5))) : ds[p.toNat * 1]? = some (.lit (.int .i64 (a.at p))) := by
  obtain ⟨a1, a2⟩ := inb_spec h
  have : p = 0 ∨ p = 1 ∨ p = 2 ∨ p = 3 ∨ p = 4 ∨ p = 5 := by omega
  rcases this with rfl | rfl | rfl | rfl | rfl | rfl
  · exact h0
  · exact h1
  · exact h2
  · exact h3
  · exact h4
  · exact h5
theorem A6.updI {a : A6 Int} {p : Int} {v : Int} {u : Unit} (h : inb 6 p = some u) {ds : List D} {j : Nat} (f : A6 Int → List D) (h0 : patch ds (j + 0) [.lit (.int .i64 v)] = f { a with x0 := v }) (h1 : patch ds (j + 1) [.lit (.int .i64 v)] = f { a with x1 := v }) (h2 : patch ds (j + 2) [.lit (.int .i64 v)] = f { a with x2 := v }) (h3 : patch ds (j + 3) [.lit (.int .i64 v)] = f { a with x3 := v }) (h4 : patch ds (j + 4) [.lit (.int .i64 v)] = f { a with x4 := v }) (h5 : patch ds (j + 5) [.lit (.int .i64 v)] = f { a with x5 := v }) : patch ds (j + p.toNat * 1) [.lit (.int .i64 v)] = f (a.set p v) := by
  obtain ⟨a1, a2⟩ := inb_spec h
  have : p = 0 ∨ p = 1 ∨ p = 2 ∨ p = 3 ∨ p = 4 ∨ p = 5 := by omega
  rcases this with rfl | rfl | rfl | rfl | rfl | rfl
  · exact h0
  · exact h1
  · exact h2
  · exact h3
  · exact h4
  · exact h5
theorem A6.cellB {a : A6 Bool} {p : Int} {u : Unit} (h : inb 6 p = some u) {ds : List D} {j : Nat} (h0 : ds[j + 0]? = some (.lit (.bool a.x0))) (h1 : ds[j + 1]? = some (.lit (.bool a.x1))) (h2 : ds[j + 2]? = some (.lit (.bool a.x2))) (h3 : ds[j + 3]? = some (.lit (.bool a.x3))) (h4 : ds[j + 4]? = some (.lit (.bool a.x4))) (h5 : ds[j + 5]? = some (.lit (.bool a.x5))) : ds[j + p.toNat * 1]? = some (.lit (.bool (a.at p))) := by
  obtain ⟨a1, a2⟩ := inb_spec h
  have : p = 0 ∨ p = 1 ∨ p = 2 ∨ p = 3 ∨ p = 4 ∨ p = 5 := by omega
  rcases this with rfl | rfl | rfl | rfl | rfl | rfl
  · exact h0
  · exact h1
  · exact h2
  · exact h3
  · exact h4
  · exact h5
theorem A6.celzB {a : A6 Bool} {p : Int} {u : Unit} (h : inb 6 p = some u) {ds : List D} (h0 : ds[0]? = some (.lit (.bool a.x0))) (h1 : ds[1]? = some (.lit (.bool a.x1))) (h2 : ds[2]? = some (.lit (.bool a.x2))) (h3 : ds[3]? = some (.lit (.bool a.x3))) (h4 : ds[4]? = some (.lit (.bool a.x4))) (h5 : ds[5]? = some (.lit (.bool a.x5))) : ds[p.toNat * 1]? = some (.lit (.bool (a.at p))) := by
  obtain ⟨a1, a2⟩ := inb_spec h
  have : p = 0 ∨ p = 1 ∨ p = 2 ∨ p = 3 ∨ p = 4 ∨ p = 5 := by omega
  rcases this with rfl | rfl | rfl | rfl | rfl | rfl
  · exact h0
  · exact h1
  · exact h2
  · exact h3
  · exact h4
  · exact h5
theorem A6.updB {a : A6 Bool} {p : Int} {v : Bool} {u : Unit} (h : inb 6 p = some u) {ds : List D} {j : Nat} (f : A6 Bool → List D) (h0 : patch ds (j + 0) [.lit (.bool v)] = f { a with x0 := v }) (h1 : patch ds (j + 1) [.lit (.bool v)] = f { a with x1 := v }) (h2 : patch ds (j + 2) [.lit (.bool v)] = f { a with x2 := v }) (h3 : patch ds (j + 3) [.lit (.bool v)] = f { a with x3 := v }) (h4 : patch ds (j + 4) [.lit (.bool v)] = f { a with x4 := v }) (h5 : patch ds (j + 5) [.lit (.bool v)] = f { a with x5 := v }) : patch ds (j + p.toNat * 1) [.lit (.bool v)] = f (a.set p v) := by
  obtain ⟨a1, a2⟩ := inb_spec h
  have : p = 0 ∨ p = 1 ∨ p = 2 ∨ p = 3 ∨ p = 4 ∨ p = 5 := by omega
  rcases this with rfl | rfl | rfl | rfl | rfl | rfl
  · exact h0
  · exact h1
  · exact h2
  · exact h3
  · exact h4
  · exact h5

def encA6_I (x : A6 Int) : List D := [.lit (.int .i64 x.x0), .lit (.int .i64 x.x1), .lit (.int .i64 x.x2), .lit (.int .i64 x.x3), .lit (.int .i64 x.x4), .lit (.int .i64 x.x5)]

structure PlayDay where
  number : Int
  free : A3 Int
  ends : A6 Int
  deriving DecidableEq, Inhabited
def encPlayDay (x : PlayDay) : List D := [.lit (.int .i64 x.number), .lit (.int .i64 x.free.x0), .lit (.int .i64 x.free.x1), .lit (.int .i64 x.free.x2), .lit (.int .i64 x.ends.x0), .lit (.int .i64 x.ends.x1), .lit (.int .i64 x.ends.x2), .lit (.int .i64 x.ends.x3), .lit (.int .i64 x.ends.x4), .lit (.int .i64 x.ends.x5)]

structure PlayState where
  day : PlayDay
  done : Int
  moves : Int
  deriving DecidableEq, Inhabited
def encPlayState (x : PlayState) : List D := [.lit (.int .i64 x.day.number), .lit (.int .i64 x.day.free.x0), .lit (.int .i64 x.day.free.x1), .lit (.int .i64 x.day.free.x2), .lit (.int .i64 x.day.ends.x0), .lit (.int .i64 x.day.ends.x1), .lit (.int .i64 x.day.ends.x2), .lit (.int .i64 x.day.ends.x3), .lit (.int .i64 x.day.ends.x4), .lit (.int .i64 x.day.ends.x5), .lit (.int .i64 x.done), .lit (.int .i64 x.moves)]

structure PlaySearch where
  Program : ApiProgram
  days : Int
  old : Option (List ApiSeat)
  deriving DecidableEq, Inhabited

structure Deucelaw08Ease where
  Open : Int
  Close : Int
  Rest : Int
  Length : Int
  Earliest : Int
  deriving DecidableEq, Inhabited
def encDeucelaw08Ease (x : Deucelaw08Ease) : List D := [.lit (.int .i64 x.Open), .lit (.int .i64 x.Close), .lit (.int .i64 x.Rest), .lit (.int .i64 x.Length), .lit (.int .i64 x.Earliest)]

def encSl_B (x : List Bool) : List D := [.sl 1 (x.map encB)]

def okApiSpan (x : ApiSpan) : Prop := okI x.Low ∧ okI x.High

def okApiJob (x : ApiJob) : Prop := okApiSpan x.Length ∧ (okL okI) x.After ∧ (okL okI) x.With ∧ okI x.Due ∧ okI x.Earliest

def okApiProgram (x : ApiProgram) : Prop := (okL (okL okApiSpan)) x.Days ∧ okI x.Rest ∧ (okL okApiJob) x.Jobs

def okApiSeat (x : ApiSeat) : Prop := okI x.Job ∧ okI x.Day ∧ okI x.Court

def okDeucelaw08Ease (x : Deucelaw08Ease) : Prop := okI x.Open ∧ okI x.Close ∧ okI x.Rest ∧ okI x.Length ∧ okI x.Earliest

def deucelaw08_huge_K2 : Option Bool :=
    some false

def deucelaw08_huge_L2 (p_2 : ApiProgram) : Nat → Int → Option Bool
  | 0, _ => none
  | k2 + 1, i_2 =>
    bif decide (i_2 < (p_2.Jobs.length : Int)) then ((idx p_2.Jobs i_2).bind fun x4 =>
    (bif decide (20 < (x4.After.length : Int)) then (some true) else ((idx p_2.Jobs i_2).bind fun x5 =>
    some (decide (20 < (x5.With.length : Int))))).bind fun b6 =>
    bif b6 then (some true)
    else ((deucelaw08_huge_L2 p_2 k2) (w64 (i_2 + 1))))
    else (deucelaw08_huge_K2)

def deucelaw08_huge_K0 (p_100 : ApiProgram) : Option Bool :=
    deucelaw08_huge_L2 p_100 BIG 0

def deucelaw08_huge_L0 (p_0 : ApiProgram) : Nat → Int → Option Bool
  | 0, _ => none
  | k0 + 1, d_0 =>
    bif decide (d_0 < (p_0.Days.length : Int)) then ((idx p_0.Days d_0).bind fun x3 =>
    bif decide (10 < (x3.length : Int)) then (some true)
    else ((deucelaw08_huge_L0 p_0 k0) (w64 (d_0 + 1))))
    else (deucelaw08_huge_K0 p_0)

def deucelaw08_huge (p_0 : ApiProgram) : Option Bool :=
    (bif decide (10 < (p_0.Days.length : Int)) then (some true) else (some (decide (20 < (p_0.Jobs.length : Int))))).bind fun b2 =>
    bif b2 then (some true)
    else (deucelaw08_huge_L0 p_0 BIG 0)

def deuceref08_within (n_0 : Int) (low_1 : Int) (high_2 : Int) : Option Bool :=
    (bif decide (low_1 ≤ n_0) then (some (decide (n_0 ≤ high_2))) else (some false)).bind fun b1 =>
    some b1

def deuceref08_isLength (s_0 : ApiSpan) : Option Bool :=
    (bif decide (1 ≤ s_0.Low) then (some (decide (s_0.Low ≤ s_0.High))) else (some false)).bind fun b2 =>
    (bif b2 then (some (decide (s_0.High ≤ 600))) else (some false)).bind fun b3 =>
    some b3

def deuceref08_isJob_K2 : Option Bool :=
    some true

def deuceref08_isJob_L2 (number_2 : Int) (many_2 : Int) (j_2 : ApiJob) : Nat → Int → Option Bool
  | 0, _ => none
  | k2 + 1, i_2 =>
    bif decide (i_2 < (j_2.With.length : Int)) then ((idx j_2.With i_2).bind fun x13 =>
    (deuceref08_within x13 0 (w64 (many_2 - 1))).bind fun r14 =>
    (bif !r14 then (some true) else ((idx j_2.With i_2).bind fun x15 =>
    some (decide (x15 = number_2)))).bind fun b16 =>
    (bif b16 then (some true) else ((bif decide (0 < i_2) then ((idx j_2.With i_2).bind fun x17 =>
    (idx j_2.With (w64 (i_2 - 1))).bind fun x18 =>
    some (decide (x17 ≤ x18))) else (some false)).bind fun b19 =>
    some b19)).bind fun b20 =>
    bif b20 then (some false)
    else ((deuceref08_isJob_L2 number_2 many_2 j_2 k2) (w64 (i_2 + 1))))
    else (deuceref08_isJob_K2)

def deuceref08_isJob_K0 (number_100 : Int) (many_100 : Int) (j_100 : ApiJob) : Option Bool :=
    deuceref08_isJob_L2 number_100 many_100 j_100 BIG 0

def deuceref08_isJob_L0 (number_0 : Int) (many_0 : Int) (j_0 : ApiJob) : Nat → Int → Option Bool
  | 0, _ => none
  | k0 + 1, i_0 =>
    bif decide (i_0 < (j_0.After.length : Int)) then ((idx j_0.After i_0).bind fun x7 =>
    (deuceref08_within x7 0 (w64 (number_0 - 1))).bind fun r8 =>
    (bif !r8 then (some true) else ((bif decide (0 < i_0) then ((idx j_0.After i_0).bind fun x9 =>
    (idx j_0.After (w64 (i_0 - 1))).bind fun x10 =>
    some (decide (x9 ≤ x10))) else (some false)).bind fun b11 =>
    some b11)).bind fun b12 =>
    bif b12 then (some false)
    else ((deuceref08_isJob_L0 number_0 many_0 j_0 k0) (w64 (i_0 + 1))))
    else (deuceref08_isJob_K0 number_0 many_0 j_0)

def deuceref08_isJob (j_0 : ApiJob) (number_1 : Int) (many_2 : Int) : Option Bool :=
    (deuceref08_isLength j_0.Length).bind fun r2 =>
    (bif !r2 then (some true) else ((deuceref08_within j_0.Due 0 2).bind fun r3 =>
    some (!r3))).bind fun b4 =>
    (bif b4 then (some true) else ((deuceref08_within j_0.Earliest 0 1440).bind fun r5 =>
    some (!r5))).bind fun b6 =>
    bif b6 then (some false)
    else (deuceref08_isJob_L0 number_1 many_2 j_0 BIG 0)

def deuceref08_Check_K1 (again0 : Int → Option Int) (d_101 : Int) (p_101 : ApiProgram) : Option Int :=
    again0 (w64 (d_101 + 1))

def deuceref08_Check_K2 (again0 : Int → Option Int) (d_102 : Int) (p_102 : ApiProgram) : Option Int :=
    deuceref08_Check_K1 again0 d_102 p_102

def deuceref08_Check_L2 (again0 : Int → Option Int) (d_2 : Int) (p_2 : ApiProgram) : Nat → Int → Option Int
  | 0, _ => none
  | k2 + 1, c_2 =>
    (idx p_2.Days d_2).bind fun x11 =>
    bif decide (c_2 < (x11.length : Int)) then ((idx p_2.Days d_2).bind fun x12 =>
    (idx x12 c_2).bind fun x13 =>
    (bif decide (x13.Low < 0) then (some true) else (some (decide (x13.High < x13.Low)))).bind fun b15 =>
    (bif b15 then (some true) else (some (decide (1440 < x13.High)))).bind fun b16 =>
    bif b16 then (some 80)
    else ((deuceref08_Check_L2 again0 d_2 p_2 k2) (w64 (c_2 + 1))))
    else (deuceref08_Check_K2 again0 d_2 p_2)

def deuceref08_Check_K4 : Option Int :=
    some 0

def deuceref08_Check_L4 (p_4 : ApiProgram) : Nat → Int → Option Int
  | 0, _ => none
  | k4 + 1, i_4 =>
    bif decide (i_4 < (p_4.Jobs.length : Int)) then ((idx p_4.Jobs i_4).bind fun x17 =>
    (deuceref08_isJob x17 i_4 (p_4.Jobs.length : Int)).bind fun r18 =>
    bif !r18 then (some 80)
    else ((deuceref08_Check_L4 p_4 k4) (w64 (i_4 + 1))))
    else (deuceref08_Check_K4)

def deuceref08_Check_K0 (p_100 : ApiProgram) : Option Int :=
    deuceref08_Check_L4 p_100 BIG 0

def deuceref08_Check_L0 (p_0 : ApiProgram) : Nat → Int → Option Int
  | 0, _ => none
  | k0 + 1, d_0 =>
    bif decide (d_0 < (p_0.Days.length : Int)) then ((idx p_0.Days d_0).bind fun x9 =>
    (idx p_0.Days 0).bind fun x10 =>
    bif !decide ((x9.length : Int) = (x10.length : Int)) then (some 80)
    else (deuceref08_Check_L2 (deuceref08_Check_L0 p_0 k0) d_0 p_0 BIG 0))
    else (deuceref08_Check_K0 p_0)

def deuceref08_Check (p_0 : ApiProgram) : Option Int :=
    (deuceref08_within (p_0.Days.length : Int) 1 3).bind fun r2 =>
    (bif !r2 then (some true) else ((idx p_0.Days 0).bind fun x3 =>
    (deuceref08_within (x3.length : Int) 1 3).bind fun r4 =>
    some (!r4))).bind fun b5 =>
    (bif b5 then (some true) else ((deuceref08_within p_0.Rest 0 600).bind fun r6 =>
    some (!r6))).bind fun b7 =>
    (bif b7 then (some true) else (some (decide (6 < (p_0.Jobs.length : Int))))).bind fun b8 =>
    bif b8 then (some 80)
    else (deuceref08_Check_L0 p_0 BIG 0)

def deuceref08_has_K0 : Option Bool :=
    some false

def deuceref08_has_L0 (order_0 : List ApiSeat) (job_0 : Int) : Nat → Int → Option Bool
  | 0, _ => none
  | k0 + 1, i_0 =>
    bif decide (i_0 < (order_0.length : Int)) then ((idx order_0 i_0).bind fun x1 =>
    bif decide (x1.Job = job_0) then (some true)
    else ((deuceref08_has_L0 order_0 job_0 k0) (w64 (i_0 + 1))))
    else (deuceref08_has_K0)

def deuceref08_has (order_0 : List ApiSeat) (job_1 : Int) : Option Bool :=
    deuceref08_has_L0 order_0 job_1 BIG 0

def deuceref08_MayCome_K2 : Option Bool :=
    some true

def deuceref08_MayCome_L2 (order_2 : List ApiSeat) (p_2 : ApiProgram) (s_2 : ApiSeat) : Nat → Int → Option Bool
  | 0, _ => none
  | k2 + 1, i_2 =>
    (idx p_2.Jobs s_2.Job).bind fun x13 =>
    bif decide (i_2 < (x13.After.length : Int)) then ((idx p_2.Jobs s_2.Job).bind fun x14 =>
    (idx x14.After i_2).bind fun x15 =>
    (deuceref08_has order_2 x15).bind fun r16 =>
    bif !r16 then (some false)
    else ((deuceref08_MayCome_L2 order_2 p_2 s_2 k2) (w64 (i_2 + 1))))
    else (deuceref08_MayCome_K2)

def deuceref08_MayCome_K0 (order_100 : List ApiSeat) (p_100 : ApiProgram) (s_100 : ApiSeat) : Option Bool :=
    deuceref08_MayCome_L2 order_100 p_100 s_100 BIG 0

def deuceref08_MayCome_L0 (order_0 : List ApiSeat) (p_0 : ApiProgram) (s_0 : ApiSeat) : Nat → Int → Option Bool
  | 0, _ => none
  | k0 + 1, i_0 =>
    bif decide (i_0 < (order_0.length : Int)) then ((idx order_0 i_0).bind fun x12 =>
    bif decide (s_0.Day < x12.Day) then (some false)
    else ((deuceref08_MayCome_L0 order_0 p_0 s_0 k0) (w64 (i_0 + 1))))
    else (deuceref08_MayCome_K0 order_0 p_0 s_0)

def deuceref08_MayCome (p_0 : ApiProgram) (order_1 : List ApiSeat) (s_2 : ApiSeat) : Option Bool :=
    (deuceref08_within s_2.Job 0 (w64 ((p_0.Jobs.length : Int) - 1))).bind fun r3 =>
    (bif !r3 then (some true) else ((deuceref08_has order_1 s_2.Job).bind fun r4 =>
    some r4)).bind fun b5 =>
    (bif b5 then (some true) else ((idx p_0.Jobs s_2.Job).bind fun x6 =>
    (deuceref08_within s_2.Day 0 (min (w64 ((p_0.Days.length : Int) - 1)) x6.Due)).bind fun r7 =>
    some (!r7))).bind fun b8 =>
    (bif b8 then (some true) else ((idx p_0.Days 0).bind fun x9 =>
    (deuceref08_within s_2.Court 0 (w64 ((x9.length : Int) - 1))).bind fun r10 =>
    some (!r10))).bind fun b11 =>
    bif b11 then (some false)
    else (deuceref08_MayCome_L0 order_1 p_0 s_2 BIG 0)

def deuceref08_IsOrder_K0 (order_100 : List ApiSeat) (p_100 : ApiProgram) : Option Bool :=
    some (decide ((order_100.length : Int) = (p_100.Jobs.length : Int)))

def deuceref08_IsOrder_L0 (order_0 : List ApiSeat) (p_0 : ApiProgram) : Nat → Int → Option Bool
  | 0, _ => none
  | k0 + 1, i_0 =>
    bif decide (i_0 < (order_0.length : Int)) then ((sub order_0 0 i_0).bind fun x2 =>
    (idx order_0 i_0).bind fun x3 =>
    (deuceref08_MayCome p_0 x2 x3).bind fun r4 =>
    bif !r4 then (some false)
    else ((deuceref08_IsOrder_L0 order_0 p_0 k0) (w64 (i_0 + 1))))
    else (deuceref08_IsOrder_K0 order_0 p_0)

def deuceref08_IsOrder (p_0 : ApiProgram) (order_1 : List ApiSeat) : Option Bool :=
    deuceref08_IsOrder_L0 order_1 p_0 BIG 0

def deucelaw08_Example : Option (ApiProgram × (List ApiSeat)) :=
    some ((ApiProgram.mk ([[(ApiSpan.mk 600 900), (ApiSpan.mk 600 780)], [(ApiSpan.mk 600 800), (ApiSpan.mk 600 600)]]) 30 ([(ApiJob.mk (ApiSpan.mk 60 120) ([] : List Int) ([] : List Int) 1 0), (ApiJob.mk (ApiSpan.mk 60 100) ([] : List Int) ([] : List Int) 1 0), (ApiJob.mk (ApiSpan.mk 90 150) ([0, 1]) ([] : List Int) 1 0)])), [(ApiSeat.mk 0 0 0), (ApiSeat.mk 1 0 1), (ApiSeat.mk 2 0 0)])

def play_within (n_0 : Int) (low_1 : Int) (high_2 : Int) : Option Bool :=
    (bif decide (low_1 ≤ n_0) then (some (decide (n_0 ≤ high_2))) else (some false)).bind fun b1 =>
    some b1

def slices_IndexFunc_api_Span_K0 : Option Int :=
    some (-1)

def slices_IndexFunc_api_Span_L0 (s_0 : List ApiSpan) (f_0 : ApiSpan → Option Bool) (t7_0 : Int) : Nat → Int → Option Int
  | 0, _ => none
  | k0 + 1, t8_0 =>
    bif decide (t8_0 < t7_0) then ((idx s_0 t8_0).bind fun x1 =>
    (f_0 x1).bind fun r2 =>
    bif r2 then (some t8_0)
    else ((slices_IndexFunc_api_Span_L0 s_0 f_0 t7_0 k0) (w64 (t8_0 + 1))))
    else (slices_IndexFunc_api_Span_K0)

def slices_IndexFunc_api_Span (s_0 : List ApiSpan) (f_1 : ApiSpan → Option Bool) : Option Int :=
    slices_IndexFunc_api_Span_L0 s_0 f_1 (s_0.length : Int) BIG 0

def slices_ContainsFunc_api_Span (s_0 : List ApiSpan) (f_1 : ApiSpan → Option Bool) : Option Bool :=
    (slices_IndexFunc_api_Span s_0 f_1).bind fun r1 =>
    some (decide (0 ≤ r1))

def play_isSpan (s_0 : ApiSpan) (low_1 : Int) (high_2 : Int) : Option Bool :=
    (bif decide (s_0.Low ≤ s_0.High) then ((play_within s_0.Low low_1 high_2).bind fun r2 =>
    some r2) else (some false)).bind fun b3 =>
    (bif b3 then ((play_within s_0.High low_1 high_2).bind fun r4 =>
    some r4) else (some false)).bind fun b5 =>
    some b5

def play_Check_1 (s_0 : ApiSpan) : Option Bool :=
    (play_isSpan s_0 0 1440).bind fun r2 =>
    some (!r2)

def play_isStage (length_0 : ApiSpan) (due_1 : Int) : Option Bool :=
    (play_isSpan length_0 1 600).bind fun r2 =>
    (bif r2 then ((play_within due_1 0 2).bind fun r3 =>
    some r3) else (some false)).bind fun b4 =>
    some b4

def play_areJobs_K0 : Option Bool :=
    some true

def play_areJobs_L0 (l_0 : List Int) (bound_0 : Int) (t7_0 : List Int) (t8_0 : Int) : Nat → Int → Option Bool
  | 0, _ => none
  | k0 + 1, t9_0 =>
    bif decide (t9_0 < t8_0) then ((idx t7_0 t9_0).bind fun x1 =>
    (play_within x1 0 (w64 (bound_0 - 1))).bind fun r2 =>
    (bif !r2 then (some true) else ((bif decide (0 < t9_0) then ((idx l_0 (w64 (t9_0 - 1))).bind fun x3 =>
    some (decide (x1 ≤ x3))) else (some false)).bind fun b4 =>
    some b4)).bind fun b5 =>
    bif b5 then (some false)
    else ((play_areJobs_L0 l_0 bound_0 t7_0 t8_0 k0) (w64 (t9_0 + 1))))
    else (play_areJobs_K0)

def play_areJobs (l_0 : List Int) (bound_1 : Int) : Option Bool :=
    play_areJobs_L0 l_0 bound_1 l_0 (l_0.length : Int) BIG 0

def slices_Index_int_K0 : Option Int :=
    some (-1)

def slices_Index_int_L0 (s_0 : List Int) (v_0 : Int) (t7_0 : Int) : Nat → Int → Option Int
  | 0, _ => none
  | k0 + 1, t8_0 =>
    bif decide (t8_0 < t7_0) then ((idx s_0 t8_0).bind fun x1 =>
    bif decide (v_0 = x1) then (some t8_0)
    else ((slices_Index_int_L0 s_0 v_0 t7_0 k0) (w64 (t8_0 + 1))))
    else (slices_Index_int_K0)

def slices_Index_int (s_0 : List Int) (v_1 : Int) : Option Int :=
    slices_Index_int_L0 s_0 v_1 (s_0.length : Int) BIG 0

def slices_Contains_int (s_0 : List Int) (v_1 : Int) : Option Bool :=
    (slices_Index_int s_0 v_1).bind fun r1 =>
    some (decide (0 ≤ r1))

def play_Check_K2 : Option Int :=
    some 0

def play_Check_L2 (t49_2 : List ApiJob) (t50_2 : Int) (p_2 : ApiProgram) : Nat → Int → Option Int
  | 0, _ => none
  | k2 + 1, t51_2 =>
    bif decide (t51_2 < t50_2) then ((idx t49_2 t51_2).bind fun x12 =>
    (play_isStage x12.Length x12.Due).bind fun r14 =>
    (bif !r14 then (some true) else ((play_within x12.Earliest 0 1440).bind fun r15 =>
    some (!r15))).bind fun b16 =>
    (bif b16 then (some true) else ((play_areJobs x12.After t51_2).bind fun r17 =>
    some (!r17))).bind fun b18 =>
    (bif b18 then (some true) else ((play_areJobs x12.With (p_2.Jobs.length : Int)).bind fun r19 =>
    some (!r19))).bind fun b20 =>
    (bif b20 then (some true) else ((slices_Contains_int x12.With t51_2).bind fun r21 =>
    some r21)).bind fun b22 =>
    bif b22 then (some 80)
    else ((play_Check_L2 t49_2 t50_2 p_2 k2) (w64 (t51_2 + 1))))
    else (play_Check_K2)

def play_Check_K0 (p_100 : ApiProgram) : Option Int :=
    play_Check_L2 p_100.Jobs (p_100.Jobs.length : Int) p_100 BIG 0

def play_Check_L0 (t25_0 : List (List ApiSpan)) (t26_0 : Int) (p_0 : ApiProgram) : Nat → Int → Option Int
  | 0, _ => none
  | k0 + 1, t27_0 =>
    bif decide (t27_0 < t26_0) then ((idx t25_0 t27_0).bind fun x6 =>
    (play_within (x6.length : Int) 1 3).bind fun r7 =>
    (bif !r7 then (some true) else ((idx p_0.Days 0).bind fun x8 =>
    some (!decide ((x6.length : Int) = (x8.length : Int))))).bind fun b9 =>
    bif b9 then (some 80)
    else ((slices_ContainsFunc_api_Span x6 (fun y10 => play_Check_1 y10)).bind fun r11 =>
    bif r11 then (some 80)
    else ((play_Check_L0 t25_0 t26_0 p_0 k0) (w64 (t27_0 + 1)))))
    else (play_Check_K0 p_0)

def play_Check (p_0 : ApiProgram) : Option Int :=
    (play_within (p_0.Days.length : Int) 1 3).bind fun r2 =>
    (bif !r2 then (some true) else ((play_within p_0.Rest 0 600).bind fun r3 =>
    some (!r3))).bind fun b4 =>
    (bif b4 then (some true) else (some (decide (6 < (p_0.Jobs.length : Int))))).bind fun b5 =>
    bif b5 then (some 80)
    else (play_Check_L0 p_0.Days (p_0.Days.length : Int) p_0 BIG 0)

def slices_IndexFunc_int_K0 : Option Int :=
    some (-1)

def slices_IndexFunc_int_L0 (s_0 : List Int) (f_0 : Int → Option Bool) (t7_0 : Int) : Nat → Int → Option Int
  | 0, _ => none
  | k0 + 1, t8_0 =>
    bif decide (t8_0 < t7_0) then ((idx s_0 t8_0).bind fun x1 =>
    (f_0 x1).bind fun r2 =>
    bif r2 then (some t8_0)
    else ((slices_IndexFunc_int_L0 s_0 f_0 t7_0 k0) (w64 (t8_0 + 1))))
    else (slices_IndexFunc_int_K0)

def slices_IndexFunc_int (s_0 : List Int) (f_1 : Int → Option Bool) : Option Int :=
    slices_IndexFunc_int_L0 s_0 f_1 (s_0.length : Int) BIG 0

def slices_ContainsFunc_int (s_0 : List Int) (f_1 : Int → Option Bool) : Option Bool :=
    (slices_IndexFunc_int s_0 f_1).bind fun r1 =>
    some (decide (0 ≤ r1))

def play_isOrder_1 (n_0 : Int) (c_1 : List Int) : Option Bool :=
    (slices_Contains_int c_1 n_0).bind fun r1 =>
    some (!r1)

def play_isOrder_K0 (p_100 : ApiProgram) (done_100 : List Int) : Option Bool :=
    some (decide ((done_100.length : Int) = (p_100.Jobs.length : Int)))

def play_isOrder_L0 (order_0 : List ApiSeat) (t10_0 : List ApiSeat) (t11_0 : Int) (p_0 : ApiProgram) : Nat → Int → (List Int) → Option Bool
  | 0, _, _ => none
  | k0 + 1, t12_0, done_0 =>
    bif decide (t12_0 < t11_0) then ((idx t10_0 t12_0).bind fun x3 =>
    (play_within x3.Job 0 (w64 ((p_0.Jobs.length : Int) - 1))).bind fun r5 =>
    (bif !r5 then (some true) else ((slices_Contains_int done_0 x3.Job).bind fun r6 =>
    some r6)).bind fun b7 =>
    (bif b7 then (some true) else ((play_within x3.Day 0 (w64 ((p_0.Days.length : Int) - 1))).bind fun r8 =>
    some (!r8))).bind fun b9 =>
    (bif b9 then (some true) else ((idx p_0.Days 0).bind fun x10 =>
    (play_within x3.Court 0 (w64 ((x10.length : Int) - 1))).bind fun r11 =>
    some (!r11))).bind fun b12 =>
    bif b12 then (some false)
    else ((idx p_0.Jobs x3.Job).bind fun x13 =>
    (slices_ContainsFunc_int x13.After (fun y15 => play_isOrder_1 y15 done_0)).bind fun r16 =>
    (bif decide (x13.Due < x3.Day) then (some true) else (some r16)).bind fun b17 =>
    (bif b17 then (some true) else ((bif decide (0 < t12_0) then ((idx order_0 (w64 (t12_0 - 1))).bind fun x18 =>
    some (decide (x3.Day < x18.Day))) else (some false)).bind fun b19 =>
    some b19)).bind fun b20 =>
    bif b20 then (some false)
    else ((app 8 done_0 ([x3.Job])).bind fun x21 =>
    (play_isOrder_L0 order_0 t10_0 t11_0 p_0 k0) (w64 (t12_0 + 1)) x21)))
    else (play_isOrder_K0 p_0 done_0)

def play_isOrder (p_0 : ApiProgram) (order_1 : List ApiSeat) : Option Bool :=
    play_isOrder_L0 order_1 order_1 (order_1.length : Int) p_0 BIG 0 ([] : List Int)

def play_open_K0 (o4_100 : PlayDay) (d_100 : PlayDay) : Option PlayDay :=
    some d_100

def play_open_L0 (t14_0 : List ApiSpan) (t15_0 : Int) (o4_0 : PlayDay) : Nat → Int → PlayDay → Option PlayDay
  | 0, _, _ => none
  | k0 + 1, t16_0, d_0 =>
    bif decide (t16_0 < t15_0) then ((idx t14_0 t16_0).bind fun x5 =>
    (inb 3 t16_0).bind fun u7 =>
    (play_open_L0 t14_0 t15_0 o4_0 k0) (w64 (t16_0 + 1)) (PlayDay.mk d_0.number (d_0.free.set t16_0 x5.Low) d_0.ends))
    else (play_open_K0 o4_0 d_0)

def play_open (p_0 : ApiProgram) (number_1 : Int) : Option PlayDay :=
    (idx p_0.Days number_1).bind fun x4 =>
    play_open_L0 x4 (x4.length : Int) (PlayDay.mk 0 (A3.mk 0 0 0) (A6.mk 0 0 0 0 0 0)) BIG 0 (PlayDay.mk number_1 (A3.mk 0 0 0) (A6.mk 0 0 0 0 0 0))

def play_share_1 (x_0 : Int) (y_1 : Int) (c_2 : ApiProgram) : Option Bool :=
    (idx c_2.Jobs x_0).bind fun x1 =>
    (slices_Contains_int x1.After y_1).bind fun r3 =>
    (bif r3 then (some true) else ((slices_Contains_int x1.With y_1).bind fun r4 =>
    some r4)).bind fun b5 =>
    some b5

def play_share (p_0 : ApiProgram) (a_1 : Int) (b_2 : Int) : Option Bool :=
    (play_share_1 a_1 b_2 p_0).bind fun r2 =>
    (bif r2 then (some true) else ((play_share_1 b_2 a_1 p_0).bind fun r3 =>
    some r3)).bind fun b4 =>
    some b4

def play_day_play_K0 (length_100 : Int) (beginv_100 : Int) (d_100 : PlayDay) (s_100 : ApiSeat) : Option (Int × Int × PlayDay) :=
    (inb 3 s_100.Court).bind fun u8 =>
    (inb 6 s_100.Job).bind fun u9 =>
    some (beginv_100, w64 (beginv_100 + length_100), (PlayDay.mk d_100.number (d_100.free.set s_100.Court (w64 (beginv_100 + length_100))) (d_100.ends.set s_100.Job (w64 (beginv_100 + length_100)))))

def play_day_play_L0 (length_0 : Int) (t30_0 : A6 Int) (d_0 : PlayDay) (p_0 : ApiProgram) (s_0 : ApiSeat) : Nat → Int → Int → Option (Int × Int × PlayDay)
  | 0, _, _ => none
  | k0 + 1, beginv_0, t31_0 =>
    bif decide (t31_0 < 6) then ((inb 6 t31_0).bind fun u5 =>
    (bif decide (0 < (t30_0.at t31_0)) then ((play_share p_0 s_0.Job t31_0).bind fun r6 =>
    some r6) else (some false)).bind fun b7 =>
    bif b7 then ((play_day_play_L0 length_0 t30_0 d_0 p_0 s_0 k0) (max beginv_0 (w64 ((t30_0.at t31_0) + p_0.Rest))) (w64 (t31_0 + 1)))
    else ((play_day_play_L0 length_0 t30_0 d_0 p_0 s_0 k0) beginv_0 (w64 (t31_0 + 1))))
    else (play_day_play_K0 length_0 beginv_0 d_0 s_0)

def play_day_play (d_0 : PlayDay) (p_1 : ApiProgram) (s_2 : ApiSeat) (length_3 : Int) : Option (Int × Int × PlayDay) :=
    (inb 3 s_2.Court).bind fun u3 =>
    (idx p_1.Jobs s_2.Job).bind fun x4 =>
    play_day_play_L0 length_3 d_0.ends d_0 p_1 s_2 BIG (max (d_0.free.at s_2.Court) x4.Earliest) 0

def play_times_K0 (o14_100 : List Int) (o18_100 : List Int) : Option ((List Int) × (List Int)) :=
    some (o14_100, o18_100)

def play_times_L0 (length_0 : ApiSpan → Option Int) (t21_0 : List ApiSeat) (t22_0 : Int) (p_0 : ApiProgram) : Nat → Int → PlayDay → (List Int) → (List Int) → Option ((List Int) × (List Int))
  | 0, _, _, _, _ => none
  | k0 + 1, t23_0, now_0, o14_0, o18_0 =>
    bif decide (t23_0 < t22_0) then ((idx t21_0 t23_0).bind fun x10 =>
    bif !decide (x10.Day = now_0.number) then ((play_open p_0 x10.Day).bind fun r12 =>
    (idx p_0.Jobs x10.Job).bind fun x13 =>
    (length_0 x13.Length).bind fun r14 =>
    (play_day_play r12 p_0 x10 r14).bind fun r15 =>
    (idx o14_0 x10.Job).bind fun x16 =>
    (idx o18_0 x10.Job).bind fun x17 =>
    (play_times_L0 length_0 t21_0 t22_0 p_0 k0) (w64 (t23_0 + 1)) r15.2.2 (o14_0.set x10.Job.toNat r15.1) (o18_0.set x10.Job.toNat r15.2.1))
    else ((idx p_0.Jobs x10.Job).bind fun x18 =>
    (length_0 x18.Length).bind fun r19 =>
    (play_day_play now_0 p_0 x10 r19).bind fun r20 =>
    (idx o14_0 x10.Job).bind fun x21 =>
    (idx o18_0 x10.Job).bind fun x22 =>
    (play_times_L0 length_0 t21_0 t22_0 p_0 k0) (w64 (t23_0 + 1)) r20.2.2 (o14_0.set x10.Job.toNat r20.1) (o18_0.set x10.Job.toNat r20.2.1)))
    else (play_times_K0 o14_0 o18_0)

def play_times (p_0 : ApiProgram) (order_1 : List ApiSeat) (length_2 : ApiSpan → Option Int) : Option ((List Int) × (List Int)) :=
    (mk 8 (p_0.Jobs.length : Int) 0).bind fun x4 =>
    (mk 8 (p_0.Jobs.length : Int) 0).bind fun x6 =>
    (play_open p_0 0).bind fun r8 =>
    play_times_L0 length_2 order_1 (order_1.length : Int) p_0 BIG 0 r8 x4 x6

def play_longest (s_0 : ApiSpan) : Option Int :=
    some s_0.High

def play_Fits_K0 : Option (Bool × Int × Int) :=
    some (true, (-1), 0)

def play_Fits_L0 (ends_0 : List Int) (t27_0 : List ApiSeat) (t28_0 : Int) (p_0 : ApiProgram) : Nat → Int → Option (Bool × Int × Int)
  | 0, _ => none
  | k0 + 1, t29_0 =>
    bif decide (t29_0 < t28_0) then ((idx t27_0 t29_0).bind fun x6 =>
    (idx ends_0 x6.Job).bind fun x8 =>
    (idx p_0.Days x6.Day).bind fun x9 =>
    (idx x9 x6.Court).bind fun x10 =>
    bif decide (x10.High < x8) then (some (false, x6.Job, 0))
    else ((play_Fits_L0 ends_0 t27_0 t28_0 p_0 k0) (w64 (t29_0 + 1))))
    else (play_Fits_K0)

def play_Fits (p_0 : ApiProgram) (order_1 : List ApiSeat) : Option (Bool × Int × Int) :=
    (play_Check p_0).bind fun r2 =>
    bif !decide (r2 = 0) then (some (false, 0, r2))
    else ((play_isOrder p_0 order_1).bind fun r3 =>
    bif !r3 then (some (false, 0, 81))
    else ((play_times p_0 order_1 (fun y4 => play_longest y4)).bind fun r5 =>
    play_Fits_L0 r5.2 order_1 (order_1.length : Int) p_0 BIG 0))

def play_state_has (x_0 : PlayState) (job_1 : Int) : Option Bool :=
    (chk (decide (0 ≤ job_1))).bind fun u2 =>
    some (decide ((bAnd (x_0.done.fdiv (2 ^ (min job_1.toNat 64))) 1) = 1))

def slices_Index_api_Seat_K0 : Option Int :=
    some (-1)

def slices_Index_api_Seat_L0 (s_0 : List ApiSeat) (t7_0 : Int) (v_0 : ApiSeat) : Nat → Int → Option Int
  | 0, _ => none
  | k0 + 1, t8_0 =>
    bif decide (t8_0 < t7_0) then ((idx s_0 t8_0).bind fun x2 =>
    bif decide (v_0 = x2) then (some t8_0)
    else ((slices_Index_api_Seat_L0 s_0 t7_0 v_0 k0) (w64 (t8_0 + 1))))
    else (slices_Index_api_Seat_K0)

def slices_Index_api_Seat (s_0 : List ApiSeat) (v_1 : ApiSeat) : Option Int :=
    slices_Index_api_Seat_L0 s_0 (s_0.length : Int) v_1 BIG 0

def slices_Contains_api_Seat (s_0 : List ApiSeat) (v_1 : ApiSeat) : Option Bool :=
    (slices_Index_api_Seat s_0 v_1).bind fun r2 =>
    some (decide (0 ≤ r2))

def play_search_move (s_0 : PlaySearch) (x_1 : ApiSeat) : Option Int :=
    (bif s_0.old.isNone then (some true) else ((slices_Contains_api_Seat (s_0.old.getD []) x_1).bind fun r2 =>
    some r2)).bind fun b3 =>
    bif b3 then (some 0)
    else (some 1)

def play_search_from_K1 (againR : PlaySearch → (List (PlayState × Int)) → PlayState → Option ((List ApiSeat) × Bool × (List (PlayState × Int)))) (again0 : Int → (List (PlayState × Int)) → Option ((List ApiSeat) × Bool × (List (PlayState × Int)))) (s_101 : ApiProgram) (s_101_2 : Int) (s_101_3 : Option (List ApiSeat)) (t51_101 : List ApiJob) (t52_101 : Int) (t53_101 : Int) (s_101_4 : List (PlayState × Int)) (x_101 : PlayState) : Option ((List ApiSeat) × Bool × (List (PlayState × Int))) :=
    again0 (w64 (t53_101 + 1)) s_101_4

def play_search_from_K5 (againR : PlaySearch → (List (PlayState × Int)) → PlayState → Option ((List ApiSeat) × Bool × (List (PlayState × Int)))) (again0 : Int → (List (PlayState × Int)) → Option ((List ApiSeat) × Bool × (List (PlayState × Int)))) (again4 : Int → (List (PlayState × Int)) → Option ((List ApiSeat) × Bool × (List (PlayState × Int)))) (s_105 : ApiProgram) (s_105_2 : Int) (s_105_3 : Option (List ApiSeat)) (job_105 : Int) (n_105 : Int) (t51_105 : List ApiJob) (t52_105 : Int) (t53_105 : Int) (s_105_4 : List (PlayState × Int)) (x_105 : PlayState) (j_105 : ApiJob) : Option ((List ApiSeat) × Bool × (List (PlayState × Int))) :=
    again4 (w64 (n_105 + 1)) s_105_4

def play_search_from_K6 (againR : PlaySearch → (List (PlayState × Int)) → PlayState → Option ((List ApiSeat) × Bool × (List (PlayState × Int)))) (again0 : Int → (List (PlayState × Int)) → Option ((List ApiSeat) × Bool × (List (PlayState × Int)))) (again4 : Int → (List (PlayState × Int)) → Option ((List ApiSeat) × Bool × (List (PlayState × Int)))) (s_106 : ApiProgram) (s_106_2 : Int) (s_106_3 : Option (List ApiSeat)) (job_106 : Int) (n_106 : Int) (t51_106 : List ApiJob) (t52_106 : Int) (t53_106 : Int) (s_106_4 : List (PlayState × Int)) (x_106 : PlayState) (j_106 : ApiJob) : Option ((List ApiSeat) × Bool × (List (PlayState × Int))) :=
    play_search_from_K5 againR again0 again4 s_106 s_106_2 s_106_3 job_106 n_106 t51_106 t52_106 t53_106 s_106_4 x_106 j_106

def play_search_from_L6 (againR : PlaySearch → (List (PlayState × Int)) → PlayState → Option ((List ApiSeat) × Bool × (List (PlayState × Int)))) (again0 : Int → (List (PlayState × Int)) → Option ((List ApiSeat) × Bool × (List (PlayState × Int)))) (again4 : Int → (List (PlayState × Int)) → Option ((List ApiSeat) × Bool × (List (PlayState × Int)))) (s_6 : ApiProgram) (s_6_2 : Int) (s_6_3 : Option (List ApiSeat)) (job_6 : Int) (n_6 : Int) (t51_6 : List ApiJob) (t52_6 : Int) (t53_6 : Int) (t110_6 : List ApiSpan) (t111_6 : Int) (x_6 : PlayState) (j_6 : ApiJob) (now_6 : PlayDay) : Nat → Int → (List (PlayState × Int)) → Option ((List ApiSeat) × Bool × (List (PlayState × Int)))
  | 0, _, _ => none
  | k6 + 1, t112_6, s_6_4 =>
    bif decide (t112_6 < t111_6) then ((idx t110_6 t112_6).bind fun x12 =>
    (chk (decide (0 ≤ job_6))).bind fun u15 =>
    (play_search_move (PlaySearch.mk s_6 s_6_2 s_6_3) (ApiSeat.mk job_6 n_6 t112_6)).bind fun r16 =>
    (play_day_play now_6 s_6 (ApiSeat.mk job_6 n_6 t112_6) j_6.Length.High).bind fun r18 =>
    (bif decide (x12.High < r18.2.1) then (some true) else (some (decide ((w64 (x_6.moves - r16)) < 0)))).bind fun b19 =>
    bif b19 then ((play_search_from_L6 againR again0 again4 s_6 s_6_2 s_6_3 job_6 n_6 t51_6 t52_6 t53_6 t110_6 t111_6 x_6 j_6 now_6 k6) (w64 (t112_6 + 1)) s_6_4)
    else ((againR (PlaySearch.mk s_6 s_6_2 s_6_3) s_6_4 (PlayState.mk r18.2.2 (bOr x_6.done (w64 (1 * 2 ^ (min job_6.toNat 64)))) (w64 (x_6.moves - r16)))).bind fun r20 =>
    bif r20.2.1 then ((app 24 ([(ApiSeat.mk job_6 n_6 t112_6)]) r20.1).bind fun x23 =>
    some (x23, true, r20.2.2))
    else ((play_search_from_L6 againR again0 again4 s_6 s_6_2 s_6_3 job_6 n_6 t51_6 t52_6 t53_6 t110_6 t111_6 x_6 j_6 now_6 k6) (w64 (t112_6 + 1)) r20.2.2)))
    else (play_search_from_K6 againR again0 again4 s_6 s_6_2 s_6_3 job_6 n_6 t51_6 t52_6 t53_6 s_6_4 x_6 j_6)

def play_search_from_K4 (againR : PlaySearch → (List (PlayState × Int)) → PlayState → Option ((List ApiSeat) × Bool × (List (PlayState × Int)))) (again0 : Int → (List (PlayState × Int)) → Option ((List ApiSeat) × Bool × (List (PlayState × Int)))) (s_104 : ApiProgram) (s_104_2 : Int) (s_104_3 : Option (List ApiSeat)) (t51_104 : List ApiJob) (t52_104 : Int) (t53_104 : Int) (s_104_4 : List (PlayState × Int)) (x_104 : PlayState) : Option ((List ApiSeat) × Bool × (List (PlayState × Int))) :=
    play_search_from_K1 againR again0 s_104 s_104_2 s_104_3 t51_104 t52_104 t53_104 s_104_4 x_104

def play_search_from_L4 (againR : PlaySearch → (List (PlayState × Int)) → PlayState → Option ((List ApiSeat) × Bool × (List (PlayState × Int)))) (again0 : Int → (List (PlayState × Int)) → Option ((List ApiSeat) × Bool × (List (PlayState × Int)))) (s_4 : ApiProgram) (s_4_2 : Int) (s_4_3 : Option (List ApiSeat)) (job_4 : Int) (t51_4 : List ApiJob) (t52_4 : Int) (t53_4 : Int) (x_4 : PlayState) (j_4 : ApiJob) : Nat → Int → (List (PlayState × Int)) → Option ((List ApiSeat) × Bool × (List (PlayState × Int)))
  | 0, _, _ => none
  | k4 + 1, n_4, s_4_4 =>
    (bif decide (n_4 < s_4_2) then (some (decide (n_4 ≤ j_4.Due))) else (some false)).bind fun b8 =>
    bif b8 then (bif decide (x_4.day.number < n_4) then ((play_open s_4 n_4).bind fun r10 =>
    (idx s_4.Days n_4).bind fun x11 =>
    play_search_from_L6 againR again0 (play_search_from_L4 againR again0 s_4 s_4_2 s_4_3 job_4 t51_4 t52_4 t53_4 x_4 j_4 k4) s_4 s_4_2 s_4_3 job_4 n_4 t51_4 t52_4 t53_4 x11 (x11.length : Int) x_4 j_4 r10 BIG 0 s_4_4)
    else ((idx s_4.Days n_4).bind fun x24 =>
    play_search_from_L6 againR again0 (play_search_from_L4 againR again0 s_4 s_4_2 s_4_3 job_4 t51_4 t52_4 t53_4 x_4 j_4 k4) s_4 s_4_2 s_4_3 job_4 n_4 t51_4 t52_4 t53_4 x24 (x24.length : Int) x_4 j_4 x_4.day BIG 0 s_4_4))
    else (play_search_from_K4 againR again0 s_4 s_4_2 s_4_3 t51_4 t52_4 t53_4 s_4_4 x_4)

def play_search_from_K2 (againR : PlaySearch → (List (PlayState × Int)) → PlayState → Option ((List ApiSeat) × Bool × (List (PlayState × Int)))) (again0 : Int → (List (PlayState × Int)) → Option ((List ApiSeat) × Bool × (List (PlayState × Int)))) (s_102 : ApiProgram) (s_102_2 : Int) (s_102_3 : Option (List ApiSeat)) (job_102 : Int) (t51_102 : List ApiJob) (t52_102 : Int) (t53_102 : Int) (s_102_4 : List (PlayState × Int)) (x_102 : PlayState) (j_102 : ApiJob) : Option ((List ApiSeat) × Bool × (List (PlayState × Int))) :=
    play_search_from_L4 againR again0 s_102 s_102_2 s_102_3 job_102 t51_102 t52_102 t53_102 x_102 j_102 BIG x_102.day.number s_102_4

def play_search_from_L2 (againR : PlaySearch → (List (PlayState × Int)) → PlayState → Option ((List ApiSeat) × Bool × (List (PlayState × Int)))) (again0 : Int → (List (PlayState × Int)) → Option ((List ApiSeat) × Bool × (List (PlayState × Int)))) (s_2 : ApiProgram) (s_2_2 : Int) (s_2_3 : Option (List ApiSeat)) (job_2 : Int) (t51_2 : List ApiJob) (t52_2 : Int) (t53_2 : Int) (t62_2 : List Int) (t63_2 : Int) (s_2_4 : List (PlayState × Int)) (x_2 : PlayState) (j_2 : ApiJob) : Nat → Int → Option ((List ApiSeat) × Bool × (List (PlayState × Int)))
  | 0, _ => none
  | k2 + 1, t64_2 =>
    bif decide (t64_2 < t63_2) then ((idx t62_2 t64_2).bind fun x6 =>
    (play_state_has x_2 x6).bind fun r7 =>
    bif !r7 then (play_search_from_K1 againR again0 s_2 s_2_2 s_2_3 t51_2 t52_2 t53_2 s_2_4 x_2)
    else ((play_search_from_L2 againR again0 s_2 s_2_2 s_2_3 job_2 t51_2 t52_2 t53_2 t62_2 t63_2 s_2_4 x_2 j_2 k2) (w64 (t64_2 + 1))))
    else (play_search_from_K2 againR again0 s_2 s_2_2 s_2_3 job_2 t51_2 t52_2 t53_2 s_2_4 x_2 j_2)

def play_search_from_K0 (againR : PlaySearch → (List (PlayState × Int)) → PlayState → Option ((List ApiSeat) × Bool × (List (PlayState × Int)))) (s_100 : List (PlayState × Int)) : Option ((List ApiSeat) × Bool × (List (PlayState × Int))) :=
    some (([] : List ApiSeat), false, s_100)

def play_search_from_L0 (againR : PlaySearch → (List (PlayState × Int)) → PlayState → Option ((List ApiSeat) × Bool × (List (PlayState × Int)))) (s_0 : ApiProgram) (s_0_2 : Int) (s_0_3 : Option (List ApiSeat)) (t51_0 : List ApiJob) (t52_0 : Int) (x_0 : PlayState) : Nat → Int → (List (PlayState × Int)) → Option ((List ApiSeat) × Bool × (List (PlayState × Int)))
  | 0, _, _ => none
  | k0 + 1, t53_0, s_0_4 =>
    bif decide (t53_0 < t52_0) then ((idx t51_0 t53_0).bind fun x3 =>
    (play_state_has x_0 t53_0).bind fun r5 =>
    bif r5 then (play_search_from_K1 againR (play_search_from_L0 againR s_0 s_0_2 s_0_3 t51_0 t52_0 x_0 k0) s_0 s_0_2 s_0_3 t51_0 t52_0 t53_0 s_0_4 x_0)
    else (play_search_from_L2 againR (play_search_from_L0 againR s_0 s_0_2 s_0_3 t51_0 t52_0 x_0 k0) s_0 s_0_2 s_0_3 t53_0 t51_0 t52_0 t53_0 x3.After (x3.After.length : Int) s_0_4 x_0 x3 BIG 0))
    else (play_search_from_K0 againR s_0_4)

def play_search_from_r : Nat → PlaySearch → (List (PlayState × Int)) → PlayState → Option ((List ApiSeat) × Bool × (List (PlayState × Int)))
  | 0, _, _, _ => none
  | kr + 1, s_0, s_0_seen, x_1 =>
    (chk (decide (0 ≤ (s_0.Program.Jobs.length : Int)))).bind fun u2 =>
    bif decide (x_1.done = (w64 ((w64 (1 * 2 ^ (min (s_0.Program.Jobs.length : Int).toNat 64))) - 1))) then (some (([] : List ApiSeat), true, s_0_seen))
    else (bif decide (1 < (mget x_1 0 (mset x_1 (w64 ((mget x_1 0 s_0_seen) + 1)) s_0_seen))) then (some (([] : List ApiSeat), false, (mset x_1 (w64 ((mget x_1 0 s_0_seen) + 1)) s_0_seen)))
    else (play_search_from_L0 (play_search_from_r kr) s_0.Program s_0.days s_0.old s_0.Program.Jobs (s_0.Program.Jobs.length : Int) x_1 BIG 0 (mset x_1 (w64 ((mget x_1 0 s_0_seen) + 1)) s_0_seen)))

def play_search_from : PlaySearch → (List (PlayState × Int)) → PlayState → Option ((List ApiSeat) × Bool × (List (PlayState × Int))) := play_search_from_r BIG

def play_order (p_0 : ApiProgram) (days_1 : Int) (old_2 : Option (List ApiSeat)) (moves_3 : Int) : Option ((List ApiSeat) × Bool) :=
    bif decide (days_1 = 0) then (some (([] : List ApiSeat), decide ((p_0.Jobs.length : Int) = 0)))
    else ((play_open p_0 0).bind fun r4 =>
    (play_search_from (PlaySearch.mk p_0 days_1 old_2) ([] : List (PlayState × Int)) (PlayState.mk r4 0 moves_3)).bind fun r5 =>
    some (r5.1, r5.2.1))

def play_best_K0 : Option (Int × (List ApiSeat) × Bool) :=
    some (0, ([] : List ApiSeat), false)

def play_best_L0 (t11_0 : Int) (p_0 : ApiProgram) : Nat → Int → Option (Int × (List ApiSeat) × Bool)
  | 0, _ => none
  | k0 + 1, t12_0 =>
    bif decide (t12_0 < t11_0) then ((play_order p_0 t12_0 none 0).bind fun r2 =>
    bif r2.2 then (some (t12_0, r2.1, true))
    else ((play_best_L0 t11_0 p_0 k0) (w64 (t12_0 + 1))))
    else (play_best_K0)

def play_best (p_0 : ApiProgram) : Option (Int × (List ApiSeat) × Bool) :=
    play_best_L0 (w64 ((p_0.Days.length : Int) + 1)) p_0 BIG 0

def play_Days (p_0 : ApiProgram) : Option (Int × Int) :=
    (play_Check p_0).bind fun r2 =>
    bif !decide (r2 = 0) then (some (0, r2))
    else ((play_best p_0).bind fun r3 =>
    bif !r3.2.2 then (some (0, 3))
    else (some (r3.1, 0)))

def play_shortest (s_0 : ApiSpan) : Option Int :=
    some s_0.Low

def play_Times_K0 (begins_100 : List ApiSpan) (ends_100 : List ApiSpan) : Option ((List ApiSpan) × (List ApiSpan) × Int) :=
    some (begins_100, ends_100, 0)

def play_Times_L0 (a_0 : List Int) (b_0 : List Int) (c_0 : List Int) (d_0 : List Int) (t36_0 : Int) : Nat → Int → (List ApiSpan) → (List ApiSpan) → Option ((List ApiSpan) × (List ApiSpan) × Int)
  | 0, _, _, _ => none
  | k0 + 1, t37_0, begins_0, ends_0 =>
    bif decide (t37_0 < t36_0) then ((idx a_0 t37_0).bind fun x14 =>
    (idx c_0 t37_0).bind fun x15 =>
    (app 16 begins_0 ([(ApiSpan.mk x14 x15)])).bind fun x16 =>
    (idx b_0 t37_0).bind fun x18 =>
    (idx d_0 t37_0).bind fun x19 =>
    (app 16 ends_0 ([(ApiSpan.mk x18 x19)])).bind fun x20 =>
    (play_Times_L0 a_0 b_0 c_0 d_0 t36_0 k0) (w64 (t37_0 + 1)) x16 x20)
    else (play_Times_K0 begins_0 ends_0)

def play_Times (p_0 : ApiProgram) (order_1 : List ApiSeat) : Option ((List ApiSpan) × (List ApiSpan) × Int) :=
    (play_Check p_0).bind fun r4 =>
    bif !decide (r4 = 0) then (some (([] : List ApiSpan), ([] : List ApiSpan), r4))
    else ((play_isOrder p_0 order_1).bind fun r7 =>
    bif !r7 then (some (([] : List ApiSpan), ([] : List ApiSpan), 81))
    else ((play_times p_0 order_1 (fun y10 => play_shortest y10)).bind fun r11 =>
    (play_times p_0 order_1 (fun y12 => play_longest y12)).bind fun r13 =>
    play_Times_L0 r11.1 r11.2 r13.1 r13.2 (p_0.Jobs.length : Int) BIG 0 ([] : List ApiSpan) ([] : List ApiSpan)))

def deucelaw08_works : Option Bool :=
    (deucelaw08_Example).bind fun r1 =>
    (play_Fits r1.1 r1.2).bind fun r3 =>
    (play_Days r1.1).bind fun r4 =>
    (play_Times r1.1 r1.2).bind fun r5 =>
    (bif decide (r3.2.2 = 0) then (some (decide (r4.2 = 0))) else (some false)).bind fun b6 =>
    (bif b6 then (some (decide (r5.2.2 = 0))) else (some false)).bind fun b7 =>
    (bif b7 then (some r3.1) else (some false)).bind fun b8 =>
    (bif b8 then (some (decide (r3.2.1 = (-1)))) else (some false)).bind fun b9 =>
    (bif b9 then (some (decide (r4.1 = 1))) else (some false)).bind fun b10 =>
    (bif b10 then (some (decide ((r5.1.length : Int) = 3))) else (some false)).bind fun b11 =>
    (bif b11 then ((idx r5.1 2).bind fun x12 =>
    some (decide (x12 = (ApiSpan.mk 690 750)))) else (some false)).bind fun b13 =>
    some b13

def deuceref08_In_K0 : Option Bool :=
    some false

def deuceref08_In_L0 (l_0 : List Int) (n_0 : Int) : Nat → Int → Option Bool
  | 0, _ => none
  | k0 + 1, i_0 =>
    bif decide (i_0 < (l_0.length : Int)) then ((idx l_0 i_0).bind fun x1 =>
    bif decide (x1 = n_0) then (some true)
    else ((deuceref08_In_L0 l_0 n_0 k0) (w64 (i_0 + 1))))
    else (deuceref08_In_K0)

def deuceref08_In (l_0 : List Int) (n_1 : Int) : Option Bool :=
    deuceref08_In_L0 l_0 n_1 BIG 0

def deuceref08_Share (p_0 : ApiProgram) (a_1 : Int) (b_2 : Int) : Option Bool :=
    (idx p_0.Jobs a_1).bind fun x2 =>
    (deuceref08_In x2.After b_2).bind fun r3 =>
    (bif r3 then (some true) else ((idx p_0.Jobs a_1).bind fun x4 =>
    (deuceref08_In x4.With b_2).bind fun r5 =>
    some r5)).bind fun b6 =>
    (bif b6 then (some true) else ((idx p_0.Jobs b_2).bind fun x7 =>
    (deuceref08_In x7.After a_1).bind fun r8 =>
    some r8)).bind fun b9 =>
    (bif b9 then (some true) else ((idx p_0.Jobs b_2).bind fun x10 =>
    (deuceref08_In x10.With a_1).bind fun r11 =>
    some r11)).bind fun b12 =>
    some b12

def deuceref08_Begin_K0 (atv_100 : Int) : Option Int :=
    some atv_100

def deuceref08_Begin_L0 (order_0 : List ApiSeat) (ends_0 : List Int) (p_0 : ApiProgram) (s_0 : ApiSeat) : Nat → Int → Int → Option Int
  | 0, _, _ => none
  | k0 + 1, atv_0, i_0 =>
    bif decide (i_0 < (order_0.length : Int)) then ((idx order_0 i_0).bind fun x6 =>
    bif !decide (x6.Day = s_0.Day) then ((deuceref08_Begin_L0 order_0 ends_0 p_0 s_0 k0) atv_0 (w64 (i_0 + 1)))
    else ((idx order_0 i_0).bind fun x7 =>
    bif decide (x7.Court = s_0.Court) then ((idx order_0 i_0).bind fun x8 =>
    (idx ends_0 x8.Job).bind fun x9 =>
    (idx order_0 i_0).bind fun x10 =>
    (deuceref08_Share p_0 s_0.Job x10.Job).bind fun r11 =>
    bif r11 then ((idx order_0 i_0).bind fun x12 =>
    (idx ends_0 x12.Job).bind fun x13 =>
    (deuceref08_Begin_L0 order_0 ends_0 p_0 s_0 k0) (max (max atv_0 x9) (w64 (x13 + p_0.Rest))) (w64 (i_0 + 1)))
    else ((deuceref08_Begin_L0 order_0 ends_0 p_0 s_0 k0) (max atv_0 x9) (w64 (i_0 + 1))))
    else ((idx order_0 i_0).bind fun x14 =>
    (deuceref08_Share p_0 s_0.Job x14.Job).bind fun r15 =>
    bif r15 then ((idx order_0 i_0).bind fun x16 =>
    (idx ends_0 x16.Job).bind fun x17 =>
    (deuceref08_Begin_L0 order_0 ends_0 p_0 s_0 k0) (max atv_0 (w64 (x17 + p_0.Rest))) (w64 (i_0 + 1)))
    else ((deuceref08_Begin_L0 order_0 ends_0 p_0 s_0 k0) atv_0 (w64 (i_0 + 1))))))
    else (deuceref08_Begin_K0 atv_0)

def deuceref08_Begin (p_0 : ApiProgram) (order_1 : List ApiSeat) (ends_2 : List Int) (s_3 : ApiSeat) : Option Int :=
    (idx p_0.Days s_3.Day).bind fun x3 =>
    (idx x3 s_3.Court).bind fun x4 =>
    (idx p_0.Jobs s_3.Job).bind fun x5 =>
    deuceref08_Begin_L0 order_1 ends_2 p_0 s_3 BIG (max x4.Low x5.Earliest) 0

def deuceref08_Run_K0 (o13_100 : List Int) (o17_100 : List Int) : Option ((List Int) × (List Int)) :=
    some (o13_100, o17_100)

def deuceref08_Run_L0 (order_0 : List ApiSeat) (takes_0 : List Int) (p_0 : ApiProgram) : Nat → Int → (List Int) → (List Int) → Option ((List Int) × (List Int))
  | 0, _, _, _ => none
  | k0 + 1, i_0, o13_0, o17_0 =>
    bif decide (i_0 < (order_0.length : Int)) then ((idx order_0 i_0).bind fun x8 =>
    (sub order_0 0 i_0).bind fun x10 =>
    (deuceref08_Begin p_0 x10 o17_0 x8).bind fun r11 =>
    (idx o13_0 x8.Job).bind fun x12 =>
    (idx (o13_0.set x8.Job.toNat r11) x8.Job).bind fun x13 =>
    (idx takes_0 x8.Job).bind fun x14 =>
    (idx o17_0 x8.Job).bind fun x15 =>
    (deuceref08_Run_L0 order_0 takes_0 p_0 k0) (w64 (i_0 + 1)) (o13_0.set x8.Job.toNat r11) (o17_0.set x8.Job.toNat (w64 (x13 + x14))))
    else (deuceref08_Run_K0 o13_0 o17_0)

def deuceref08_Run (p_0 : ApiProgram) (order_1 : List ApiSeat) (takes_2 : List Int) : Option ((List Int) × (List Int)) :=
    (mk 8 (p_0.Jobs.length : Int) 0).bind fun x4 =>
    (mk 8 (p_0.Jobs.length : Int) 0).bind fun x6 =>
    deuceref08_Run_L0 order_1 takes_2 p_0 BIG 0 x4 x6

def deucelaw08_PlayReal_K3 (again2 : Int → Option Bool) (order_103 : List ApiSeat) (a_103 : List ApiSpan) (b_103 : List ApiSpan) (isv_103 : Bool) (begins_103 : List Int) (ends_103 : List Int) (i_103 : Int) (p_103 : ApiProgram) : Option Bool :=
    again2 (w64 (i_103 + 1))

def deucelaw08_PlayReal_K4 (again2 : Int → Option Bool) (order_104 : List ApiSeat) (a_104 : List ApiSpan) (b_104 : List ApiSpan) (isv_104 : Bool) (begins_104 : List Int) (ends_104 : List Int) (i_104 : Int) (p_104 : ApiProgram) : Option Bool :=
    deucelaw08_PlayReal_K3 again2 order_104 a_104 b_104 isv_104 begins_104 ends_104 i_104 p_104

def deucelaw08_PlayReal_L4 (again2 : Int → Option Bool) (order_4 : List ApiSeat) (a_4 : List ApiSpan) (b_4 : List ApiSpan) (isv_4 : Bool) (begins_4 : List Int) (ends_4 : List Int) (i_4 : Int) (n_4 : Int) (p_4 : ApiProgram) (s_4 : ApiSeat) : Nat → Int → Option Bool
  | 0, _ => none
  | k4 + 1, k_4 =>
    bif decide (k_4 < i_4) then ((idx order_4 k_4).bind fun x43 =>
    bif !decide (x43.Day = s_4.Day) then ((deucelaw08_PlayReal_L4 again2 order_4 a_4 b_4 isv_4 begins_4 ends_4 i_4 n_4 p_4 s_4 k4) (w64 (k_4 + 1)))
    else ((deuceref08_Share p_4 n_4 x43.Job).bind fun r45 =>
    (bif r45 then ((idx begins_4 n_4).bind fun x46 =>
    (idx ends_4 x43.Job).bind fun x47 =>
    some (decide (x46 < (w64 (x47 + p_4.Rest))))) else (some false)).bind fun b48 =>
    (bif b48 then (some true) else ((bif decide (s_4.Court = x43.Court) then ((idx begins_4 n_4).bind fun x49 =>
    (idx ends_4 x43.Job).bind fun x50 =>
    some (decide (x49 < x50))) else (some false)).bind fun b51 =>
    some b51)).bind fun b52 =>
    bif b52 then (some false)
    else ((deucelaw08_PlayReal_L4 again2 order_4 a_4 b_4 isv_4 begins_4 ends_4 i_4 n_4 p_4 s_4 k4) (w64 (k_4 + 1)))))
    else (deucelaw08_PlayReal_K4 again2 order_4 a_4 b_4 isv_4 begins_4 ends_4 i_4 p_4)

def deucelaw08_PlayReal_K2 : Option Bool :=
    (deucelaw08_works).bind fun r53 =>
    some r53

def deucelaw08_PlayReal_L2 (order_2 : List ApiSeat) (a_2 : List ApiSpan) (b_2 : List ApiSpan) (isv_2 : Bool) (begins_2 : List Int) (ends_2 : List Int) (p_2 : ApiProgram) : Nat → Int → Option Bool
  | 0, _ => none
  | k2 + 1, i_2 =>
    bif decide (i_2 < (order_2.length : Int)) then ((idx order_2 i_2).bind fun x22 =>
    (idx begins_2 x22.Job).bind fun x24 =>
    (idx a_2 x22.Job).bind fun x25 =>
    (bif decide (x24 < x25.Low) then (some true) else ((idx begins_2 x22.Job).bind fun x26 =>
    (idx a_2 x22.Job).bind fun x27 =>
    some (decide (x27.High < x26)))).bind fun b28 =>
    (bif b28 then (some true) else ((idx ends_2 x22.Job).bind fun x29 =>
    (idx b_2 x22.Job).bind fun x30 =>
    some (decide (x29 < x30.Low)))).bind fun b31 =>
    (bif b31 then (some true) else ((idx ends_2 x22.Job).bind fun x32 =>
    (idx b_2 x22.Job).bind fun x33 =>
    some (decide (x33.High < x32)))).bind fun b34 =>
    (bif b34 then (some true) else ((bif isv_2 then ((idx ends_2 x22.Job).bind fun x35 =>
    (idx p_2.Days x22.Day).bind fun x36 =>
    (idx x36 x22.Court).bind fun x37 =>
    some (decide (x37.High < x35))) else (some false)).bind fun b38 =>
    some b38)).bind fun b39 =>
    (bif b39 then (some true) else ((idx begins_2 x22.Job).bind fun x40 =>
    (idx p_2.Jobs x22.Job).bind fun x41 =>
    some (decide (x40 < x41.Earliest)))).bind fun b42 =>
    bif b42 then (some false)
    else (deucelaw08_PlayReal_L4 (deucelaw08_PlayReal_L2 order_2 a_2 b_2 isv_2 begins_2 ends_2 p_2 k2) order_2 a_2 b_2 isv_2 begins_2 ends_2 i_2 x22.Job p_2 x22 BIG 0))
    else (deucelaw08_PlayReal_K2)

def deucelaw08_PlayReal_K0 (order_100 : List ApiSeat) (takes_100 : List Int) (p_100 : ApiProgram) : Option Bool :=
    (play_Times p_100 order_100).bind fun r16 =>
    (play_Fits p_100 order_100).bind fun r17 =>
    (bif !decide (r16.2.2 = 0) then (some true) else (some (!decide (r17.2.2 = 0)))).bind fun b18 =>
    (bif b18 then (some true) else (some (!decide ((r16.1.length : Int) = (takes_100.length : Int))))).bind fun b19 =>
    (bif b19 then (some true) else (some (!decide ((r16.2.1.length : Int) = (takes_100.length : Int))))).bind fun b20 =>
    bif b20 then (some false)
    else ((deuceref08_Run p_100 order_100 takes_100).bind fun r21 =>
    deucelaw08_PlayReal_L2 order_100 r16.1 r16.2.1 r17.1 r21.1 r21.2 p_100 BIG 0)

def deucelaw08_PlayReal_L0 (order_0 : List ApiSeat) (takes_0 : List Int) (p_0 : ApiProgram) : Nat → Int → Option Bool
  | 0, _ => none
  | k0 + 1, i_0 =>
    bif decide (i_0 < (takes_0.length : Int)) then ((idx takes_0 i_0).bind fun x10 =>
    (idx p_0.Jobs i_0).bind fun x11 =>
    (bif decide (x10 < x11.Length.Low) then (some true) else ((idx takes_0 i_0).bind fun x12 =>
    (idx p_0.Jobs i_0).bind fun x13 =>
    some (decide (x13.Length.High < x12)))).bind fun b14 =>
    bif b14 then ((deucelaw08_works).bind fun r15 =>
    some r15)
    else ((deucelaw08_PlayReal_L0 order_0 takes_0 p_0 k0) (w64 (i_0 + 1))))
    else (deucelaw08_PlayReal_K0 order_0 takes_0 p_0)

def deucelaw08_PlayReal (p_0 : ApiProgram) (order_1 : List ApiSeat) (takes_2 : List Int) : Option Bool :=
    (deucelaw08_huge p_0).bind fun r2 =>
    (bif r2 then (some true) else ((deuceref08_Check p_0).bind fun r3 =>
    some (!decide (r3 = 0)))).bind fun b4 =>
    (bif b4 then (some true) else (some (decide (20 < (order_1.length : Int))))).bind fun b5 =>
    (bif b5 then (some true) else ((deuceref08_IsOrder p_0 order_1).bind fun r6 =>
    some (!r6))).bind fun b7 =>
    (bif b7 then (some true) else (some (!decide ((takes_2.length : Int) = (p_0.Jobs.length : Int))))).bind fun b8 =>
    bif b8 then ((deucelaw08_works).bind fun r9 =>
    some r9)
    else (deucelaw08_PlayReal_L0 order_1 takes_2 p_0 BIG 0)

def deucelaw08_Far (p_0 : ApiProgram) : Option Bool :=
    (deucelaw08_huge p_0).bind fun r2 =>
    (bif r2 then (some true) else ((deuceref08_Check p_0).bind fun r3 =>
    (bif decide (r3 = 0) then ((bif decide (4 < (p_0.Jobs.length : Int)) then (some true) else ((idx p_0.Days 0).bind fun x4 =>
    some (decide (4 < (w64 ((p_0.Days.length : Int) * (x4.length : Int))))))).bind fun b5 =>
    some b5) else (some false)).bind fun b6 =>
    some b6)).bind fun b7 =>
    some b7

def deucelaw08_ready (p_0 : ApiProgram) : Option Bool :=
    (deucelaw08_Far p_0).bind fun r2 =>
    (bif !r2 then ((deuceref08_Check p_0).bind fun r3 =>
    some (decide (r3 = 0))) else (some false)).bind fun b4 =>
    some b4

def deuceref08_Copy_K2 (o2_102 : ApiProgram) (o_102 : List (List ApiSpan)) (o_102_2 : List ApiJob) (o_102_3 : Int) : Option ApiProgram :=
    some (ApiProgram.mk o_102 o_102_3 o_102_2)

def deuceref08_Copy_L2 (p_2 : ApiProgram) (o2_2 : ApiProgram) (o_2 : List (List ApiSpan)) : Nat → Int → (List ApiJob) → Int → Option ApiProgram
  | 0, _, _, _ => none
  | k2 + 1, i_2, o_2_2, o_2_3 =>
    bif decide (i_2 < (p_2.Jobs.length : Int)) then ((idx p_2.Jobs i_2).bind fun x8 =>
    (app 8 ([] : List Int) x8.After).bind fun x10 =>
    (app 8 ([] : List Int) x8.With).bind fun x11 =>
    (app 80 o_2_2 ([(ApiJob.mk x8.Length x10 x11 x8.Due x8.Earliest)])).bind fun x12 =>
    (deuceref08_Copy_L2 p_2 o2_2 o_2 k2) (w64 (i_2 + 1)) x12 o_2_3)
    else (deuceref08_Copy_K2 o2_2 o_2 o_2_2 o_2_3)

def deuceref08_Copy_K0 (p_100 : ApiProgram) (o2_100 : ApiProgram) (o_100 : List (List ApiSpan)) (o_100_2 : List ApiJob) (o_100_3 : Int) : Option ApiProgram :=
    deuceref08_Copy_L2 p_100 o2_100 o_100 BIG 0 o_100_2 o_100_3

def deuceref08_Copy_L0 (p_0 : ApiProgram) (o2_0 : ApiProgram) (o_0_2 : List ApiJob) : Nat → Int → (List (List ApiSpan)) → Int → Option ApiProgram
  | 0, _, _, _ => none
  | k0 + 1, d_0, o_0, o_0_3 =>
    bif decide (d_0 < (p_0.Days.length : Int)) then ((idx p_0.Days d_0).bind fun x4 =>
    (app 16 ([] : List ApiSpan) x4).bind fun x5 =>
    (app 24 o_0 ([x5])).bind fun x6 =>
    (deuceref08_Copy_L0 p_0 o2_0 o_0_2 k0) (w64 (d_0 + 1)) x6 o_0_3)
    else (deuceref08_Copy_K0 p_0 o2_0 o_0 o_0_2 o_0_3)

def deuceref08_Copy (p_0 : ApiProgram) : Option ApiProgram :=
    deuceref08_Copy_L0 p_0 (ApiProgram.mk ([] : List (List ApiSpan)) 0 ([] : List ApiJob)) ([] : List ApiJob) BIG 0 ([] : List (List ApiSpan)) p_0.Rest

def deucelaw08_PlayEasier_K1 (again0 : Int → (List (List ApiSpan)) → Option Bool) (order_101 : List ApiSeat) (d_101 : Int) (p_101 : ApiProgram) (x_101 : Deucelaw08Ease) (o_101 : Int) (o68_101 : List (List ApiSpan)) (o68_101_2 : List ApiJob) : Option Bool :=
    again0 (w64 (d_101 + 1)) o68_101

def deucelaw08_PlayEasier_K2 (again0 : Int → (List (List ApiSpan)) → Option Bool) (order_102 : List ApiSeat) (d_102 : Int) (p_102 : ApiProgram) (x_102 : Deucelaw08Ease) (o_102 : Int) (o68_102 : List (List ApiSpan)) (o68_102_2 : List ApiJob) : Option Bool :=
    deucelaw08_PlayEasier_K1 again0 order_102 d_102 p_102 x_102 o_102 o68_102 o68_102_2

def deucelaw08_PlayEasier_L2 (again0 : Int → (List (List ApiSpan)) → Option Bool) (order_2 : List ApiSeat) (d_2 : Int) (p_2 : ApiProgram) (x_2 : Deucelaw08Ease) (o_2 : Int) (o68_2_2 : List ApiJob) : Nat → Int → (List (List ApiSpan)) → Option Bool
  | 0, _, _ => none
  | k2 + 1, c_2, o68_2 =>
    (idx o68_2 d_2).bind fun x13 =>
    bif decide (c_2 < (x13.length : Int)) then ((idx o68_2 d_2).bind fun x14 =>
    (idx x14 c_2).bind fun x15 =>
    (idx o68_2 d_2).bind fun x17 =>
    (idx x17 c_2).bind fun x18 =>
    (deucelaw08_PlayEasier_L2 again0 order_2 d_2 p_2 x_2 o_2 o68_2_2 k2) (w64 (c_2 + 1)) (o68_2.set d_2.toNat (x17.set c_2.toNat (ApiSpan.mk (max 0 (w64 (x15.Low - x_2.Open))) (min 1440 (w64 (x15.High + x_2.Close)))))))
    else (deucelaw08_PlayEasier_K2 again0 order_2 d_2 p_2 x_2 o_2 o68_2 o68_2_2)

def deucelaw08_PlayEasier_K6 : Option Bool :=
    (deucelaw08_works).bind fun r46 =>
    some r46

def deucelaw08_PlayEasier_L6 (k_6 : List ApiSpan) (l_6 : List ApiSpan) : Nat → Int → Option Bool
  | 0, _ => none
  | k6 + 1, t_6 =>
    bif decide (t_6 < (k_6.length : Int)) then ((idx l_6 t_6).bind fun x41 =>
    (idx k_6 t_6).bind fun x42 =>
    (bif decide (x42.High < x41.High) then (some true) else ((idx l_6 t_6).bind fun x43 =>
    (idx k_6 t_6).bind fun x44 =>
    some (decide (x44.Low < x43.Low)))).bind fun b45 =>
    bif b45 then (some false)
    else ((deucelaw08_PlayEasier_L6 k_6 l_6 k6) (w64 (t_6 + 1))))
    else (deucelaw08_PlayEasier_K6)

def deucelaw08_PlayEasier_K4 (order_104 : List ApiSeat) (p_104 : ApiProgram) (o_104 : Int) (o68_104 : List (List ApiSpan)) (o68_104_2 : List ApiJob) : Option Bool :=
    (play_Days p_104).bind fun r24 =>
    (play_Days (ApiProgram.mk o68_104 o_104 o68_104_2)).bind fun r25 =>
    (bif decide (r24.2 = 0) then ((bif !decide (r25.2 = 0) then (some true) else (some (decide (r24.1 < r25.1)))).bind fun b26 =>
    some b26) else (some false)).bind fun b27 =>
    bif b27 then (some false)
    else ((deuceref08_IsOrder p_104 order_104).bind fun r28 =>
    bif !r28 then ((deucelaw08_works).bind fun r29 =>
    some r29)
    else ((play_Fits p_104 order_104).bind fun r30 =>
    (play_Fits (ApiProgram.mk o68_104 o_104 o68_104_2) order_104).bind fun r31 =>
    (play_Times p_104 order_104).bind fun r32 =>
    (play_Times (ApiProgram.mk o68_104 o_104 o68_104_2) order_104).bind fun r33 =>
    (bif !decide (r30.2.2 = 0) then (some true) else (some (!decide (r31.2.2 = 0)))).bind fun b34 =>
    (bif b34 then (some true) else (some (!decide (r32.2.2 = 0)))).bind fun b35 =>
    (bif b35 then (some true) else (some (!decide (r33.2.2 = 0)))).bind fun b36 =>
    (bif b36 then (some true) else ((bif r30.1 then (some (!r31.1)) else (some false)).bind fun b37 =>
    some b37)).bind fun b38 =>
    (bif b38 then (some true) else (some (!decide ((r32.1.length : Int) = (r33.1.length : Int))))).bind fun b39 =>
    (bif b39 then (some true) else (some (!decide ((r32.1.length : Int) = (p_104.Jobs.length : Int))))).bind fun b40 =>
    bif b40 then (some false)
    else (deucelaw08_PlayEasier_L6 r32.1 r33.1 BIG 0)))

def deucelaw08_PlayEasier_L4 (order_4 : List ApiSeat) (p_4 : ApiProgram) (x_4 : Deucelaw08Ease) (o_4 : Int) (o68_4 : List (List ApiSpan)) : Nat → Int → (List ApiJob) → Option Bool
  | 0, _, _ => none
  | k4 + 1, i_4, o68_4_2 =>
    bif decide (i_4 < (o68_4_2.length : Int)) then ((idx o68_4_2 i_4).bind fun x19 =>
    (idx o68_4_2 i_4).bind fun x21 =>
    (idx (o68_4_2.set i_4.toNat (ApiJob.mk (ApiSpan.mk x21.Length.Low (max x19.Length.Low (w64 (x19.Length.High - x_4.Length)))) x21.After x21.With x21.Due x21.Earliest)) i_4).bind fun x22 =>
    (idx (o68_4_2.set i_4.toNat (ApiJob.mk (ApiSpan.mk x21.Length.Low (max x19.Length.Low (w64 (x19.Length.High - x_4.Length)))) x21.After x21.With x21.Due x21.Earliest)) i_4).bind fun x23 =>
    (deucelaw08_PlayEasier_L4 order_4 p_4 x_4 o_4 o68_4 k4) (w64 (i_4 + 1)) ((o68_4_2.set i_4.toNat (ApiJob.mk (ApiSpan.mk x21.Length.Low (max x19.Length.Low (w64 (x19.Length.High - x_4.Length)))) x21.After x21.With x21.Due x21.Earliest)).set i_4.toNat (ApiJob.mk x23.Length x23.After x23.With x23.Due (max 0 (w64 (x22.Earliest - x_4.Earliest))))))
    else (deucelaw08_PlayEasier_K4 order_4 p_4 o_4 o68_4 o68_4_2)

def deucelaw08_PlayEasier_K0 (order_100 : List ApiSeat) (p_100 : ApiProgram) (x_100 : Deucelaw08Ease) (o_100 : Int) (o68_100 : List (List ApiSpan)) (o68_100_2 : List ApiJob) : Option Bool :=
    deucelaw08_PlayEasier_L4 order_100 p_100 x_100 o_100 o68_100 BIG 0 o68_100_2

def deucelaw08_PlayEasier_L0 (order_0 : List ApiSeat) (p_0 : ApiProgram) (x_0 : Deucelaw08Ease) (o_0 : Int) (o68_0_2 : List ApiJob) : Nat → Int → (List (List ApiSpan)) → Option Bool
  | 0, _, _ => none
  | k0 + 1, d_0, o68_0 =>
    bif decide (d_0 < (o68_0.length : Int)) then (deucelaw08_PlayEasier_L2 (deucelaw08_PlayEasier_L0 order_0 p_0 x_0 o_0 o68_0_2 k0) order_0 d_0 p_0 x_0 o_0 o68_0_2 BIG 0 o68_0)
    else (deucelaw08_PlayEasier_K0 order_0 p_0 x_0 o_0 o68_0 o68_0_2)

def deucelaw08_PlayEasier (p_0 : ApiProgram) (order_1 : List ApiSeat) (x_2 : Deucelaw08Ease) : Option Bool :=
    (deucelaw08_ready p_0).bind fun r3 =>
    (bif !r3 then (some true) else (some (decide (20 < (order_1.length : Int))))).bind fun b4 =>
    (bif b4 then (some true) else (some (decide ((min (min (min (min x_2.Open x_2.Close) x_2.Rest) x_2.Length) x_2.Earliest) < 0)))).bind fun b5 =>
    (bif b5 then (some true) else (some (decide (1440 < (max (max (max (max x_2.Open x_2.Close) x_2.Rest) x_2.Length) x_2.Earliest))))).bind fun b6 =>
    bif b6 then ((deucelaw08_works).bind fun r7 =>
    some r7)
    else ((deuceref08_Copy p_0).bind fun r8 =>
    deucelaw08_PlayEasier_L0 order_1 p_0 x_2 (max 0 (w64 (p_0.Rest - x_2.Rest))) r8.Jobs BIG 0 r8.Days)

def deucelaw08_copied (l_0 : List ApiSeat) : Option ((List ApiSeat)) :=
    (app 24 ([] : List ApiSeat) l_0).bind fun x1 =>
    some x1

def deuceref08_lengths_K0 (out_100 : List Int) : Option ((List Int)) :=
    some out_100

def deuceref08_lengths_L0 (greatest_0 : Bool) (p_0 : ApiProgram) : Nat → Int → (List Int) → Option ((List Int))
  | 0, _, _ => none
  | k0 + 1, i_0, out_0 =>
    bif decide (i_0 < (p_0.Jobs.length : Int)) then ((idx p_0.Jobs i_0).bind fun x3 =>
    bif greatest_0 then ((idx p_0.Jobs i_0).bind fun x4 =>
    (app 8 out_0 ([x4.Length.High])).bind fun x5 =>
    (deuceref08_lengths_L0 greatest_0 p_0 k0) (w64 (i_0 + 1)) x5)
    else ((app 8 out_0 ([x3.Length.Low])).bind fun x7 =>
    (deuceref08_lengths_L0 greatest_0 p_0 k0) (w64 (i_0 + 1)) x7))
    else (deuceref08_lengths_K0 out_0)

def deuceref08_lengths (p_0 : ApiProgram) (greatest_1 : Bool) : Option ((List Int)) :=
    deuceref08_lengths_L0 greatest_1 p_0 BIG 0 ([] : List Int)

def deuceref08_Times_K0 (begins_100 : List ApiSpan) (ends_100 : List ApiSpan) : Option ((List ApiSpan) × (List ApiSpan) × Int) :=
    some (begins_100, ends_100, 0)

def deuceref08_Times_L0 (a_0 : List Int) (b_0 : List Int) (c_0 : List Int) (d_0 : List Int) (p_0 : ApiProgram) : Nat → Int → (List ApiSpan) → (List ApiSpan) → Option ((List ApiSpan) × (List ApiSpan) × Int)
  | 0, _, _, _ => none
  | k0 + 1, i_0, begins_0, ends_0 =>
    bif decide (i_0 < (p_0.Jobs.length : Int)) then ((idx a_0 i_0).bind fun x14 =>
    (idx c_0 i_0).bind fun x15 =>
    (app 16 begins_0 ([(ApiSpan.mk x14 x15)])).bind fun x16 =>
    (idx b_0 i_0).bind fun x18 =>
    (idx d_0 i_0).bind fun x19 =>
    (app 16 ends_0 ([(ApiSpan.mk x18 x19)])).bind fun x20 =>
    (deuceref08_Times_L0 a_0 b_0 c_0 d_0 p_0 k0) (w64 (i_0 + 1)) x16 x20)
    else (deuceref08_Times_K0 begins_0 ends_0)

def deuceref08_Times (p_0 : ApiProgram) (order_1 : List ApiSeat) : Option ((List ApiSpan) × (List ApiSpan) × Int) :=
    (deuceref08_Check p_0).bind fun r4 =>
    bif !decide (r4 = 0) then (some (([] : List ApiSpan), ([] : List ApiSpan), 80))
    else ((deuceref08_IsOrder p_0 order_1).bind fun r7 =>
    bif !r7 then (some (([] : List ApiSpan), ([] : List ApiSpan), 81))
    else ((deuceref08_lengths p_0 false).bind fun r10 =>
    (deuceref08_Run p_0 order_1 r10).bind fun r11 =>
    (deuceref08_lengths p_0 true).bind fun r12 =>
    (deuceref08_Run p_0 order_1 r12).bind fun r13 =>
    deuceref08_Times_L0 r11.1 r11.2 r13.1 r13.2 p_0 BIG 0 ([] : List ApiSpan) ([] : List ApiSpan)))

def deuceref08_late_K0 : Option Int :=
    some (-1)

def deuceref08_late_L0 (order_0 : List ApiSeat) (ends_0 : List Int) (p_0 : ApiProgram) : Nat → Int → Option Int
  | 0, _ => none
  | k0 + 1, i_0 =>
    bif decide (i_0 < (order_0.length : Int)) then ((idx order_0 i_0).bind fun x4 =>
    (idx ends_0 x4.Job).bind fun x6 =>
    (idx p_0.Days x4.Day).bind fun x7 =>
    (idx x7 x4.Court).bind fun x8 =>
    bif decide (x8.High < x6) then (some x4.Job)
    else ((deuceref08_late_L0 order_0 ends_0 p_0 k0) (w64 (i_0 + 1))))
    else (deuceref08_late_K0)

def deuceref08_late (p_0 : ApiProgram) (order_1 : List ApiSeat) : Option Int :=
    (deuceref08_lengths p_0 true).bind fun r2 =>
    (deuceref08_Run p_0 order_1 r2).bind fun r3 =>
    deuceref08_late_L0 order_1 r3.2 p_0 BIG 0

def deuceref08_Fits (p_0 : ApiProgram) (order_1 : List ApiSeat) : Option (Bool × Int × Int) :=
    (deuceref08_Check p_0).bind fun r2 =>
    bif !decide (r2 = 0) then (some (false, 0, 80))
    else ((deuceref08_IsOrder p_0 order_1).bind fun r3 =>
    bif !r3 then (some (false, 0, 81))
    else ((deuceref08_late p_0 order_1).bind fun r4 =>
    some (decide (r4 < 0), r4, 0)))

def deucelaw08_sameSpans_K0 : Option Bool :=
    some true

def deucelaw08_sameSpans_L0 (a_0 : List ApiSpan) (b_0 : List ApiSpan) : Nat → Int → Option Bool
  | 0, _ => none
  | k0 + 1, i_0 =>
    bif decide (i_0 < (a_0.length : Int)) then ((idx a_0 i_0).bind fun x1 =>
    (idx b_0 i_0).bind fun x2 =>
    bif !decide (x1 = x2) then (some false)
    else ((deucelaw08_sameSpans_L0 a_0 b_0 k0) (w64 (i_0 + 1))))
    else (deucelaw08_sameSpans_K0)

def deucelaw08_sameSpans (a_0 : List ApiSpan) (b_1 : List ApiSpan) : Option Bool :=
    bif !decide ((a_0.length : Int) = (b_1.length : Int)) then (some false)
    else (deucelaw08_sameSpans_L0 a_0 b_1 BIG 0)

def deucelaw08_sameInts_K0 : Option Bool :=
    some true

def deucelaw08_sameInts_L0 (a_0 : List Int) (b_0 : List Int) : Nat → Int → Option Bool
  | 0, _ => none
  | k0 + 1, i_0 =>
    bif decide (i_0 < (a_0.length : Int)) then ((idx a_0 i_0).bind fun x1 =>
    (idx b_0 i_0).bind fun x2 =>
    bif !decide (x1 = x2) then (some false)
    else ((deucelaw08_sameInts_L0 a_0 b_0 k0) (w64 (i_0 + 1))))
    else (deucelaw08_sameInts_K0)

def deucelaw08_sameInts (a_0 : List Int) (b_1 : List Int) : Option Bool :=
    bif !decide ((a_0.length : Int) = (b_1.length : Int)) then (some false)
    else (deucelaw08_sameInts_L0 a_0 b_1 BIG 0)

def deucelaw08_sameJobs_K0 : Option Bool :=
    some true

def deucelaw08_sameJobs_L0 (a_0 : List ApiJob) (b_0 : List ApiJob) : Nat → Int → Option Bool
  | 0, _ => none
  | k0 + 1, i_0 =>
    bif decide (i_0 < (a_0.length : Int)) then ((idx a_0 i_0).bind fun x1 =>
    (idx b_0 i_0).bind fun x2 =>
    (bif !decide (x1.Length = x2.Length) then (some true) else ((idx a_0 i_0).bind fun x3 =>
    (idx b_0 i_0).bind fun x4 =>
    (deucelaw08_sameInts x3.After x4.After).bind fun r5 =>
    some (!r5))).bind fun b6 =>
    (bif b6 then (some true) else ((idx a_0 i_0).bind fun x7 =>
    (idx b_0 i_0).bind fun x8 =>
    (deucelaw08_sameInts x7.With x8.With).bind fun r9 =>
    some (!r9))).bind fun b10 =>
    (bif b10 then (some true) else ((idx a_0 i_0).bind fun x11 =>
    (idx b_0 i_0).bind fun x12 =>
    some (!decide (x11.Due = x12.Due)))).bind fun b13 =>
    (bif b13 then (some true) else ((idx a_0 i_0).bind fun x14 =>
    (idx b_0 i_0).bind fun x15 =>
    some (!decide (x14.Earliest = x15.Earliest)))).bind fun b16 =>
    bif b16 then (some false)
    else ((deucelaw08_sameJobs_L0 a_0 b_0 k0) (w64 (i_0 + 1))))
    else (deucelaw08_sameJobs_K0)

def deucelaw08_sameJobs (a_0 : List ApiJob) (b_1 : List ApiJob) : Option Bool :=
    bif !decide ((a_0.length : Int) = (b_1.length : Int)) then (some false)
    else (deucelaw08_sameJobs_L0 a_0 b_1 BIG 0)

def deucelaw08_PlayTimes (p_0 : ApiProgram) (order_1 : List ApiSeat) : Option Bool :=
    (deucelaw08_huge p_0).bind fun r2 =>
    (bif r2 then (some true) else (some (decide (20 < (order_1.length : Int))))).bind fun b3 =>
    bif b3 then ((deucelaw08_works).bind fun r4 =>
    some r4)
    else ((deuceref08_Copy p_0).bind fun r5 =>
    (deucelaw08_copied order_1).bind fun r6 =>
    (play_Check r5).bind fun r8 =>
    (deuceref08_Check p_0).bind fun r9 =>
    bif !decide (r8 = r9) then (some false)
    else ((play_Times r5 r6).bind fun r10 =>
    (deuceref08_Times p_0 order_1).bind fun r11 =>
    (play_Fits r5 r6).bind fun r12 =>
    (deuceref08_Fits p_0 order_1).bind fun r13 =>
    (deucelaw08_sameSpans r10.1 r11.1).bind fun r14 =>
    (bif r14 then ((deucelaw08_sameSpans r10.2.1 r11.2.1).bind fun r15 =>
    some r15) else (some false)).bind fun b16 =>
    (bif b16 then (some (decide (r10.2.2 = r11.2.2))) else (some false)).bind fun b17 =>
    (bif b17 then (some (decide (r12.1 = r13.1))) else (some false)).bind fun b18 =>
    (bif b18 then (some (decide (r12.2.1 = r13.2.1))) else (some false)).bind fun b19 =>
    (bif b19 then (some (decide (r12.2.2 = r13.2.2))) else (some false)).bind fun b20 =>
    (bif b20 then ((deucelaw08_sameJobs r5.Jobs p_0.Jobs).bind fun r21 =>
    some r21) else (some false)).bind fun b22 =>
    (bif b22 then ((deucelaw08_works).bind fun r23 =>
    some r23) else (some false)).bind fun b24 =>
    some b24))

def play_Best (p_0 : ApiProgram) : Option ((List ApiSeat) × Int) :=
    (play_Check p_0).bind fun r2 =>
    bif !decide (r2 = 0) then (some (([] : List ApiSeat), r2))
    else ((play_best p_0).bind fun r3 =>
    bif !r3.2.2 then (some (([] : List ApiSeat), 3))
    else (some (r3.2.1, 0)))

def deucelaw08_PlayFew_K2 (best_102 : List ApiSeat) (p_102 : ApiProgram) : Option Bool :=
    (play_Fits p_102 best_102).bind fun r19 =>
    (bif decide (r19.2.2 = 0) then (some r19.1) else (some false)).bind fun b20 =>
    (bif b20 then ((deucelaw08_works).bind fun r21 =>
    some r21) else (some false)).bind fun b22 =>
    some b22

def deucelaw08_PlayFew_L2 (n_2 : Int) (best_2 : List ApiSeat) (p_2 : ApiProgram) : Nat → Int → Option Bool
  | 0, _ => none
  | k2 + 1, i_2 =>
    bif decide (i_2 < (best_2.length : Int)) then ((idx best_2 i_2).bind fun x18 =>
    bif decide (n_2 ≤ x18.Day) then (some false)
    else ((deucelaw08_PlayFew_L2 n_2 best_2 p_2 k2) (w64 (i_2 + 1))))
    else (deucelaw08_PlayFew_K2 best_2 p_2)

def deucelaw08_PlayFew_K0 (order_100 : List ApiSeat) (n_100 : Int) (e_100 : Int) (best_100 : List ApiSeat) (last_100 : Int) (p_100 : ApiProgram) : Option Bool :=
    (deuceref08_IsOrder p_100 order_100).bind fun r11 =>
    bif r11 then ((play_Fits p_100 order_100).bind fun r12 =>
    bif !decide (r12.2.2 = 0) then (some false)
    else (bif !decide (e_100 = 0) then ((bif !r12.1 then ((deucelaw08_works).bind fun r13 =>
    some r13) else (some false)).bind fun b14 =>
    some b14)
    else ((deuceref08_IsOrder p_100 best_100).bind fun r15 =>
    (bif !r15 then (some true) else ((bif r12.1 then (some (decide (last_100 < n_100))) else (some false)).bind fun b16 =>
    some b16)).bind fun b17 =>
    bif b17 then (some false)
    else (deucelaw08_PlayFew_L2 n_100 best_100 p_100 BIG 0))))
    else (bif !decide (e_100 = 0) then ((bif !r11 then ((deucelaw08_works).bind fun r23 =>
    some r23) else (some false)).bind fun b24 =>
    some b24)
    else ((deuceref08_IsOrder p_100 best_100).bind fun r25 =>
    (bif !r25 then (some true) else ((bif r11 then (some (decide (last_100 < n_100))) else (some false)).bind fun b26 =>
    some b26)).bind fun b27 =>
    bif b27 then (some false)
    else (deucelaw08_PlayFew_L2 n_100 best_100 p_100 BIG 0)))

def deucelaw08_PlayFew_L0 (order_0 : List ApiSeat) (n_0 : Int) (e_0 : Int) (best_0 : List ApiSeat) (p_0 : ApiProgram) : Nat → Int → Int → Option Bool
  | 0, _, _ => none
  | k0 + 1, last_0, i_0 =>
    bif decide (i_0 < (order_0.length : Int)) then ((idx order_0 i_0).bind fun x10 =>
    (deucelaw08_PlayFew_L0 order_0 n_0 e_0 best_0 p_0 k0) (max last_0 (w64 (x10.Day + 1))) (w64 (i_0 + 1)))
    else (deucelaw08_PlayFew_K0 order_0 n_0 e_0 best_0 last_0 p_0)

def deucelaw08_PlayFew (p_0 : ApiProgram) (order_1 : List ApiSeat) : Option Bool :=
    (deucelaw08_ready p_0).bind fun r2 =>
    (bif !r2 then (some true) else (some (decide (20 < (order_1.length : Int))))).bind fun b3 =>
    bif b3 then ((deucelaw08_works).bind fun r4 =>
    some r4)
    else ((play_Days p_0).bind fun r5 =>
    (play_Best p_0).bind fun r6 =>
    (bif !decide (r5.2 = r6.2) then (some true) else ((bif !decide (r5.2 = 0) then (some (!decide (r5.2 = 3))) else (some false)).bind fun b7 =>
    some b7)).bind fun b8 =>
    (bif b8 then (some true) else (some (decide (20 < (r6.1.length : Int))))).bind fun b9 =>
    bif b9 then (some false)
    else (deucelaw08_PlayFew_L0 order_1 r5.1 r5.2 r6.1 p_0 BIG 0 0))

def deuceref08_IsOld_K0 (old_100 : List ApiSeat) (p_100 : ApiProgram) : Option Bool :=
    some (decide ((old_100.length : Int) = (p_100.Jobs.length : Int)))

def deuceref08_IsOld_L0 (old_0 : List ApiSeat) (p_0 : ApiProgram) : Nat → Int → Option Bool
  | 0, _ => none
  | k0 + 1, i_0 =>
    bif decide (i_0 < (old_0.length : Int)) then ((idx old_0 i_0).bind fun x2 =>
    (deuceref08_within x2.Job 0 (w64 ((p_0.Jobs.length : Int) - 1))).bind fun r4 =>
    (bif !r4 then (some true) else ((sub old_0 0 i_0).bind fun x5 =>
    (deuceref08_has x5 x2.Job).bind fun r6 =>
    some r6)).bind fun b7 =>
    (bif b7 then (some true) else ((deuceref08_within x2.Day 0 2).bind fun r8 =>
    some (!r8))).bind fun b9 =>
    (bif b9 then (some true) else ((deuceref08_within x2.Court 0 2).bind fun r10 =>
    some (!r10))).bind fun b11 =>
    bif b11 then (some false)
    else ((deuceref08_IsOld_L0 old_0 p_0 k0) (w64 (i_0 + 1))))
    else (deuceref08_IsOld_K0 old_0 p_0)

def deuceref08_IsOld (p_0 : ApiProgram) (old_1 : List ApiSeat) : Option Bool :=
    deuceref08_IsOld_L0 old_1 p_0 BIG 0

def slices_IndexFunc_api_Seat_K0 : Option Int :=
    some (-1)

def slices_IndexFunc_api_Seat_L0 (s_0 : List ApiSeat) (f_0 : ApiSeat → Option Bool) (t7_0 : Int) : Nat → Int → Option Int
  | 0, _ => none
  | k0 + 1, t8_0 =>
    bif decide (t8_0 < t7_0) then ((idx s_0 t8_0).bind fun x1 =>
    (f_0 x1).bind fun r2 =>
    bif r2 then (some t8_0)
    else ((slices_IndexFunc_api_Seat_L0 s_0 f_0 t7_0 k0) (w64 (t8_0 + 1))))
    else (slices_IndexFunc_api_Seat_K0)

def slices_IndexFunc_api_Seat (s_0 : List ApiSeat) (f_1 : ApiSeat → Option Bool) : Option Int :=
    slices_IndexFunc_api_Seat_L0 s_0 f_1 (s_0.length : Int) BIG 0

def slices_ContainsFunc_api_Seat (s_0 : List ApiSeat) (f_1 : ApiSeat → Option Bool) : Option Bool :=
    (slices_IndexFunc_api_Seat s_0 f_1).bind fun r1 =>
    some (decide (0 ≤ r1))

def play_isOld_1 (o_0 : ApiSeat) (c_1 : ApiSeat) : Option Bool :=
    some (decide (o_0.Job = c_1.Job))

def play_isOld_K0 (old_100 : List ApiSeat) (p_100 : ApiProgram) : Option Bool :=
    some (decide ((old_100.length : Int) = (p_100.Jobs.length : Int)))

def play_isOld_L0 (old_0 : List ApiSeat) (t8_0 : List ApiSeat) (t9_0 : Int) (p_0 : ApiProgram) : Nat → Int → Option Bool
  | 0, _ => none
  | k0 + 1, t10_0 =>
    bif decide (t10_0 < t9_0) then ((idx t8_0 t10_0).bind fun x2 =>
    (sub old_0 0 t10_0).bind fun x4 =>
    (slices_ContainsFunc_api_Seat x4 (fun y5 => play_isOld_1 y5 x2)).bind fun r6 =>
    (bif r6 then (some true) else ((play_within x2.Job 0 (w64 ((p_0.Jobs.length : Int) - 1))).bind fun r7 =>
    some (!r7))).bind fun b8 =>
    (bif b8 then (some true) else ((play_within x2.Day 0 2).bind fun r9 =>
    some (!r9))).bind fun b10 =>
    (bif b10 then (some true) else ((play_within x2.Court 0 2).bind fun r11 =>
    some (!r11))).bind fun b12 =>
    bif b12 then (some false)
    else ((play_isOld_L0 old_0 t8_0 t9_0 p_0 k0) (w64 (t10_0 + 1))))
    else (play_isOld_K0 old_0 p_0)

def play_isOld (p_0 : ApiProgram) (old_1 : List ApiSeat) : Option Bool :=
    play_isOld_L0 old_1 old_1 (old_1.length : Int) p_0 BIG 0

def play_repair_K0 : Option (Int × (List ApiSeat) × Int) :=
    some (0, ([] : List ApiSeat), 3)

def play_repair_L0 (old_0 : List ApiSeat) (t23_0 : Int) (p_0 : ApiProgram) : Nat → Int → Option (Int × (List ApiSeat) × Int)
  | 0, _ => none
  | k0 + 1, t24_0 =>
    bif decide (t24_0 < t23_0) then ((app 24 ([] : List ApiSeat) old_0).bind fun x4 =>
    (play_order p_0 (p_0.Days.length : Int) (some x4) t24_0).bind fun r5 =>
    bif r5.2 then (some (t24_0, r5.1, 0))
    else ((play_repair_L0 old_0 t23_0 p_0 k0) (w64 (t24_0 + 1))))
    else (play_repair_K0)

def play_repair (p_0 : ApiProgram) (old_1 : List ApiSeat) : Option (Int × (List ApiSeat) × Int) :=
    (play_Check p_0).bind fun r2 =>
    bif !decide (r2 = 0) then (some (0, ([] : List ApiSeat), r2))
    else ((play_isOld p_0 old_1).bind fun r3 =>
    bif !r3 then (some (0, ([] : List ApiSeat), 81))
    else (play_repair_L0 old_1 (w64 ((p_0.Jobs.length : Int) + 1)) p_0 BIG 0))

def play_Fewest (p_0 : ApiProgram) (old_1 : List ApiSeat) : Option (Int × Int) :=
    (play_repair p_0 old_1).bind fun r2 =>
    some (r2.1, r2.2.2)

def play_Repair (p_0 : ApiProgram) (old_1 : List ApiSeat) : Option ((List ApiSeat) × Int) :=
    (play_repair p_0 old_1).bind fun r2 =>
    some (r2.2.1, r2.2.2)

def deuceref08_moved_K1 (again0 : Int → Int → Option Int) (order_101 : List ApiSeat) (old_101 : List ApiSeat) (n_101 : Int) (i_101 : Int) : Option Int :=
    again0 n_101 (w64 (i_101 + 1))

def deuceref08_moved_K2 (again0 : Int → Int → Option Int) (order_102 : List ApiSeat) (old_102 : List ApiSeat) (n_102 : Int) (i_102 : Int) : Option Int :=
    deuceref08_moved_K1 again0 order_102 old_102 n_102 i_102

def deuceref08_moved_L2 (again0 : Int → Int → Option Int) (order_2 : List ApiSeat) (old_2 : List ApiSeat) (i_2 : Int) : Nat → Int → Int → Option Int
  | 0, _, _ => none
  | k2 + 1, n_2, k_2 =>
    bif decide (k_2 < (old_2.length : Int)) then ((idx old_2 k_2).bind fun x1 =>
    (idx order_2 i_2).bind fun x2 =>
    (bif decide (x1.Job = x2.Job) then ((idx old_2 k_2).bind fun x3 =>
    (idx order_2 i_2).bind fun x4 =>
    (bif !decide (x3.Day = x4.Day) then (some true) else ((idx old_2 k_2).bind fun x5 =>
    (idx order_2 i_2).bind fun x6 =>
    some (!decide (x5.Court = x6.Court)))).bind fun b7 =>
    some b7) else (some false)).bind fun b8 =>
    bif b8 then ((deuceref08_moved_L2 again0 order_2 old_2 i_2 k2) (w64 (n_2 + 1)) (w64 (k_2 + 1)))
    else ((deuceref08_moved_L2 again0 order_2 old_2 i_2 k2) n_2 (w64 (k_2 + 1))))
    else (deuceref08_moved_K2 again0 order_2 old_2 n_2 i_2)

def deuceref08_moved_K0 (n_100 : Int) : Option Int :=
    some n_100

def deuceref08_moved_L0 (order_0 : List ApiSeat) (old_0 : List ApiSeat) : Nat → Int → Int → Option Int
  | 0, _, _ => none
  | k0 + 1, n_0, i_0 =>
    bif decide (i_0 < (order_0.length : Int)) then (deuceref08_moved_L2 (deuceref08_moved_L0 order_0 old_0 k0) order_0 old_0 i_0 BIG n_0 0)
    else (deuceref08_moved_K0 n_0)

def deuceref08_moved (order_0 : List ApiSeat) (old_1 : List ApiSeat) : Option Int :=
    deuceref08_moved_L0 order_0 old_1 BIG 0 0

def deuceref08_Moved (order_0 : List ApiSeat) (old_1 : List ApiSeat) : Option Int :=
    (deuceref08_moved order_0 old_1).bind fun r1 =>
    some r1

def deucelaw08_PlayMoves (p_0 : ApiProgram) (old_1 : List ApiSeat) (other_2 : List ApiSeat) : Option Bool :=
    (deucelaw08_ready p_0).bind fun r2 =>
    (bif !r2 then (some true) else ((deuceref08_IsOld p_0 old_1).bind fun r3 =>
    some (!r3))).bind fun b4 =>
    (bif b4 then (some true) else (some (decide (20 < (other_2.length : Int))))).bind fun b5 =>
    bif b5 then ((deucelaw08_works).bind fun r6 =>
    some r6)
    else ((play_Fewest p_0 old_1).bind fun r7 =>
    (play_Repair p_0 old_1).bind fun r8 =>
    (bif !decide (r7.2 = r8.2) then (some true) else ((bif !decide (r7.2 = 0) then (some (!decide (r7.2 = 3))) else (some false)).bind fun b9 =>
    some b9)).bind fun b10 =>
    (bif b10 then (some true) else (some (decide (20 < (r8.1.length : Int))))).bind fun b11 =>
    bif b11 then (some false)
    else ((deuceref08_IsOrder p_0 other_2).bind fun r12 =>
    bif r12 then ((play_Fits p_0 other_2).bind fun r13 =>
    bif !decide (r13.2.2 = 0) then (some false)
    else (bif !decide (r7.2 = 0) then ((bif !r13.1 then ((deucelaw08_works).bind fun r14 =>
    some r14) else (some false)).bind fun b15 =>
    some b15)
    else ((deuceref08_IsOrder p_0 r8.1).bind fun r16 =>
    (bif !r16 then (some true) else ((deuceref08_Moved r8.1 old_1).bind fun r17 =>
    some (!decide (r17 = r7.1)))).bind fun b18 =>
    (bif b18 then (some true) else ((bif r13.1 then ((deuceref08_Moved other_2 old_1).bind fun r19 =>
    some (decide (r19 < r7.1))) else (some false)).bind fun b20 =>
    some b20)).bind fun b21 =>
    bif b21 then (some false)
    else ((play_Fits p_0 r8.1).bind fun r22 =>
    (bif !decide (r22.2.2 = 0) then (some true) else (some (!r22.1))).bind fun b23 =>
    bif b23 then (some false)
    else ((deuceref08_IsOrder p_0 old_1).bind fun r24 =>
    bif r24 then ((play_Fits p_0 old_1).bind fun r25 =>
    (bif !decide (r25.2.2 = 0) then (some true) else ((bif r25.1 then (some (!decide (r7.1 = 0))) else (some false)).bind fun b26 =>
    some b26)).bind fun b27 =>
    bif b27 then (some false)
    else ((deucelaw08_works).bind fun r28 =>
    some r28))
    else ((deucelaw08_works).bind fun r29 =>
    some r29))))))
    else (bif !decide (r7.2 = 0) then ((bif !false then ((deucelaw08_works).bind fun r30 =>
    some r30) else (some false)).bind fun b31 =>
    some b31)
    else ((deuceref08_IsOrder p_0 r8.1).bind fun r32 =>
    (bif !r32 then (some true) else ((deuceref08_Moved r8.1 old_1).bind fun r33 =>
    some (!decide (r33 = r7.1)))).bind fun b34 =>
    (bif b34 then (some true) else ((bif false then ((deuceref08_Moved other_2 old_1).bind fun r35 =>
    some (decide (r35 < r7.1))) else (some false)).bind fun b36 =>
    some b36)).bind fun b37 =>
    bif b37 then (some false)
    else ((play_Fits p_0 r8.1).bind fun r38 =>
    (bif !decide (r38.2.2 = 0) then (some true) else (some (!r38.1))).bind fun b39 =>
    bif b39 then (some false)
    else ((deuceref08_IsOrder p_0 old_1).bind fun r40 =>
    bif r40 then ((play_Fits p_0 old_1).bind fun r41 =>
    (bif !decide (r41.2.2 = 0) then (some true) else ((bif r41.1 then (some (!decide (r7.1 = 0))) else (some false)).bind fun b42 =>
    some b42)).bind fun b43 =>
    bif b43 then (some false)
    else ((deucelaw08_works).bind fun r44 =>
    some r44))
    else ((deucelaw08_works).bind fun r45 =>
    some r45)))))))

def deuceref08_fewest_K3 (againR : ApiProgram → (List ApiSeat) → (List ApiSeat) → Int → Int → Option Int) (again0 : Int → Int → Option Int) (again2 : Int → Int → Option Int) (first_103 : List ApiSeat) (old_103 : List ApiSeat) (days_103 : Int) (best_103 : Int) (job_103 : Int) (d_103 : Int) (p_103 : ApiProgram) : Option Int :=
    again2 best_103 (w64 (d_103 + 1))

def deuceref08_fewest_K4 (againR : ApiProgram → (List ApiSeat) → (List ApiSeat) → Int → Int → Option Int) (again0 : Int → Int → Option Int) (again2 : Int → Int → Option Int) (first_104 : List ApiSeat) (old_104 : List ApiSeat) (days_104 : Int) (best_104 : Int) (job_104 : Int) (d_104 : Int) (p_104 : ApiProgram) : Option Int :=
    deuceref08_fewest_K3 againR again0 again2 first_104 old_104 days_104 best_104 job_104 d_104 p_104

def deuceref08_fewest_L4 (againR : ApiProgram → (List ApiSeat) → (List ApiSeat) → Int → Int → Option Int) (again0 : Int → Int → Option Int) (again2 : Int → Int → Option Int) (first_4 : List ApiSeat) (old_4 : List ApiSeat) (days_4 : Int) (job_4 : Int) (d_4 : Int) (p_4 : ApiProgram) : Nat → Int → Int → Option Int
  | 0, _, _ => none
  | k4 + 1, best_4, c_4 =>
    (idx p_4.Days d_4).bind fun x7 =>
    bif decide (c_4 < (x7.length : Int)) then ((deuceref08_MayCome p_4 first_4 (ApiSeat.mk job_4 d_4 c_4)).bind fun r9 =>
    bif r9 then ((app 24 ([] : List ApiSeat) first_4).bind fun x11 =>
    (app 24 x11 ([(ApiSeat.mk job_4 d_4 c_4)])).bind fun x13 =>
    (againR p_4 x13 old_4 days_4 best_4).bind fun r15 =>
    (deuceref08_fewest_L4 againR again0 again2 first_4 old_4 days_4 job_4 d_4 p_4 k4) r15 (w64 (c_4 + 1)))
    else ((deuceref08_fewest_L4 againR again0 again2 first_4 old_4 days_4 job_4 d_4 p_4 k4) best_4 (w64 (c_4 + 1))))
    else (deuceref08_fewest_K4 againR again0 again2 first_4 old_4 days_4 best_4 job_4 d_4 p_4)

def deuceref08_fewest_K1 (againR : ApiProgram → (List ApiSeat) → (List ApiSeat) → Int → Int → Option Int) (again0 : Int → Int → Option Int) (first_101 : List ApiSeat) (old_101 : List ApiSeat) (days_101 : Int) (best_101 : Int) (job_101 : Int) (p_101 : ApiProgram) : Option Int :=
    again0 best_101 (w64 (job_101 + 1))

def deuceref08_fewest_K2 (againR : ApiProgram → (List ApiSeat) → (List ApiSeat) → Int → Int → Option Int) (again0 : Int → Int → Option Int) (first_102 : List ApiSeat) (old_102 : List ApiSeat) (days_102 : Int) (best_102 : Int) (job_102 : Int) (p_102 : ApiProgram) : Option Int :=
    deuceref08_fewest_K1 againR again0 first_102 old_102 days_102 best_102 job_102 p_102

def deuceref08_fewest_L2 (againR : ApiProgram → (List ApiSeat) → (List ApiSeat) → Int → Int → Option Int) (again0 : Int → Int → Option Int) (first_2 : List ApiSeat) (old_2 : List ApiSeat) (days_2 : Int) (job_2 : Int) (p_2 : ApiProgram) : Nat → Int → Int → Option Int
  | 0, _, _ => none
  | k2 + 1, best_2, d_2 =>
    bif decide (d_2 < (min days_2 (p_2.Days.length : Int))) then (deuceref08_fewest_L4 againR again0 (deuceref08_fewest_L2 againR again0 first_2 old_2 days_2 job_2 p_2 k2) first_2 old_2 days_2 job_2 d_2 p_2 BIG best_2 0)
    else (deuceref08_fewest_K2 againR again0 first_2 old_2 days_2 best_2 job_2 p_2)

def deuceref08_fewest_K0 (againR : ApiProgram → (List ApiSeat) → (List ApiSeat) → Int → Int → Option Int) (best_100 : Int) : Option Int :=
    some best_100

def deuceref08_fewest_L0 (againR : ApiProgram → (List ApiSeat) → (List ApiSeat) → Int → Int → Option Int) (first_0 : List ApiSeat) (old_0 : List ApiSeat) (days_0 : Int) (p_0 : ApiProgram) : Nat → Int → Int → Option Int
  | 0, _, _ => none
  | k0 + 1, best_0, job_0 =>
    bif decide (job_0 < (p_0.Jobs.length : Int)) then (deuceref08_fewest_L2 againR (deuceref08_fewest_L0 againR first_0 old_0 days_0 p_0 k0) first_0 old_0 days_0 job_0 p_0 BIG best_0 0)
    else (deuceref08_fewest_K0 againR best_0)

def deuceref08_fewest_r : Nat → ApiProgram → (List ApiSeat) → (List ApiSeat) → Int → Int → Option Int
  | 0, _, _, _, _, _ => none
  | kr + 1, p_0, first_1, old_2, days_3, best_4 =>
    (deuceref08_moved first_1 old_2).bind fun r2 =>
    (bif decide (best_4 ≤ r2) then (some true) else ((bif decide (0 < (first_1.length : Int)) then ((deuceref08_late p_0 first_1).bind fun r3 =>
    some (decide (0 ≤ r3))) else (some false)).bind fun b4 =>
    some b4)).bind fun b5 =>
    bif b5 then (some best_4)
    else (bif decide ((first_1.length : Int) = (p_0.Jobs.length : Int)) then ((deuceref08_moved first_1 old_2).bind fun r6 =>
    some r6)
    else (deuceref08_fewest_L0 (deuceref08_fewest_r kr) first_1 old_2 days_3 p_0 BIG best_4 0))

def deuceref08_fewest : ApiProgram → (List ApiSeat) → (List ApiSeat) → Int → Int → Option Int := deuceref08_fewest_r BIG

def deuceref08_can (p_0 : ApiProgram) (days_1 : Int) : Option Bool :=
    (deuceref08_fewest p_0 ([] : List ApiSeat) ([] : List ApiSeat) days_1 1).bind fun r2 =>
    some (decide (r2 = 0))

def deuceref08_days_K0 : Option Int :=
    some (-1)

def deuceref08_days_L0 (p_0 : ApiProgram) : Nat → Int → Option Int
  | 0, _ => none
  | k0 + 1, n_0 =>
    bif decide (n_0 ≤ (p_0.Days.length : Int)) then ((deuceref08_can p_0 n_0).bind fun r2 =>
    bif r2 then (some n_0)
    else ((deuceref08_days_L0 p_0 k0) (w64 (n_0 + 1))))
    else (deuceref08_days_K0)

def deuceref08_days (p_0 : ApiProgram) : Option Int :=
    deuceref08_days_L0 p_0 BIG 0

def deuceref08_Days (p_0 : ApiProgram) : Option (Int × Int) :=
    (deuceref08_Check p_0).bind fun r2 =>
    bif !decide (r2 = 0) then (some (0, 80))
    else ((deuceref08_days p_0).bind fun r3 =>
    bif decide (r3 < 0) then (some (0, 3))
    else (some (r3, 0)))

def deuceref08_Fewest (p_0 : ApiProgram) (old_1 : List ApiSeat) : Option (Int × Int) :=
    (deuceref08_Check p_0).bind fun r2 =>
    bif !decide (r2 = 0) then (some (0, 80))
    else ((deuceref08_IsOld p_0 old_1).bind fun r3 =>
    bif !r3 then (some (0, 81))
    else ((deuceref08_fewest p_0 ([] : List ApiSeat) old_1 (p_0.Days.length : Int) (w64 ((p_0.Jobs.length : Int) + 1))).bind fun r4 =>
    bif decide ((p_0.Jobs.length : Int) < r4) then (some (0, 3))
    else (some (r4, 0))))

def deucelaw08_fits_K0 (isv_100 : Bool) (e_100 : Int) : Option Bool :=
    (bif decide (e_100 = 0) then (some isv_100) else (some false)).bind fun b4 =>
    some b4

def deucelaw08_fits_L0 (order_0 : List ApiSeat) (days_0 : Int) (isv_0 : Bool) (e_0 : Int) : Nat → Int → Option Bool
  | 0, _ => none
  | k0 + 1, i_0 =>
    bif decide (i_0 < (order_0.length : Int)) then ((idx order_0 i_0).bind fun x3 =>
    bif decide (days_0 ≤ x3.Day) then (some false)
    else ((deucelaw08_fits_L0 order_0 days_0 isv_0 e_0 k0) (w64 (i_0 + 1))))
    else (deucelaw08_fits_K0 isv_0 e_0)

def deucelaw08_fits (p_0 : ApiProgram) (order_1 : List ApiSeat) (days_2 : Int) : Option Bool :=
    (deuceref08_Fits p_0 order_1).bind fun r2 =>
    deucelaw08_fits_L0 order_1 days_2 r2.1 r2.2.2 BIG 0

def deucelaw08_PlayBest (p_0 : ApiProgram) (old_1 : List ApiSeat) : Option Bool :=
    (deucelaw08_Far p_0).bind fun r2 =>
    (bif r2 then (some true) else (some (decide (20 < (old_1.length : Int))))).bind fun b3 =>
    bif b3 then ((deucelaw08_works).bind fun r4 =>
    some r4)
    else ((deuceref08_Copy p_0).bind fun r5 =>
    (play_Best r5).bind fun r6 =>
    (deuceref08_Days p_0).bind fun r7 =>
    (deuceref08_Copy p_0).bind fun r8 =>
    (deucelaw08_copied old_1).bind fun r9 =>
    (play_Repair r8 r9).bind fun r10 =>
    (deuceref08_Fewest p_0 old_1).bind fun r11 =>
    (bif !decide (r6.2 = r7.2) then (some true) else (some (!decide (r10.2 = r11.2)))).bind fun b12 =>
    (bif b12 then (some true) else (some (decide (20 < (r6.1.length : Int))))).bind fun b13 =>
    (bif b13 then (some true) else (some (decide (20 < (r10.1.length : Int))))).bind fun b14 =>
    (bif b14 then (some true) else ((bif !decide (r6.2 = 0) then (some (decide (0 < (r6.1.length : Int)))) else (some false)).bind fun b15 =>
    some b15)).bind fun b16 =>
    (bif b16 then (some true) else ((bif !decide (r10.2 = 0) then (some (decide (0 < (r10.1.length : Int)))) else (some false)).bind fun b17 =>
    some b17)).bind fun b18 =>
    bif b18 then (some false)
    else ((bif decide (r6.2 = 0) then ((deucelaw08_fits p_0 r6.1 r7.1).bind fun r19 =>
    some (!r19)) else (some false)).bind fun b20 =>
    (bif b20 then (some true) else ((bif decide (r10.2 = 0) then ((deucelaw08_fits p_0 r10.1 3).bind fun r21 =>
    (bif !r21 then (some true) else ((deuceref08_Moved r10.1 old_1).bind fun r22 =>
    some (!decide (r22 = r11.1)))).bind fun b23 =>
    some b23) else (some false)).bind fun b24 =>
    some b24)).bind fun b25 =>
    bif b25 then (some false)
    else ((deucelaw08_works).bind fun r26 =>
    some r26)))

def play_due_1_K0 (out_100 : List Int) : Option ((List Int)) :=
    some out_100

def play_due_1_L0 (t1_0 : List Int) (t2_0 : List Int) (t8_0 : List Int) (t9_0 : Int) : Nat → Int → (List Int) → Option ((List Int))
  | 0, _, _ => none
  | k0 + 1, t10_0, out_0 =>
    bif decide (t10_0 < t9_0) then ((idx t8_0 t10_0).bind fun x2 =>
    (idx t1_0 x2).bind fun x3 =>
    bif decide (x3 = 1) then ((idx t2_0 x2).bind fun x4 =>
    (app 8 out_0 ([x4])).bind fun x5 =>
    (play_due_1_L0 t1_0 t2_0 t8_0 t9_0 k0) (w64 (t10_0 + 1)) x5)
    else ((play_due_1_L0 t1_0 t2_0 t8_0 t9_0 k0) (w64 (t10_0 + 1)) out_0))
    else (play_due_1_K0 out_0)

def play_due_1 (l_0 : List Int) (c_1 : List Int) (c_2 : List Int) : Option ((List Int)) :=
    play_due_1_L0 c_1 c_2 l_0 (l_0.length : Int) BIG 0 ([] : List Int)

def play_due_K1 (again0 : Int → (List Int) → Option ApiProgram) (day_101 : Int) (i_101 : Int) (p_101 : ApiProgram) (o4_101 : ApiProgram) (o20_101 : List Int) : Option ApiProgram :=
    again0 (w64 (i_101 - 1)) o20_101

def play_due_K2 (again0 : Int → (List Int) → Option ApiProgram) (day_102 : Int) (i_102 : Int) (p_102 : ApiProgram) (o4_102 : ApiProgram) (o20_102 : List Int) : Option ApiProgram :=
    play_due_K1 again0 day_102 i_102 p_102 o4_102 o20_102

def play_due_L2 (again0 : Int → (List Int) → Option ApiProgram) (day_2 : Int) (i_2 : Int) (t50_2 : List Int) (t51_2 : Int) (p_2 : ApiProgram) (o4_2 : ApiProgram) : Nat → Int → (List Int) → Option ApiProgram
  | 0, _, _ => none
  | k2 + 1, t52_2, o20_2 =>
    bif decide (t52_2 < t51_2) then ((idx t50_2 t52_2).bind fun x10 =>
    (idx o20_2 x10).bind fun x11 =>
    (play_due_L2 again0 day_2 i_2 t50_2 t51_2 p_2 o4_2 k2) (w64 (t52_2 + 1)) (o20_2.set x10.toNat 1))
    else (play_due_K2 again0 day_2 i_2 p_2 o4_2 o20_2)

def play_due_K6 (o4_106 : ApiProgram) (o_106 : List ApiJob) (o_106_2 : List (List ApiSpan)) (o_106_3 : Int) : Option ApiProgram :=
    some (ApiProgram.mk o_106_2 o_106_3 o_106)

def play_due_L6 (stays_6 : List Int) (left_6 : List Int) (left_6_2 : List Int) (t83_6 : List ApiJob) (t84_6 : Int) (o4_6 : ApiProgram) : Nat → Int → (List ApiJob) → (List (List ApiSpan)) → Int → Option ApiProgram
  | 0, _, _, _, _ => none
  | k6 + 1, t85_6, o_6, o_6_2, o_6_3 =>
    bif decide (t85_6 < t84_6) then ((idx t83_6 t85_6).bind fun x21 =>
    (idx stays_6 t85_6).bind fun x23 =>
    bif decide (x23 = 1) then ((play_due_1 x21.After left_6 left_6_2).bind fun r24 =>
    (play_due_1 x21.With left_6 left_6_2).bind fun r25 =>
    (app 80 o_6 ([(ApiJob.mk x21.Length r24 r25 x21.Due x21.Earliest)])).bind fun x26 =>
    (play_due_L6 stays_6 left_6 left_6_2 t83_6 t84_6 o4_6 k6) (w64 (t85_6 + 1)) x26 o_6_2 o_6_3)
    else ((play_due_L6 stays_6 left_6 left_6_2 t83_6 t84_6 o4_6 k6) (w64 (t85_6 + 1)) o_6 o_6_2 o_6_3))
    else (play_due_K6 o4_6 o_6 o_6_2 o_6_3)

def play_due_K4 (p_104 : ApiProgram) (o4_104 : ApiProgram) (o20_104 : List Int) (o63_104 : List Int) : Option ApiProgram :=
    play_due_L6 o20_104 o20_104 o63_104 p_104.Jobs (p_104.Jobs.length : Int) o4_104 BIG 0 ([] : List ApiJob) p_104.Days p_104.Rest

def play_due_L4 (t65_4 : Int) (p_4 : ApiProgram) (o4_4 : ApiProgram) (o20_4 : List Int) : Nat → Int → Int → (List Int) → Option ApiProgram
  | 0, _, _, _ => none
  | k4 + 1, many_4, t66_4, o63_4 =>
    bif decide (t66_4 < t65_4) then ((idx o20_4 t66_4).bind fun x17 =>
    (idx o63_4 t66_4).bind fun x18 =>
    (play_due_L4 t65_4 p_4 o4_4 o20_4 k4) (w64 (many_4 + x17)) (w64 (t66_4 + 1)) (o63_4.set t66_4.toNat many_4))
    else (play_due_K4 p_4 o4_4 o20_4 o63_4)

def play_due_K0 (p_100 : ApiProgram) (o4_100 : ApiProgram) (o20_100 : List Int) : Option ApiProgram :=
    (mk 8 (p_100.Jobs.length : Int) 0).bind fun x14 =>
    play_due_L4 (o20_100.length : Int) p_100 o4_100 o20_100 BIG 0 0 x14

def play_due_L0 (day_0 : Int) (p_0 : ApiProgram) (o4_0 : ApiProgram) : Nat → Int → (List Int) → Option ApiProgram
  | 0, _, _ => none
  | k0 + 1, i_0, o20_0 =>
    bif decide (0 ≤ i_0) then ((idx p_0.Jobs i_0).bind fun x6 =>
    bif decide (x6.Due ≤ day_0) then ((idx o20_0 i_0).bind fun x7 =>
    (idx (o20_0.set i_0.toNat 1) i_0).bind fun x8 =>
    bif decide (x8 = 1) then ((idx p_0.Jobs i_0).bind fun x9 =>
    play_due_L2 (play_due_L0 day_0 p_0 o4_0 k0) day_0 i_0 x9.After (x9.After.length : Int) p_0 o4_0 BIG 0 (o20_0.set i_0.toNat 1))
    else (play_due_K1 (play_due_L0 day_0 p_0 o4_0 k0) day_0 i_0 p_0 o4_0 (o20_0.set i_0.toNat 1)))
    else ((idx o20_0 i_0).bind fun x12 =>
    bif decide (x12 = 1) then ((idx p_0.Jobs i_0).bind fun x13 =>
    play_due_L2 (play_due_L0 day_0 p_0 o4_0 k0) day_0 i_0 x13.After (x13.After.length : Int) p_0 o4_0 BIG 0 o20_0)
    else (play_due_K1 (play_due_L0 day_0 p_0 o4_0 k0) day_0 i_0 p_0 o4_0 o20_0)))
    else (play_due_K0 p_0 o4_0 o20_0)

def play_due (p_0 : ApiProgram) (day_1 : Int) : Option ApiProgram :=
    (mk 8 (p_0.Jobs.length : Int) 0).bind fun x3 =>
    play_due_L0 day_1 p_0 (ApiProgram.mk ([] : List (List ApiSpan)) 0 ([] : List ApiJob)) BIG (w64 ((p_0.Jobs.length : Int) - 1)) x3

def play_Stuck_K0 : Option (Int × Int) :=
    some ((-1), 0)

def play_Stuck_L0 (p_0 : ApiProgram) : Nat → Int → Option (Int × Int)
  | 0, _ => none
  | k0 + 1, t14_0 =>
    bif decide (t14_0 < 3) then ((play_due p_0 t14_0).bind fun r3 =>
    (play_best r3).bind fun r4 =>
    bif !r4.2.2 then (some (t14_0, 0))
    else ((play_Stuck_L0 p_0 k0) (w64 (t14_0 + 1))))
    else (play_Stuck_K0)

def play_Stuck (p_0 : ApiProgram) : Option (Int × Int) :=
    (play_Check p_0).bind fun r2 =>
    bif !decide (r2 = 0) then (some (0, r2))
    else (play_Stuck_L0 p_0 BIG 0)

def deuceref08_needed_K1 (again0 : Int → (List Bool) → Option ((List Int))) (day_101 : Int) (i_101 : Int) (p_101 : ApiProgram) (o13_101 : List Bool) : Option ((List Int)) :=
    again0 (w64 (i_101 - 1)) o13_101

def deuceref08_needed_K2 (again0 : Int → (List Bool) → Option ((List Int))) (day_102 : Int) (i_102 : Int) (p_102 : ApiProgram) (o13_102 : List Bool) : Option ((List Int)) :=
    deuceref08_needed_K1 again0 day_102 i_102 p_102 o13_102

def deuceref08_needed_L2 (again0 : Int → (List Bool) → Option ((List Int))) (day_2 : Int) (i_2 : Int) (p_2 : ApiProgram) : Nat → Int → (List Bool) → Option ((List Int))
  | 0, _, _ => none
  | k2 + 1, k_2, o13_2 =>
    (idx p_2.Jobs i_2).bind fun x8 =>
    (bif decide (k_2 < (x8.After.length : Int)) then ((idx o13_2 i_2).bind fun x9 =>
    some x9) else (some false)).bind fun b10 =>
    bif b10 then ((idx p_2.Jobs i_2).bind fun x11 =>
    (idx x11.After k_2).bind fun x12 =>
    (idx o13_2 x12).bind fun x13 =>
    (deuceref08_needed_L2 again0 day_2 i_2 p_2 k2) (w64 (k_2 + 1)) (o13_2.set x12.toNat true))
    else (deuceref08_needed_K2 again0 day_2 i_2 p_2 o13_2)

def deuceref08_needed_K4 (out_104 : List Int) : Option ((List Int)) :=
    some out_104

def deuceref08_needed_L4 (o13_4 : List Bool) : Nat → Int → (List Int) → Option ((List Int))
  | 0, _, _ => none
  | k4 + 1, i_4, out_4 =>
    bif decide (i_4 < (o13_4.length : Int)) then ((idx o13_4 i_4).bind fun x15 =>
    bif x15 then ((app 8 out_4 ([i_4])).bind fun x16 =>
    (deuceref08_needed_L4 o13_4 k4) (w64 (i_4 + 1)) x16)
    else ((deuceref08_needed_L4 o13_4 k4) (w64 (i_4 + 1)) out_4))
    else (deuceref08_needed_K4 out_4)

def deuceref08_needed_K0 (o13_100 : List Bool) : Option ((List Int)) :=
    deuceref08_needed_L4 o13_100 BIG 0 ([] : List Int)

def deuceref08_needed_L0 (day_0 : Int) (p_0 : ApiProgram) : Nat → Int → (List Bool) → Option ((List Int))
  | 0, _, _ => none
  | k0 + 1, i_0, o13_0 =>
    bif decide (0 ≤ i_0) then ((idx o13_0 i_0).bind fun x4 =>
    (bif x4 then (some true) else ((idx p_0.Jobs i_0).bind fun x5 =>
    some (decide (x5.Due ≤ day_0)))).bind fun b6 =>
    (idx o13_0 i_0).bind fun x7 =>
    deuceref08_needed_L2 (deuceref08_needed_L0 day_0 p_0 k0) day_0 i_0 p_0 BIG 0 (o13_0.set i_0.toNat b6))
    else (deuceref08_needed_K0 o13_0)

def deuceref08_needed (p_0 : ApiProgram) (day_1 : Int) : Option ((List Int)) :=
    (mk 1 (p_0.Jobs.length : Int) false).bind fun x2 =>
    deuceref08_needed_L0 day_1 p_0 BIG (w64 ((p_0.Jobs.length : Int) - 1)) x2

def deuceref08_renumbered_K0 (out_100 : List Int) : Option ((List Int)) :=
    some out_100

def deuceref08_renumbered_L0 (l_0 : List Int) (left_0 : List Int) : Nat → Int → (List Int) → Option ((List Int))
  | 0, _, _ => none
  | k0 + 1, i_0, out_0 =>
    bif decide (i_0 < (left_0.length : Int)) then ((idx left_0 i_0).bind fun x2 =>
    (deuceref08_In l_0 x2).bind fun r3 =>
    bif r3 then ((app 8 out_0 ([i_0])).bind fun x4 =>
    (deuceref08_renumbered_L0 l_0 left_0 k0) (w64 (i_0 + 1)) x4)
    else ((deuceref08_renumbered_L0 l_0 left_0 k0) (w64 (i_0 + 1)) out_0))
    else (deuceref08_renumbered_K0 out_0)

def deuceref08_renumbered (l_0 : List Int) (left_1 : List Int) : Option ((List Int)) :=
    deuceref08_renumbered_L0 l_0 left_1 BIG 0 ([] : List Int)

def deuceref08_Only_K0 (o4_100 : ApiProgram) (o_100 : List ApiJob) (o_100_2 : List (List ApiSpan)) (o_100_3 : Int) : Option ApiProgram :=
    some (ApiProgram.mk o_100_2 o_100_3 o_100)

def deuceref08_Only_L0 (left_0 : List Int) (p_0 : ApiProgram) (o4_0 : ApiProgram) : Nat → Int → (List ApiJob) → (List (List ApiSpan)) → Int → Option ApiProgram
  | 0, _, _, _, _ => none
  | k0 + 1, i_0, o_0, o_0_2, o_0_3 =>
    bif decide (i_0 < (left_0.length : Int)) then ((idx left_0 i_0).bind fun x6 =>
    (idx p_0.Jobs x6).bind fun x7 =>
    (deuceref08_renumbered x7.After left_0).bind fun r9 =>
    (deuceref08_renumbered x7.With left_0).bind fun r10 =>
    (app 80 o_0 ([(ApiJob.mk x7.Length r9 r10 x7.Due x7.Earliest)])).bind fun x11 =>
    (deuceref08_Only_L0 left_0 p_0 o4_0 k0) (w64 (i_0 + 1)) x11 o_0_2 o_0_3)
    else (deuceref08_Only_K0 o4_0 o_0 o_0_2 o_0_3)

def deuceref08_Only (p_0 : ApiProgram) (left_1 : List Int) : Option ApiProgram :=
    (deuceref08_Copy p_0).bind fun r3 =>
    deuceref08_Only_L0 left_1 p_0 (ApiProgram.mk ([] : List (List ApiSpan)) 0 ([] : List ApiJob)) BIG 0 ([] : List ApiJob) r3.Days r3.Rest

def deuceref08_DueBy (p_0 : ApiProgram) (day_1 : Int) : Option ApiProgram :=
    (deuceref08_needed p_0 day_1).bind fun r3 =>
    (deuceref08_Only p_0 r3).bind fun r4 =>
    some r4

def deucelaw08_PlayStuck (p_0 : ApiProgram) : Option Bool :=
    (deucelaw08_ready p_0).bind fun r2 =>
    bif !r2 then ((deucelaw08_works).bind fun r3 =>
    some r3)
    else ((play_Stuck p_0).bind fun r4 =>
    (play_Days p_0).bind fun r5 =>
    (bif !decide (r4.2 = 0) then (some true) else ((bif !decide (r5.2 = 0) then (some (!decide (r5.2 = 3))) else (some false)).bind fun b6 =>
    some b6)).bind fun b7 =>
    (bif b7 then (some true) else (some (!decide ((decide (r4.1 = (-1))) = (decide (r5.2 = 0)))))).bind fun b8 =>
    (bif b8 then (some true) else (some (decide (r4.1 < (-1))))).bind fun b9 =>
    (bif b9 then (some true) else (some (decide (3 ≤ r4.1)))).bind fun b10 =>
    bif b10 then (some false)
    else (bif decide (r4.1 = (-1)) then ((deucelaw08_works).bind fun r11 =>
    some r11)
    else ((deuceref08_DueBy p_0 r4.1).bind fun r12 =>
    (play_Days r12).bind fun r13 =>
    bif !decide (r13.2 = 3) then (some false)
    else (bif decide (0 < r4.1) then ((deuceref08_DueBy p_0 (w64 (r4.1 - 1))).bind fun r14 =>
    (play_Days r14).bind fun r15 =>
    bif !decide (r15.2 = 0) then (some false)
    else ((deucelaw08_works).bind fun r16 =>
    some r16))
    else ((deucelaw08_works).bind fun r17 =>
    some r17)))))

def deuceref08_Stuck_K0 : Option (Int × Int) :=
    some ((-1), 0)

def deuceref08_Stuck_L0 (p_0 : ApiProgram) : Nat → Int → Option (Int × Int)
  | 0, _ => none
  | k0 + 1, d_0 =>
    bif decide (d_0 < 3) then ((deuceref08_DueBy p_0 d_0).bind fun r3 =>
    (deuceref08_days r3).bind fun r4 =>
    bif decide (r4 < 0) then (some (d_0, 0))
    else ((deuceref08_Stuck_L0 p_0 k0) (w64 (d_0 + 1))))
    else (deuceref08_Stuck_K0)

def deuceref08_Stuck (p_0 : ApiProgram) : Option (Int × Int) :=
    (deuceref08_Check p_0).bind fun r2 =>
    bif !decide (r2 = 0) then (some (0, 80))
    else (deuceref08_Stuck_L0 p_0 BIG 0)

def deucelaw08_PlayDays (p_0 : ApiProgram) (old_1 : List ApiSeat) : Option Bool :=
    (deucelaw08_Far p_0).bind fun r2 =>
    (bif r2 then (some true) else (some (decide (20 < (old_1.length : Int))))).bind fun b3 =>
    bif b3 then ((deucelaw08_works).bind fun r4 =>
    some r4)
    else ((deuceref08_Copy p_0).bind fun r5 =>
    (play_Days r5).bind fun r7 =>
    (deuceref08_Days p_0).bind fun r8 =>
    (play_Stuck r5).bind fun r9 =>
    (deuceref08_Stuck p_0).bind fun r10 =>
    (deucelaw08_copied old_1).bind fun r11 =>
    (play_Fewest r5 r11).bind fun r12 =>
    (deuceref08_Fewest p_0 old_1).bind fun r13 =>
    (bif decide (r7.1 = r8.1) then (some (decide (r7.2 = r8.2))) else (some false)).bind fun b14 =>
    (bif b14 then (some (decide (r9.1 = r10.1))) else (some false)).bind fun b15 =>
    (bif b15 then (some (decide (r9.2 = r10.2))) else (some false)).bind fun b16 =>
    (bif b16 then (some (decide (r12.1 = r13.1))) else (some false)).bind fun b17 =>
    (bif b17 then (some (decide (r12.2 = r13.2))) else (some false)).bind fun b18 =>
    (bif b18 then ((deucelaw08_works).bind fun r19 =>
    some r19) else (some false)).bind fun b20 =>
    some b20)

end Go.Am
