/- Shallow functions, printed by program. -/
import Derived.Test.YtfdappeickbpeaaGreatAmFull
import Derived.Test.YtfdappeickbpeaaGreatAmNd
import Derived.Test.YtfdappeickbpeaaGreatAmSort
import Derived.Test.YtfdappeickbpeaaGreatAmSortF
namespace Go.Am

structure aJ where
  Id : Int
  Hour : Int
  Kind : Int
  Player : Int
  Rank : Int
  deriving DecidableEq, Inhabited
def aE (x : aJ) : List D := [.lit (.int .i64 x.Id), .lit (.int .i64 x.Hour), .lit (.int .i64 x.Kind), .lit (.int .i64 x.Player), .lit (.int .i64 x.Rank)]

def aAc (x : List aJ) : List D := [.sl 5 (x.map aE)]

structure aV where
  Places : Int
  Wilds : Int
  Guards : Int
  Close : Int
  Freeze : Int
  deriving DecidableEq, Inhabited
def aS (x : aV) : List D := [.lit (.int .i64 x.Places), .lit (.int .i64 x.Wilds), .lit (.int .i64 x.Guards), .lit (.int .i64 x.Close), .lit (.int .i64 x.Freeze)]

def kG (x : List Int) : List D := [.sl 1 (x.map aG)]

structure aA where
  entered : Bool
  guard : Bool
  rank : Int
  turn : Int
  quit : Bool
  signed : Bool
  wild : Bool
  had : Bool
  deriving DecidableEq, Inhabited
def aC (x : aA) : List D := [.lit (.bool x.entered), .lit (.bool x.guard), .lit (.int .i64 x.rank), .lit (.int .i64 x.turn), .lit (.bool x.quit), .lit (.bool x.signed), .lit (.bool x.wild), .lit (.bool x.had)]

structure aI where
  Field : aV
  players : List (Int × aA)
  wilds : List Int
  frozen : Bool
  first : List Int
  late : List Int
  more : Int
  entered : Int
  deriving DecidableEq, Inhabited
def bB (x : aI) : List D := [.lit (.int .i64 x.Field.Places), .lit (.int .i64 x.Field.Wilds), .lit (.int .i64 x.Field.Guards), .lit (.int .i64 x.Field.Close), .lit (.int .i64 x.Field.Freeze), .mp true (x.players.map fun p : Int × aA => ((fun n : Int => Value.int .i64 n) p.1, aC p.2)), .sl 1 (x.wilds.map aG), .lit (.bool x.frozen), .sl 1 (x.first.map aG), .sl 1 (x.late.map aG), .lit (.int .i64 x.more), .lit (.int .i64 x.entered)]

structure dE where
  Main : List Int
  Wilds : List Int
  Out : List Int
  Open : Int
  deriving DecidableEq, Inhabited
def bU (x : dE) : List D := [.sl 1 (x.Main.map aG), .sl 1 (x.Wilds.map aG), .sl 1 (x.Out.map aG), .lit (.int .i64 x.Open)]

structure aT where
  free : Int
  guarded : Int
  moved : Int
  covered : Int
  deriving DecidableEq, Inhabited
def aR (x : aT) : List D := [.lit (.int .i64 x.free), .lit (.int .i64 x.guarded), .lit (.int .i64 x.moved), .lit (.int .i64 x.covered)]

def aAw (x : aV) : Prop := okI x.Places ∧ okI x.Wilds ∧ okI x.Guards ∧ okI x.Close ∧ okI x.Freeze

def vD (x : aJ) : Prop := okI x.Id ∧ okI x.Hour ∧ okI x.Kind ∧ okI x.Player ∧ okI x.Rank

def mH (l_0 : List aJ) : Option Bool :=
    (bif decide (20 < (l_0.length : Int)) then (some (decide ((l_0.length : Int) ≤ 60))) else (some false)).bind fun b1 =>
    (bif b1 then (some true) else (some (decide (100 < (l_0.length : Int))))).bind fun b2 =>
    some b2

def cK (n_0 : Int) (low_1 : Int) (high_2 : Int) : Option Bool :=
    (bif decide (low_1 ≤ n_0) then (some (decide (n_0 ≤ high_2))) else (some false)).bind fun b1 =>
    some b1

def jQ (x_0 : aJ) : Option Bool :=
    (cK x_0.Id 0 999).bind fun r2 =>
    (bif !r2 then (some true) else ((cK x_0.Player 0 999).bind fun r3 =>
    some (!r3))).bind fun b4 =>
    (bif b4 then (some true) else ((cK x_0.Hour 0 9999).bind fun r5 =>
    some (!r5))).bind fun b6 =>
    bif b6 then (some false)
    else (bif decide (x_0.Kind = 1) then ((cK x_0.Rank 0 9999).bind fun r7 =>
    some r7)
    else (bif decide (x_0.Kind = 2) then ((cK x_0.Rank 1 9999).bind fun r8 =>
    some r8)
    else (bif decide (x_0.Kind = 3) then (bif decide (x_0.Kind = 3) then (some (decide (x_0.Rank = 0)))
    else (some false))
    else (bif decide (x_0.Kind = 4) then (bif decide (x_0.Kind = 4) then (some (decide (x_0.Rank = 0)))
    else (some false))
    else (bif decide (x_0.Kind = 5) then (some (decide (x_0.Rank = 0)))
    else (some false))))))

def nR (again0 : Int → Option Int) (l_101 : List aJ) (i_101 : Int) : Option Int :=
    again0 (w64 (i_101 + 1))

def nS (again0 : Int → Option Int) (l_102 : List aJ) (i_102 : Int) : Option Int :=
    nR again0 l_102 i_102

def fJ (again0 : Int → Option Int) (l_2 : List aJ) (i_2 : Int) : Nat → Int → Option Int
  | 0, _ => none
  | k2 + 1, k_2 =>
    bif decide (k_2 < i_2) then ((idx l_2 k_2).bind fun x13 =>
    (idx l_2 i_2).bind fun x14 =>
    (bif decide (x13.Id = x14.Id) then ((idx l_2 k_2).bind fun x15 =>
    (idx l_2 i_2).bind fun x16 =>
    some (!decide (x15 = x16))) else (some false)).bind fun b17 =>
    bif b17 then (some 51)
    else ((fJ again0 l_2 i_2 k2) (w64 (k_2 + 1))))
    else (nS again0 l_2 i_2)

def nQ : Option Int :=
    some 0

def fI (l_0 : List aJ) : Nat → Int → Option Int
  | 0, _ => none
  | k0 + 1, i_0 =>
    bif decide (i_0 < (l_0.length : Int)) then ((idx l_0 i_0).bind fun x11 =>
    (jQ x11).bind fun r12 =>
    bif !r12 then (some 51)
    else (fJ (fI l_0 k0) l_0 i_0 BIG 0))
    else (nQ)

def lC (f_0 : aV) (l_1 : List aJ) : Option Int :=
    (cK f_0.Places 1 32).bind fun r2 =>
    (bif !r2 then (some true) else ((cK f_0.Wilds 0 32).bind fun r3 =>
    some (!r3))).bind fun b4 =>
    (bif b4 then (some true) else ((cK f_0.Guards 0 32).bind fun r5 =>
    some (!r5))).bind fun b6 =>
    (bif b6 then (some true) else ((cK f_0.Close 0 9999).bind fun r7 =>
    some (!r7))).bind fun b8 =>
    (bif b8 then (some true) else ((cK f_0.Freeze f_0.Close 9999).bind fun r9 =>
    some (!r9))).bind fun b10 =>
    bif b10 then (some 50)
    else (bif decide (60 < (l_1.length : Int)) then (some 51)
    else (fI l_1 BIG 0))

def lB (f_0 : aV) (l_1 : List aJ) : Option Bool :=
    (mH l_1).bind fun r2 =>
    (bif !r2 then ((lC f_0 l_1).bind fun r3 =>
    some (decide (r3 = 0))) else (some false)).bind fun b4 =>
    some b4

def kN (n_0 : Int) : Option Bool :=
    (bif decide (0 ≤ n_0) then (some (decide (n_0 ≤ 9999))) else (some false)).bind fun b1 =>
    some b1

def dM (id_0 : Int) (hour_1 : Int) (kind_2 : Int) (player_3 : Int) (rank_4 : Int) : Option aJ :=
    some (aJ.mk id_0 hour_1 kind_2 player_3 rank_4)

def iT : Option (aV × (List aJ)) :=
    (dM 0 1 1 7 50).bind fun r3 =>
    (dM 1 2 1 8 20).bind fun r4 =>
    (dM 2 3 2 9 10).bind fun r5 =>
    (dM 3 4 2 6 30).bind fun r6 =>
    (dM 4 5 1 5 70).bind fun r7 =>
    (dM 5 6 1 4 0).bind fun r8 =>
    (dM 6 11 1 3 1).bind fun r9 =>
    (dM 7 12 3 7 0).bind fun r10 =>
    (dM 8 15 4 8 0).bind fun r11 =>
    (dM 9 21 5 4 0).bind fun r12 =>
    (dM 10 22 4 5 0).bind fun r13 =>
    some ((aV.mk 3 1 1 10 20), [r3, r4, r5, r6, r7, r8, r9, r10, r11, r12, r13])

def cG (n_0 : Int) (low_1 : Int) (high_2 : Int) : Option Bool :=
    (bif decide (low_1 ≤ n_0) then (some (decide (n_0 ≤ high_2))) else (some false)).bind fun b1 =>
    some b1

def nI (f_0 : aV) : Option Bool :=
    (cG f_0.Places 1 32).bind fun r2 =>
    (bif r2 then ((cG f_0.Wilds 0 32).bind fun r3 =>
    some r3) else (some false)).bind fun b4 =>
    (bif b4 then ((cG f_0.Guards 0 32).bind fun r5 =>
    some r5) else (some false)).bind fun b6 =>
    (bif b6 then ((cG f_0.Close 0 9999).bind fun r7 =>
    some r7) else (some false)).bind fun b8 =>
    (bif b8 then ((cG f_0.Freeze f_0.Close 9999).bind fun r9 =>
    some r9) else (some false)).bind fun b10 =>
    some b10

def mL (n_0 : aJ) : Option Bool :=
    bif decide (n_0.Kind = 1) then ((cG n_0.Id 0 999).bind fun r2 =>
    (bif r2 then ((cG n_0.Player 0 999).bind fun r3 =>
    some r3) else (some false)).bind fun b4 =>
    (bif b4 then ((cG n_0.Hour 0 9999).bind fun r5 =>
    some r5) else (some false)).bind fun b6 =>
    (bif b6 then ((cG n_0.Rank 0 9999).bind fun r7 =>
    some r7) else (some false)).bind fun b8 =>
    some b8)
    else (bif decide (n_0.Kind = 2) then ((cG n_0.Id 0 999).bind fun r9 =>
    (bif r9 then ((cG n_0.Player 0 999).bind fun r10 =>
    some r10) else (some false)).bind fun b11 =>
    (bif b11 then ((cG n_0.Hour 0 9999).bind fun r12 =>
    some r12) else (some false)).bind fun b13 =>
    (bif b13 then ((cG n_0.Rank 1 9999).bind fun r14 =>
    some r14) else (some false)).bind fun b15 =>
    some b15)
    else (bif decide (n_0.Kind = 3) then (bif decide (n_0.Kind = 3) then ((cG n_0.Id 0 999).bind fun r16 =>
    (bif r16 then ((cG n_0.Player 0 999).bind fun r17 =>
    some r17) else (some false)).bind fun b18 =>
    (bif b18 then ((cG n_0.Hour 0 9999).bind fun r19 =>
    some r19) else (some false)).bind fun b20 =>
    (bif b20 then ((cG n_0.Rank 0 0).bind fun r21 =>
    some r21) else (some false)).bind fun b22 =>
    some b22)
    else (some false))
    else (bif decide (n_0.Kind = 4) then (bif decide (n_0.Kind = 4) then ((cG n_0.Id 0 999).bind fun r23 =>
    (bif r23 then ((cG n_0.Player 0 999).bind fun r24 =>
    some r24) else (some false)).bind fun b25 =>
    (bif b25 then ((cG n_0.Hour 0 9999).bind fun r26 =>
    some r26) else (some false)).bind fun b27 =>
    (bif b27 then ((cG n_0.Rank 0 0).bind fun r28 =>
    some r28) else (some false)).bind fun b29 =>
    some b29)
    else (some false))
    else (bif decide (n_0.Kind = 5) then ((cG n_0.Id 0 999).bind fun r30 =>
    (bif r30 then ((cG n_0.Player 0 999).bind fun r31 =>
    some r31) else (some false)).bind fun b32 =>
    (bif b32 then ((cG n_0.Hour 0 9999).bind fun r33 =>
    some r33) else (some false)).bind fun b34 =>
    (bif b34 then ((cG n_0.Rank 0 0).bind fun r35 =>
    some r35) else (some false)).bind fun b36 =>
    some b36)
    else (some false)))))

def rH : Option Int :=
    some 0

def iV (t17_0 : List aJ) (t18_0 : Int) : Nat → Int → (List (Int × aJ)) → Option Int
  | 0, _, _ => none
  | k0 + 1, t19_0, o16_0 =>
    bif decide (t19_0 < t18_0) then ((idx t17_0 t19_0).bind fun x4 =>
    (mL x4).bind fun r7 =>
    (bif !r7 then (some true) else ((bif fQ x4.Id o16_0 then (some (!decide ((aH x4.Id (aJ.mk 0 0 0 0 0) o16_0) = x4))) else (some false)).bind fun b8 =>
    some b8)).bind fun b9 =>
    bif b9 then (some 51)
    else ((iV t17_0 t18_0 k0) (w64 (t19_0 + 1)) (cL x4.Id x4 o16_0)))
    else (rH)

def pI (f_0 : aV) (l_1 : List aJ) : Option Int :=
    (nI f_0).bind fun r2 =>
    bif !r2 then (some 50)
    else (bif decide (60 < (l_1.length : Int)) then (some 51)
    else (iV l_1 (l_1.length : Int) BIG 0 ([] : List (Int × aJ))))

def jH (s_0 : List aJ) : Option Unit :=
    some ()

def gB {S : Type} (againY : S → aJ → Option (S × Bool)) (sy_100 : S) : Option (S × Bool) :=
    some (sy_100, true)

def cR {S : Type} (againY : S → aJ → Option (S × Bool)) (t5_0 : List aJ) (t6_0 : Int) : Nat → Int → S → Option (S × Bool)
  | 0, _, _ => none
  | k0 + 1, t7_0, sy_0 =>
    bif decide (t7_0 < t6_0) then ((idx t5_0 t7_0).bind fun x1 =>
    (againY sy_0 x1).bind fun y3 =>
    bif !y3.2 then (some y3)
    else ((cR againY t5_0 t6_0 k0) (w64 (t7_0 + 1)) y3.1))
    else (gB againY sy_0)

def eS {S : Type} (yield_0 : S → aJ → Option (S × Bool)) (c_1 : List aJ) (sy : S) : Option (S × Bool) :=
    cR yield_0 c_1 (c_1.length : Int) BIG 0 sy

def iJ (seq_1 : List aJ) : Option ((List aJ)) :=
    (eS (S := (List aJ)) (fun s3 x4 =>
    (app 40 s3 ([x4])).bind fun x6 =>
    some (x6, true)) seq_1 ([] : List aJ)).bind fun s8 =>
    bif s8.2 then (some s8.1)
    else (none)

def gQ (seq_0 : List aJ) : Option ((List aJ)) :=
    (iJ seq_0).bind fun r2 =>
    some r2

def kM (x : List aJ) (cmp : aJ → aJ → Option Int) : Option (List aJ) := pU x cmp

def fO (seq_0 : List aJ) (cmp_1 : aJ → aJ → Option Int) : Option ((List aJ)) :=
    (gQ seq_0).bind fun r2 =>
    (kM r2 cmp_1).bind fun r4 =>
    some r4

def pO (zero_100 : Int) : Option Int :=
    some zero_100

def lS (zero_0 : Int) (t6_0 : List Int) (t7_0 : Int) : Nat → Int → Option Int
  | 0, _ => none
  | k0 + 1, t8_0 =>
    bif decide (t8_0 < t7_0) then ((idx t6_0 t8_0).bind fun x1 =>
    bif !decide (x1 = zero_0) then (some x1)
    else ((lS zero_0 t6_0 t7_0 k0) (w64 (t8_0 + 1))))
    else (pO zero_0)

def lW (vals_0 : List Int) : Option Int :=
    lS 0 vals_0 (vals_0.length : Int) BIG 0

def dW (a_0 : aJ) (b_1 : aJ) : Option Int :=
    (lW ([w64 (a_0.Hour - b_1.Hour), w64 (a_0.Id - b_1.Id)])).bind fun r3 =>
    some r3

def jW (again0 : Int → (List aJ) → Option ((List aJ))) (k_102 : Int) (s_102 : List aJ) : Option ((List aJ)) :=
    (chk (decide (0 ≤ k_102) && decide (k_102 ≤ (s_102.length : Int)))).bind fun u9 =>
    (chk (decide (k_102.toNat ≤ s_102.length))).bind fun u10 =>
    (chk (decide (0 ≤ k_102))).bind fun u11 =>
    some (s_102.take k_102.toNat)

def dI (again0 : Int → (List aJ) → Option ((List aJ))) (s2_2 : Int) : Nat → Int → Int → (List aJ) → Option ((List aJ))
  | 0, _, _, _ => none
  | k2 + 1, k_2, k2_2, s_2 =>
    bif decide (k2_2 < ((s_2.drop s2_2.toNat).length : Int)) then ((idx (s_2.drop s2_2.toNat) k2_2).bind fun x5 =>
    (idx (s_2.drop s2_2.toNat) (w64 (k2_2 - 1))).bind fun x6 =>
    bif !decide (x5 = x6) then ((idx (s_2.drop s2_2.toNat) k2_2).bind fun x7 =>
    (idx s_2 k_2).bind fun x8 =>
    (dI again0 s2_2 k2) (w64 (k_2 + 1)) (w64 (k2_2 + 1)) (s_2.set k_2.toNat x7))
    else ((dI again0 s2_2 k2) k_2 (w64 (k2_2 + 1)) s_2))
    else (jW again0 k_2 s_2)

def jV (again0 : Int → (List aJ) → Option ((List aJ))) (k_101 : Int) (s_101 : List aJ) : Option ((List aJ)) :=
    again0 (w64 (k_101 + 1)) s_101

def jU (s_100 : List aJ) : Option ((List aJ)) :=
    some s_100

def cV : Nat → Int → (List aJ) → Option ((List aJ))
  | 0, _, _ => none
  | k0 + 1, k_0, s_0 =>
    bif decide (k_0 < (s_0.length : Int)) then ((idx s_0 k_0).bind fun x2 =>
    (idx s_0 (w64 (k_0 - 1))).bind fun x3 =>
    bif decide (x2 = x3) then ((chk (decide (0 ≤ k_0) && decide (k_0 ≤ (s_0.length : Int)))).bind fun u4 =>
    dI (cV k0) k_0 BIG k_0 1 s_0)
    else (jV (cV k0) k_0 s_0))
    else (jU s_0)

def fF (s_0 : List aJ) : Option ((List aJ)) :=
    bif decide ((s_0.length : Int) < 2) then (some s_0)
    else (cV BIG 1 s_0)

def eD (l_0 : aI) : Option Int :=
    some (w64 (l_0.Field.Places + l_0.more))

def mY (many_100 : Int) : Option Int :=
    some many_100

def fA (l_0 : aI) (t7_0 : List Int) (t8_0 : Int) : Nat → Int → Int → Option Int
  | 0, _, _ => none
  | k0 + 1, many_0, t9_0 =>
    bif decide (t9_0 < t8_0) then ((idx t7_0 t9_0).bind fun x1 =>
    bif (aH x1 (aA.mk false false 0 0 false false false false) l_0.players).guard then ((fA l_0 t7_0 t8_0 k0) (w64 (many_0 + 1)) (w64 (t9_0 + 1)))
    else ((fA l_0 t7_0 t8_0 k0) many_0 (w64 (t9_0 + 1))))
    else (mY many_0)

def iC (l_0 : aI) (in_1 : List Int) : Option Int :=
    fA l_0 in_1 (in_1.length : Int) BIG 0 0

def fB (l_0_players : List (Int × aA)) (n_1 : Int) : Option Bool :=
    (bif (aH n_1 (aA.mk false false 0 0 false false false false) l_0_players).entered then (some (!((aH n_1 (aA.mk false false 0 0 false false false false) l_0_players).quit))) else (some false)).bind fun b2 =>
    (bif b2 then (some (!((aH n_1 (aA.mk false false 0 0 false false false false) l_0_players).had))) else (some false)).bind fun b3 =>
    some b3

def nY (x : List Int) (cmp : Int → Int → Option Int) : Option (List Int) := pU x cmp

def gI (p_0 : aA) : Option Int :=
    bif decide (p_0.rank = 0) then (some 1)
    else (some 0)

def dX (a_0 : Int) (b_1 : Int) (c_2 : aI) : Option Int :=
    (gI (aH a_0 (aA.mk false false 0 0 false false false false) c_2.players)).bind fun r3 =>
    (gI (aH b_1 (aA.mk false false 0 0 false false false false) c_2.players)).bind fun r4 =>
    (lW ([w64 (r3 - r4), w64 (((aH a_0 (aA.mk false false 0 0 false false false false) c_2.players).rank) - ((aH b_1 (aA.mk false false 0 0 false false false false) c_2.players).rank)), w64 (((aH a_0 (aA.mk false false 0 0 false false false false) c_2.players).turn) - ((aH b_1 (aA.mk false false 0 0 false false false false) c_2.players).turn))])).bind fun r5 =>
    some r5

def kH (againQ : ((List Int)) → Prop) (l_100 : aI) (out_100 : List Int) : Prop :=
    nb (nY out_100 (fun y12 y13 => dX y12 y13 l_100)) fun r14 =>
    againQ r14

def fM (againQ : ((List Int)) → Prop) (l_0 : aI) : Nat → (List Int) → (List (Int × aA)) → Prop
  | 0, _, _ => False
  | k0 + 1, out_0, left_0 =>
    aJo left_0 (kH againQ l_0 out_0)
    (fun p10 left11 =>
    nb (fB l_0.players p10.1) fun r15 =>
    bif r15 then (nb (app 8 out_0 ([p10.1])) fun x16 =>
    (fM againQ l_0 k0) x16 left11)
    else ((fM againQ l_0 k0) out_0 left11))

def lZ (l_0 : aI) (Q : ((List Int)) → Prop) : Prop :=
    aBw l_0.players fun left9 =>
    fM Q l_0 BIG ([] : List Int) left9

def eL (l : aI) : Option (List Int) := if l.players.length < 4294967296 then pU ((l.players.filter fun p => (fB l.players p.1).getD false).map Prod.fst) (fun a b => dX a b l) else none

def mZ (inv_100 : List Int) : Option ((List Int)) :=
    some inv_100

def fC (l_0 : aI) (t7_0 : List Int) (t8_0 : Int) : Nat → Int → (List Int) → Option ((List Int))
  | 0, _, _ => none
  | k0 + 1, t9_0, inv_0 =>
    bif decide (t9_0 < t8_0) then ((idx t7_0 t9_0).bind fun x4 =>
    (eD l_0).bind fun r5 =>
    (bif decide ((inv_0.length : Int) < r5) then ((bif !((aH x4 (aA.mk false false 0 0 false false false false) l_0.players).guard) then (some true) else ((iC l_0 inv_0).bind fun r6 =>
    some (decide (r6 < l_0.Field.Guards)))).bind fun b7 =>
    some b7) else (some false)).bind fun b8 =>
    bif b8 then ((app 8 inv_0 ([x4])).bind fun x9 =>
    (fC l_0 t7_0 t8_0 k0) (w64 (t9_0 + 1)) x9)
    else ((fC l_0 t7_0 t8_0 k0) (w64 (t9_0 + 1)) inv_0))
    else (mZ inv_0)

def jM (l_0 : aI) : Option ((List Int)) :=
    (eL l_0).bind fun r3 =>
    fC l_0 r3 (r3.length : Int) BIG 0 ([] : List Int)

def jL (l_0 : aI) : Option aI :=
    bif !l_0.frozen then ((jM l_0).bind fun r1 =>
    some (aI.mk l_0.Field l_0.players l_0.wilds true r1 l_0.late l_0.more l_0.entered))
    else (some l_0)

def lQ : Option Int :=
    some (-1)

def eU (s_0 : List Int) (f_0 : Int → Option Bool) (t7_0 : Int) : Nat → Int → Option Int
  | 0, _ => none
  | k0 + 1, t8_0 =>
    bif decide (t8_0 < t7_0) then ((idx s_0 t8_0).bind fun x1 =>
    (f_0 x1).bind fun r2 =>
    bif r2 then (some t8_0)
    else ((eU s_0 f_0 t7_0 k0) (w64 (t8_0 + 1))))
    else (lQ)

def gA (s_0 : List Int) (f_1 : Int → Option Bool) : Option Int :=
    eU s_0 f_1 (s_0.length : Int) BIG 0

def lK (i_100 : Int) (s_100 : List Int) : Option ((List Int)) :=
    (chk (decide (0 ≤ i_100) && decide (i_100 ≤ (s_100.length : Int)))).bind fun u6 =>
    (chk (decide (i_100.toNat ≤ s_100.length))).bind fun u7 =>
    (chk (decide (0 ≤ i_100))).bind fun u8 =>
    some (s_100.take i_100.toNat)

def dY (del_0 : Int → Option Bool) : Nat → Int → Int → (List Int) → Option ((List Int))
  | 0, _, _, _ => none
  | k0 + 1, i_0, j_0, s_0 =>
    bif decide (j_0 < (s_0.length : Int)) then ((idx s_0 j_0).bind fun x3 =>
    (del_0 x3).bind fun r4 =>
    bif !r4 then ((idx s_0 i_0).bind fun x5 =>
    (dY del_0 k0) (w64 (i_0 + 1)) (w64 (j_0 + 1)) (s_0.set i_0.toNat x3))
    else ((dY del_0 k0) i_0 (w64 (j_0 + 1)) s_0))
    else (lK i_0 s_0)

def cM (s_0 : List Int) (del_1 : Int → Option Bool) : Option ((List Int)) :=
    (gA s_0 del_1).bind fun r2 =>
    bif decide (r2 = (-1)) then (some s_0)
    else (dY del_1 BIG r2 (w64 (r2 + 1)) s_0)

def eE (m_0 : Int) (c_1 : aJ) : Option Bool :=
    some (decide (m_0 = c_1.Player))

def jD (l_0 : aI) (n_1 : aJ) : Option aI :=
    bif decide (n_1.Kind = 1) then (bif decide (n_1.Kind = 1) then ((bif decide (n_1.Hour ≤ l_0.Field.Close) then (some (!((aH n_1.Player (aA.mk false false 0 0 false false false false) l_0.players).entered))) else (some false)).bind fun b3 =>
    bif b3 then (some (aI.mk l_0.Field (cL n_1.Player (aA.mk true (decide (n_1.Kind = 2)) n_1.Rank (w64 (l_0.entered + 1)) ((aH n_1.Player (aA.mk false false 0 0 false false false false) l_0.players).quit) ((aH n_1.Player (aA.mk false false 0 0 false false false false) l_0.players).signed) ((aH n_1.Player (aA.mk false false 0 0 false false false false) l_0.players).wild) ((aH n_1.Player (aA.mk false false 0 0 false false false false) l_0.players).had)) l_0.players) l_0.wilds l_0.frozen l_0.first l_0.late l_0.more (w64 (l_0.entered + 1))))
    else (some (aI.mk l_0.Field (cL n_1.Player (aH n_1.Player (aA.mk false false 0 0 false false false false) l_0.players) l_0.players) l_0.wilds l_0.frozen l_0.first l_0.late l_0.more l_0.entered)))
    else (bif decide (n_1.Kind = 3) then ((bif decide (n_1.Hour ≤ l_0.Field.Freeze) then (some (!((aH n_1.Player (aA.mk false false 0 0 false false false false) l_0.players).wild))) else (some false)).bind fun b4 =>
    (bif b4 then (some (!((aH n_1.Player (aA.mk false false 0 0 false false false false) l_0.players).quit))) else (some false)).bind fun b5 =>
    (bif b5 then (some (decide ((l_0.wilds.length : Int) < l_0.Field.Wilds))) else (some false)).bind fun b6 =>
    bif b6 then ((app 8 l_0.wilds ([n_1.Player])).bind fun x7 =>
    some (aI.mk l_0.Field (cL n_1.Player (aA.mk ((aH n_1.Player (aA.mk false false 0 0 false false false false) l_0.players).entered) ((aH n_1.Player (aA.mk false false 0 0 false false false false) l_0.players).guard) ((aH n_1.Player (aA.mk false false 0 0 false false false false) l_0.players).rank) ((aH n_1.Player (aA.mk false false 0 0 false false false false) l_0.players).turn) ((aH n_1.Player (aA.mk false false 0 0 false false false false) l_0.players).quit) ((aH n_1.Player (aA.mk false false 0 0 false false false false) l_0.players).signed) true true) l_0.players) x7 l_0.frozen l_0.first l_0.late l_0.more l_0.entered))
    else (some (aI.mk l_0.Field (cL n_1.Player (aH n_1.Player (aA.mk false false 0 0 false false false false) l_0.players) l_0.players) l_0.wilds l_0.frozen l_0.first l_0.late l_0.more l_0.entered)))
    else (bif decide (n_1.Kind = 4) then ((bif (aH n_1.Player (aA.mk false false 0 0 false false false false) l_0.players).wild then (some (decide (l_0.Field.Freeze < n_1.Hour))) else (some false)).bind fun b9 =>
    bif b9 then ((cM l_0.wilds (fun y10 => eE y10 n_1)).bind fun r11 =>
    some (aI.mk l_0.Field (cL n_1.Player (aA.mk ((aH n_1.Player (aA.mk false false 0 0 false false false false) l_0.players).entered) ((aH n_1.Player (aA.mk false false 0 0 false false false false) l_0.players).guard) ((aH n_1.Player (aA.mk false false 0 0 false false false false) l_0.players).rank) ((aH n_1.Player (aA.mk false false 0 0 false false false false) l_0.players).turn) true ((aH n_1.Player (aA.mk false false 0 0 false false false false) l_0.players).signed) false ((aH n_1.Player (aA.mk false false 0 0 false false false false) l_0.players).had)) l_0.players) r11 l_0.frozen l_0.first l_0.late (w64 (l_0.more + 1)) l_0.entered))
    else ((cM l_0.wilds (fun y13 => eE y13 n_1)).bind fun r14 =>
    some (aI.mk l_0.Field (cL n_1.Player (aA.mk ((aH n_1.Player (aA.mk false false 0 0 false false false false) l_0.players).entered) ((aH n_1.Player (aA.mk false false 0 0 false false false false) l_0.players).guard) ((aH n_1.Player (aA.mk false false 0 0 false false false false) l_0.players).rank) ((aH n_1.Player (aA.mk false false 0 0 false false false false) l_0.players).turn) true ((aH n_1.Player (aA.mk false false 0 0 false false false false) l_0.players).signed) false ((aH n_1.Player (aA.mk false false 0 0 false false false false) l_0.players).had)) l_0.players) r14 l_0.frozen l_0.first l_0.late l_0.more l_0.entered)))
    else (bif decide (n_1.Kind = 5) then (some (aI.mk l_0.Field (cL n_1.Player (aA.mk ((aH n_1.Player (aA.mk false false 0 0 false false false false) l_0.players).entered) ((aH n_1.Player (aA.mk false false 0 0 false false false false) l_0.players).guard) ((aH n_1.Player (aA.mk false false 0 0 false false false false) l_0.players).rank) ((aH n_1.Player (aA.mk false false 0 0 false false false false) l_0.players).turn) ((aH n_1.Player (aA.mk false false 0 0 false false false false) l_0.players).quit) true ((aH n_1.Player (aA.mk false false 0 0 false false false false) l_0.players).wild) ((aH n_1.Player (aA.mk false false 0 0 false false false false) l_0.players).had)) l_0.players) l_0.wilds l_0.frozen l_0.first l_0.late l_0.more l_0.entered))
    else (some (aI.mk l_0.Field (cL n_1.Player (aH n_1.Player (aA.mk false false 0 0 false false false false) l_0.players) l_0.players) l_0.wilds l_0.frozen l_0.first l_0.late l_0.more l_0.entered))))))
    else (bif decide (n_1.Kind = 2) then ((bif decide (n_1.Hour ≤ l_0.Field.Close) then (some (!((aH n_1.Player (aA.mk false false 0 0 false false false false) l_0.players).entered))) else (some false)).bind fun b16 =>
    bif b16 then (some (aI.mk l_0.Field (cL n_1.Player (aA.mk true (decide (n_1.Kind = 2)) n_1.Rank (w64 (l_0.entered + 1)) ((aH n_1.Player (aA.mk false false 0 0 false false false false) l_0.players).quit) ((aH n_1.Player (aA.mk false false 0 0 false false false false) l_0.players).signed) ((aH n_1.Player (aA.mk false false 0 0 false false false false) l_0.players).wild) ((aH n_1.Player (aA.mk false false 0 0 false false false false) l_0.players).had)) l_0.players) l_0.wilds l_0.frozen l_0.first l_0.late l_0.more (w64 (l_0.entered + 1))))
    else (some (aI.mk l_0.Field (cL n_1.Player (aH n_1.Player (aA.mk false false 0 0 false false false false) l_0.players) l_0.players) l_0.wilds l_0.frozen l_0.first l_0.late l_0.more l_0.entered)))
    else (bif decide (n_1.Kind = 3) then ((bif decide (n_1.Hour ≤ l_0.Field.Freeze) then (some (!((aH n_1.Player (aA.mk false false 0 0 false false false false) l_0.players).wild))) else (some false)).bind fun b17 =>
    (bif b17 then (some (!((aH n_1.Player (aA.mk false false 0 0 false false false false) l_0.players).quit))) else (some false)).bind fun b18 =>
    (bif b18 then (some (decide ((l_0.wilds.length : Int) < l_0.Field.Wilds))) else (some false)).bind fun b19 =>
    bif b19 then ((app 8 l_0.wilds ([n_1.Player])).bind fun x20 =>
    some (aI.mk l_0.Field (cL n_1.Player (aA.mk ((aH n_1.Player (aA.mk false false 0 0 false false false false) l_0.players).entered) ((aH n_1.Player (aA.mk false false 0 0 false false false false) l_0.players).guard) ((aH n_1.Player (aA.mk false false 0 0 false false false false) l_0.players).rank) ((aH n_1.Player (aA.mk false false 0 0 false false false false) l_0.players).turn) ((aH n_1.Player (aA.mk false false 0 0 false false false false) l_0.players).quit) ((aH n_1.Player (aA.mk false false 0 0 false false false false) l_0.players).signed) true true) l_0.players) x20 l_0.frozen l_0.first l_0.late l_0.more l_0.entered))
    else (some (aI.mk l_0.Field (cL n_1.Player (aH n_1.Player (aA.mk false false 0 0 false false false false) l_0.players) l_0.players) l_0.wilds l_0.frozen l_0.first l_0.late l_0.more l_0.entered)))
    else (bif decide (n_1.Kind = 4) then ((bif (aH n_1.Player (aA.mk false false 0 0 false false false false) l_0.players).wild then (some (decide (l_0.Field.Freeze < n_1.Hour))) else (some false)).bind fun b22 =>
    bif b22 then ((cM l_0.wilds (fun y23 => eE y23 n_1)).bind fun r24 =>
    some (aI.mk l_0.Field (cL n_1.Player (aA.mk ((aH n_1.Player (aA.mk false false 0 0 false false false false) l_0.players).entered) ((aH n_1.Player (aA.mk false false 0 0 false false false false) l_0.players).guard) ((aH n_1.Player (aA.mk false false 0 0 false false false false) l_0.players).rank) ((aH n_1.Player (aA.mk false false 0 0 false false false false) l_0.players).turn) true ((aH n_1.Player (aA.mk false false 0 0 false false false false) l_0.players).signed) false ((aH n_1.Player (aA.mk false false 0 0 false false false false) l_0.players).had)) l_0.players) r24 l_0.frozen l_0.first l_0.late (w64 (l_0.more + 1)) l_0.entered))
    else ((cM l_0.wilds (fun y26 => eE y26 n_1)).bind fun r27 =>
    some (aI.mk l_0.Field (cL n_1.Player (aA.mk ((aH n_1.Player (aA.mk false false 0 0 false false false false) l_0.players).entered) ((aH n_1.Player (aA.mk false false 0 0 false false false false) l_0.players).guard) ((aH n_1.Player (aA.mk false false 0 0 false false false false) l_0.players).rank) ((aH n_1.Player (aA.mk false false 0 0 false false false false) l_0.players).turn) true ((aH n_1.Player (aA.mk false false 0 0 false false false false) l_0.players).signed) false ((aH n_1.Player (aA.mk false false 0 0 false false false false) l_0.players).had)) l_0.players) r27 l_0.frozen l_0.first l_0.late l_0.more l_0.entered)))
    else (bif decide (n_1.Kind = 5) then (some (aI.mk l_0.Field (cL n_1.Player (aA.mk ((aH n_1.Player (aA.mk false false 0 0 false false false false) l_0.players).entered) ((aH n_1.Player (aA.mk false false 0 0 false false false false) l_0.players).guard) ((aH n_1.Player (aA.mk false false 0 0 false false false false) l_0.players).rank) ((aH n_1.Player (aA.mk false false 0 0 false false false false) l_0.players).turn) ((aH n_1.Player (aA.mk false false 0 0 false false false false) l_0.players).quit) true ((aH n_1.Player (aA.mk false false 0 0 false false false false) l_0.players).wild) ((aH n_1.Player (aA.mk false false 0 0 false false false false) l_0.players).had)) l_0.players) l_0.wilds l_0.frozen l_0.first l_0.late l_0.more l_0.entered))
    else (some (aI.mk l_0.Field (cL n_1.Player (aH n_1.Player (aA.mk false false 0 0 false false false false) l_0.players) l_0.players) l_0.wilds l_0.frozen l_0.first l_0.late l_0.more l_0.entered))))))

def eQ (n_0 : Int) (c_1_players : List (Int × aA)) : Option Bool :=
    (fB c_1_players n_0).bind fun r1 =>
    some (!r1)

def mC (n_1 : Int) : Option ((List Int)) :=
    bif decide (n_1 < 0) then (none)
    else (bif decide (0 < (w64 (n_1 - (w64 (0 - 0))))) then ((chk (decide (0 ≤ 0))).bind fun u2 =>
    (chk (decide (0 < (w64 (n_1 - (w64 (0 - 0))))) && decide ((w64 (n_1 - (w64 (0 - 0)))) * ((8 : Nat) : Int) ≤ 140737488355328))).bind fun u3 =>
    (chk (decide (0 ≤ 0))).bind fun u5 =>
    some ([] : List Int))
    else (some ([] : List Int)))

def rA (o24_102 : List Int) : Option ((List Int)) :=
    some o24_102

def fD (t25_2 : List (List Int)) (t26_2 : Int) : Nat → Int → (List Int) → Option ((List Int))
  | 0, _, _ => none
  | k2 + 1, t27_2, o24_2 =>
    bif decide (t27_2 < t26_2) then ((idx t25_2 t27_2).bind fun x5 =>
    (app 8 o24_2 x5).bind fun x6 =>
    (fD t25_2 t26_2 k2) (w64 (t27_2 + 1)) x6)
    else (rA o24_2)

def nD (slices_100 : List (List Int)) (size_100 : Int) : Option ((List Int)) :=
    (mC size_100).bind fun r3 =>
    fD slices_100 (slices_100.length : Int) BIG 0 r3

def fZ (slices_0 : List (List Int)) (t9_0 : List (List Int)) (t10_0 : Int) : Nat → Int → Int → Option ((List Int))
  | 0, _, _ => none
  | k0 + 1, size_0, t11_0 =>
    bif decide (t11_0 < t10_0) then ((idx t9_0 t11_0).bind fun x2 =>
    bif decide ((w64 (size_0 + (x2.length : Int))) < 0) then (none)
    else ((fZ slices_0 t9_0 t10_0 k0) (w64 (size_0 + (x2.length : Int))) (w64 (t11_0 + 1))))
    else (nD slices_0 size_0)

def kQ (slices_0 : List (List Int)) : Option ((List Int)) :=
    fZ slices_0 slices_0 (slices_0.length : Int) BIG 0 0

def dU (l_0 : aI) : Option ((List Int)) :=
    bif !l_0.frozen then ((jM l_0).bind fun r2 =>
    some r2)
    else ((kQ ([l_0.first, l_0.late])).bind fun r4 =>
    some r4)

def lP : Option Int :=
    some (-1)

def eC (s_0 : List Int) (v_0 : Int) (t7_0 : Int) : Nat → Int → Option Int
  | 0, _ => none
  | k0 + 1, t8_0 =>
    bif decide (t8_0 < t7_0) then ((idx s_0 t8_0).bind fun x1 =>
    bif decide (v_0 = x1) then (some t8_0)
    else ((eC s_0 v_0 t7_0 k0) (w64 (t8_0 + 1))))
    else (lP)

def gW (s_0 : List Int) (v_1 : Int) : Option Int :=
    eC s_0 v_1 (s_0.length : Int) BIG 0

def iM (s_0 : List Int) (v_1 : Int) : Option Bool :=
    (gW s_0 v_1).bind fun r1 =>
    some (decide (0 ≤ r1))

def jK (n_0 : Int) (c_1 : aI) (c_2 : List Int) : Option Bool :=
    (bif (aH n_0 (aA.mk false false 0 0 false false false false) c_1.players).signed then ((iM c_2 n_0).bind fun r2 =>
    some (!r2)) else (some false)).bind fun b3 =>
    (bif b3 then ((bif !((aH n_0 (aA.mk false false 0 0 false false false false) c_1.players).guard) then (some true) else ((iC c_1 c_2).bind fun r4 =>
    some (decide (r4 < c_1.Field.Guards)))).bind fun b5 =>
    some b5) else (some false)).bind fun b6 =>
    some b6

def mA (l_100 : List (Int × aA)) (l_100_2 : List Int) (l_100_3 : List Int) (l_100_4 : List Int) (l_100_5 : aV) (l_100_6 : Bool) (l_100_7 : Int) (l_100_8 : Int) : Option aI :=
    some (aI.mk l_100_5 l_100 l_100_2 l_100_6 l_100_3 l_100_4 l_100_7 l_100_8)

def gS (l_0 : List (Int × aA)) (l_0_2 : List Int) (l_0_3 : List Int) : Nat → (List Int) → aV → Bool → Int → Int → (List Int) → Option aI
  | 0, _, _, _, _, _, _ => none
  | k0 + 1, l_0_4, l_0_5, l_0_6, l_0_7, l_0_8, o25_0 =>
    (eD (aI.mk l_0_5 l_0 l_0_2 l_0_6 l_0_3 l_0_4 l_0_7 l_0_8)).bind fun r11 =>
    bif decide ((o25_0.length : Int) < r11) then ((eL (aI.mk l_0_5 l_0 l_0_2 l_0_6 l_0_3 l_0_4 l_0_7 l_0_8)).bind fun r12 =>
    (gA r12 (fun y14 => jK y14 (aI.mk l_0_5 l_0 l_0_2 l_0_6 l_0_3 l_0_4 l_0_7 l_0_8) o25_0)).bind fun r15 =>
    bif decide (r15 < 0) then (some (aI.mk l_0_5 l_0 l_0_2 l_0_6 l_0_3 l_0_4 l_0_7 l_0_8))
    else ((eL (aI.mk l_0_5 l_0 l_0_2 l_0_6 l_0_3 l_0_4 l_0_7 l_0_8)).bind fun r16 =>
    (idx r16 r15).bind fun x18 =>
    (app 8 l_0_4 ([x18])).bind fun x19 =>
    (dU (aI.mk l_0_5 l_0 l_0_2 l_0_6 l_0_3 x19 l_0_7 l_0_8)).bind fun r22 =>
    (gS l_0 l_0_2 l_0_3 k0) x19 l_0_5 l_0_6 l_0_7 l_0_8 r22))
    else (mA l_0 l_0_2 l_0_3 l_0_4 l_0_5 l_0_6 l_0_7 l_0_8)

def jC (l_0 : aI) : Option aI :=
    (cM l_0.first (fun y2 => eQ y2 l_0.players)).bind fun r3 =>
    (cM l_0.late (fun y5 => eQ y5 l_0.players)).bind fun r6 =>
    (dU (aI.mk l_0.Field l_0.players l_0.wilds l_0.frozen r3 r6 l_0.more l_0.entered)).bind fun r8 =>
    gS l_0.players l_0.wilds r3 BIG r6 l_0.Field l_0.frozen l_0.more l_0.entered r8

def lA (hour_100 : Int) (f_100 : aV) (o12_100 : List (Int × aA)) (o14_100 : List Int) (o14_100_2 : List Int) (o14_100_3 : List Int) (o14_100_4 : aV) (o14_100_5 : Bool) (o14_100_6 : Int) (o14_100_7 : Int) : Option ((Option aI)) :=
    bif decide (f_100.Freeze < hour_100) then ((jL (aI.mk o14_100_4 o12_100 o14_100 o14_100_5 o14_100_2 o14_100_3 o14_100_6 o14_100_7)).bind fun r13 =>
    some (some r13))
    else (some (some (aI.mk o14_100_4 o12_100 o14_100 o14_100_5 o14_100_2 o14_100_3 o14_100_6 o14_100_7)))

def eW (hour_0 : Int) (t20_0 : Int) (f_0 : aV) (o17_0 : List aJ) : Nat → Int → (List (Int × aA)) → (List Int) → (List Int) → (List Int) → aV → Bool → Int → Int → Option ((Option aI))
  | 0, _, _, _, _, _, _, _, _, _ => none
  | k0 + 1, t21_0, o12_0, o14_0, o14_0_2, o14_0_3, o14_0_4, o14_0_5, o14_0_6, o14_0_7 =>
    bif decide (t21_0 < t20_0) then ((idx o17_0 t21_0).bind fun x11 =>
    bif decide (hour_0 < x11.Hour) then (lA hour_0 f_0 o12_0 o14_0 o14_0_2 o14_0_3 o14_0_4 o14_0_5 o14_0_6 o14_0_7)
    else (bif decide (f_0.Freeze < x11.Hour) then ((jL (aI.mk o14_0_4 o12_0 o14_0 o14_0_5 o14_0_2 o14_0_3 o14_0_6 o14_0_7)).bind fun r19 =>
    (jD r19 x11).bind fun r25 =>
    bif r25.frozen then ((jC r25).bind fun r31 =>
    (eW hour_0 t20_0 f_0 o17_0 k0) (w64 (t21_0 + 1)) r31.players r31.wilds r31.first r31.late r31.Field r31.frozen r31.more r31.entered)
    else ((eW hour_0 t20_0 f_0 o17_0 k0) (w64 (t21_0 + 1)) r25.players r25.wilds r25.first r25.late r25.Field r25.frozen r25.more r25.entered))
    else ((jD (aI.mk o14_0_4 o12_0 o14_0 o14_0_5 o14_0_2 o14_0_3 o14_0_6 o14_0_7) x11).bind fun r37 =>
    bif r37.frozen then ((jC r37).bind fun r43 =>
    (eW hour_0 t20_0 f_0 o17_0 k0) (w64 (t21_0 + 1)) r43.players r43.wilds r43.first r43.late r43.Field r43.frozen r43.more r43.entered)
    else ((eW hour_0 t20_0 f_0 o17_0 k0) (w64 (t21_0 + 1)) r37.players r37.wilds r37.first r37.late r37.Field r37.frozen r37.more r37.entered))))
    else (lA hour_0 f_0 o12_0 o14_0 o14_0_2 o14_0_3 o14_0_4 o14_0_5 o14_0_6 o14_0_7)

def nO (f_0 : aV) (notices_1 : List aJ) (hour_2 : Int) : Option ((Option aI)) :=
    (jH notices_1).bind fun x4 =>
    (fO notices_1 (fun y5 y6 => dW y5 y6)).bind fun r7 =>
    (fF r7).bind fun r9 =>
    eW hour_2 (r9.length : Int) f_0 r9 BIG 0 ([] : List (Int × aA)) ([] : List Int) ([] : List Int) ([] : List Int) f_0 false 0 0

def mB (f_0 : aV) (notices_1 : List aJ) (hour_2 : Int) (player_3 : Int) : Option ((Option aI) × Int) :=
    (pI f_0 notices_1).bind fun r2 =>
    bif !decide (r2 = 0) then (some ((none : Option aI), r2))
    else ((cG hour_2 0 9999).bind fun r3 =>
    (bif !r3 then (some true) else ((cG player_3 0 999).bind fun r4 =>
    some (!r4))).bind fun b5 =>
    bif b5 then (some ((none : Option aI), 1))
    else ((nO f_0 notices_1 hour_2).bind fun r6 =>
    some (r6, 0)))

def jS (n_0 : Int) (c_1 : List Int) : Option Bool :=
    (iM c_1 n_0).bind fun r1 =>
    some r1

def hC (l_0 : aI) : Option ((List Int)) :=
    (dU l_0).bind fun r1 =>
    (eL l_0).bind fun r3 =>
    (cM r3 (fun y5 => jS y5 r1)).bind fun r6 =>
    some r6

def lY (f_0 : aV) (notices_1 : List aJ) (hour_2 : Int) : Option (dE × Int) :=
    (mB f_0 notices_1 hour_2 0).bind fun r3 =>
    bif !decide (r3.2 = 0) then (some ((dE.mk ([] : List Int) ([] : List Int) ([] : List Int) 0), r3.2))
    else ((r3.1).bind fun x4 =>
    (dU x4).bind fun r5 =>
    (r3.1).bind fun x6 =>
    (hC x6).bind fun r7 =>
    (eD x6).bind fun r8 =>
    some ((dE.mk r5 x6.wilds r7 (w64 (r8 - (r5.length : Int)))), 0))

def nV : Option (Int × Int) :=
    some (0, 0)

def iL (player_0 : Int) (t17_0 : List (List Int)) (t18_0 : Int) : Nat → Int → Option (Int × Int)
  | 0, _ => none
  | k0 + 1, t19_0 =>
    bif decide (t19_0 < t18_0) then ((idx t17_0 t19_0).bind fun x3 =>
    (gW x3 player_0).bind fun r4 =>
    bif decide (0 ≤ r4) then (some (w64 (t19_0 + 1), w64 (r4 + 1)))
    else ((iL player_0 t17_0 t18_0 k0) (w64 (t19_0 + 1))))
    else (nV)

def iR (l_0 : aI) (player_1 : Int) : Option (Int × Int) :=
    (dU l_0).bind fun r1 =>
    (hC l_0).bind fun r2 =>
    iL player_1 ([r1, l_0.wilds, r2]) (([r1, l_0.wilds, r2]).length : Int) BIG 0

def lM (n_0 : Int) (c_1 : aI) : Option Bool :=
    some (!((aH n_0 (aA.mk false false 0 0 false false false false) c_1.players).signed))

def jZ (again0 : aT → aT → Option (aT × Bool)) (t1_101 : aI) (t2_101 : List Int) (t3_101 : Int) (s_101 : aT) (nextv_101 : aT) : Option (aT × Bool) :=
    again0 s_101 nextv_101

def gG (again0 : aT → aT → Option (aT × Bool)) (t1_102 : aI) (t2_102 : List Int) (t3_102 : Int) (got_102 : Bool) (s_102 : aT) (nextv_102 : aT) : Option (aT × Bool) :=
    bif !got_102 then (some (s_102, false))
    else (jZ again0 t1_102 t2_102 t3_102 s_102 nextv_102)

def gH (again0 : aT → aT → Option (aT × Bool)) (t1_2 : aI) (t2_2 : List Int) (t3_2 : Int) (t21_2 : List Int) (t22_2 : Int) : Nat → Int → Int → Bool → Int → aT → aT → Option (aT × Bool)
  | 0, _, _, _, _, _, _ => none
  | k2 + 1, moved_2, covered_2, got_2, t23_2, s_2, nextv_2 =>
    bif decide (t23_2 < t22_2) then ((idx t21_2 t23_2).bind fun x4 =>
    (bif (aH x4 (aA.mk false false 0 0 false false false false) t1_2.players).guard then (some (decide (covered_2 < s_2.covered))) else (some false)).bind fun b5 =>
    bif b5 then ((gH again0 t1_2 t2_2 t3_2 t21_2 t22_2 k2) moved_2 (w64 (covered_2 + 1)) got_2 (w64 (t23_2 + 1)) s_2 nextv_2)
    else ((bif !((aH x4 (aA.mk false false 0 0 false false false false) t1_2.players).guard) then (some (decide (moved_2 < s_2.moved))) else (some false)).bind fun b6 =>
    bif b6 then ((gH again0 t1_2 t2_2 t3_2 t21_2 t22_2 k2) (w64 (moved_2 + 1)) covered_2 got_2 (w64 (t23_2 + 1)) s_2 nextv_2)
    else ((bif (aH x4 (aA.mk false false 0 0 false false false false) t1_2.players).guard then (some (decide (t1_2.Field.Guards ≤ s_2.guarded))) else (some false)).bind fun b7 =>
    bif b7 then ((gH again0 t1_2 t2_2 t3_2 t21_2 t22_2 k2) moved_2 covered_2 got_2 (w64 (t23_2 + 1)) s_2 nextv_2)
    else (bif decide (x4 = t3_2) then (some (s_2, true))
    else (bif (aH x4 (aA.mk false false 0 0 false false false false) t1_2.players).guard then (gG again0 t1_2 t2_2 t3_2 true (aT.mk s_2.free (w64 (s_2.guarded + 1)) s_2.moved (w64 (s_2.covered + 1))) nextv_2)
    else (gG again0 t1_2 t2_2 t3_2 true (aT.mk (w64 (s_2.free + 1)) s_2.guarded (w64 (s_2.moved + 1)) s_2.covered) nextv_2))))))
    else (gG again0 t1_2 t2_2 t3_2 got_2 s_2 nextv_2)

def pL (s_100 : aT) (nextv_100 : aT) : Option (aT × Bool) :=
    some (s_100, false)

def iO (t1_0 : aI) (t2_0 : List Int) (t3_0 : Int) : Nat → aT → aT → Option (aT × Bool)
  | 0, _, _ => none
  | k0 + 1, s_0, nextv_0 =>
    (eD t1_0).bind fun r3 =>
    bif decide ((w64 (s_0.free + s_0.guarded)) < r3) then (gH (iO t1_0 t2_0 t3_0 k0) t1_0 t2_0 t3_0 t2_0 (t2_0.length : Int) BIG 0 0 false 0 s_0 nextv_0)
    else (pL s_0 nextv_0)

def lN (s_0 : aT) (c_1 : aI) (c_2 : List Int) (c_3 : Int) : Option (aT × Bool) :=
    iO c_1 c_2 c_3 BIG s_0 (aT.mk 0 0 0 0)

def qO (again0 : (List aT) → Int → (List (aT × Int)) → Option Int) (again2 : Int → (List aT) → (List (aT × Int)) → Option Int) (fill_103 : aI) (fill_103_2 : List Int) (fill_103_3 : Int) (many_103 : Int) (t41_103 : List aT) (t42_103 : Int) (t43_103 : Int) (nextv_103 : List aT) (o35_103 : List (aT × Int)) : Option Int :=
    again2 (w64 (t43_103 + 1)) nextv_103 o35_103

def qP (again0 : (List aT) → Int → (List (aT × Int)) → Option Int) (again2 : Int → (List aT) → (List (aT × Int)) → Option Int) (fill_104 : aI) (fill_104_2 : List Int) (fill_104_3 : Int) (many_104 : Int) (t41_104 : List aT) (t42_104 : Int) (t43_104 : Int) (nextv_104 : List aT) (o35_104 : List (aT × Int)) : Option Int :=
    qO again0 again2 fill_104 fill_104_2 fill_104_3 many_104 t41_104 t42_104 t43_104 nextv_104 o35_104

def eG (again0 : (List aT) → Int → (List (aT × Int)) → Option Int) (again2 : Int → (List aT) → (List (aT × Int)) → Option Int) (fill_4 : aI) (fill_4_2 : List Int) (fill_4_3 : Int) (many_4 : Int) (t41_4 : List aT) (t42_4 : Int) (t43_4 : Int) (s_4 : aT) : Nat → Int → (List aT) → (List (aT × Int)) → Option Int
  | 0, _, _, _ => none
  | k4 + 1, t47_4, nextv_4, o35_4 =>
    bif decide (t47_4 < 2) then (bif decide (t47_4 = 1) then ((bif decide ((w64 (s_4.guarded - 1)) < 0) then (some true) else (some (decide (s_4.free < 0)))).bind fun b16 =>
    bif b16 then ((eG again0 again2 fill_4 fill_4_2 fill_4_3 many_4 t41_4 t42_4 t43_4 s_4 k4) (w64 (t47_4 + 1)) nextv_4 o35_4)
    else ((lN (aT.mk s_4.free (w64 (s_4.guarded - 1)) s_4.moved s_4.covered) fill_4 fill_4_2 fill_4_3).bind fun r17 =>
    bif r17.2 then (some many_4)
    else (bif decide ((aH r17.1 0 (cL r17.1 (w64 ((aH r17.1 0 o35_4) + 1)) o35_4)) = 1) then ((app 32 nextv_4 ([r17.1])).bind fun x18 =>
    (eG again0 again2 fill_4 fill_4_2 fill_4_3 many_4 t41_4 t42_4 t43_4 s_4 k4) (w64 (t47_4 + 1)) x18 (cL r17.1 (w64 ((aH r17.1 0 o35_4) + 1)) o35_4))
    else ((eG again0 again2 fill_4 fill_4_2 fill_4_3 many_4 t41_4 t42_4 t43_4 s_4 k4) (w64 (t47_4 + 1)) nextv_4 (cL r17.1 (w64 ((aH r17.1 0 o35_4) + 1)) o35_4)))))
    else ((bif decide (s_4.guarded < 0) then (some true) else (some (decide ((w64 (s_4.free - 1)) < 0)))).bind fun b20 =>
    bif b20 then ((eG again0 again2 fill_4 fill_4_2 fill_4_3 many_4 t41_4 t42_4 t43_4 s_4 k4) (w64 (t47_4 + 1)) nextv_4 o35_4)
    else ((lN (aT.mk (w64 (s_4.free - 1)) s_4.guarded s_4.moved s_4.covered) fill_4 fill_4_2 fill_4_3).bind fun r21 =>
    bif r21.2 then (some many_4)
    else (bif decide ((aH r21.1 0 (cL r21.1 (w64 ((aH r21.1 0 o35_4) + 1)) o35_4)) = 1) then ((app 32 nextv_4 ([r21.1])).bind fun x22 =>
    (eG again0 again2 fill_4 fill_4_2 fill_4_3 many_4 t41_4 t42_4 t43_4 s_4 k4) (w64 (t47_4 + 1)) x22 (cL r21.1 (w64 ((aH r21.1 0 o35_4) + 1)) o35_4))
    else ((eG again0 again2 fill_4 fill_4_2 fill_4_3 many_4 t41_4 t42_4 t43_4 s_4 k4) (w64 (t47_4 + 1)) nextv_4 (cL r21.1 (w64 ((aH r21.1 0 o35_4) + 1)) o35_4))))))
    else (qP again0 again2 fill_4 fill_4_2 fill_4_3 many_4 t41_4 t42_4 t43_4 nextv_4 o35_4)

def qM (again0 : (List aT) → Int → (List (aT × Int)) → Option Int) (fill_101 : aI) (fill_101_2 : List Int) (fill_101_3 : Int) (many_101 : Int) (nextv_101 : List aT) (o35_101 : List (aT × Int)) : Option Int :=
    again0 nextv_101 (w64 (many_101 + 1)) o35_101

def qN (again0 : (List aT) → Int → (List (aT × Int)) → Option Int) (fill_102 : aI) (fill_102_2 : List Int) (fill_102_3 : Int) (many_102 : Int) (nextv_102 : List aT) (o35_102 : List (aT × Int)) : Option Int :=
    qM again0 fill_102 fill_102_2 fill_102_3 many_102 nextv_102 o35_102

def jB (again0 : (List aT) → Int → (List (aT × Int)) → Option Int) (fill_2 : aI) (fill_2_2 : List Int) (fill_2_3 : Int) (many_2 : Int) (t41_2 : List aT) (t42_2 : Int) : Nat → Int → (List aT) → (List (aT × Int)) → Option Int
  | 0, _, _, _ => none
  | k2 + 1, t43_2, nextv_2, o35_2 =>
    bif decide (t43_2 < t42_2) then ((idx t41_2 t43_2).bind fun x13 =>
    eG again0 (jB again0 fill_2 fill_2_2 fill_2_3 many_2 t41_2 t42_2 k2) fill_2 fill_2_2 fill_2_3 many_2 t41_2 t42_2 t43_2 x13 BIG 0 nextv_2 o35_2)
    else (qN again0 fill_2 fill_2_2 fill_2_3 many_2 nextv_2 o35_2)

def qL : Option Int :=
    some 61

def fV (fill_0 : aI) (fill_0_2 : List Int) (fill_0_3 : Int) : Nat → (List aT) → Int → (List (aT × Int)) → Option Int
  | 0, _, _, _ => none
  | k0 + 1, now_0, many_0, o35_0 =>
    bif decide (0 < (now_0.length : Int)) then (jB (fV fill_0 fill_0_2 fill_0_3 k0) fill_0 fill_0_2 fill_0_3 many_0 now_0 (now_0.length : Int) BIG 0 ([] : List aT) o35_0)
    else (qL)

def pC (l_0 : aI) (player_1 : Int) : Option Int :=
    (dU l_0).bind fun r3 =>
    (iC l_0 r3).bind fun r4 =>
    (hC l_0).bind fun r5 =>
    (cM r5 (fun y7 => lM y7 l_0)).bind fun r8 =>
    fV l_0 r8 player_1 BIG ([(aT.mk (w64 ((r3.length : Int) - r4)) r4 0 0)]) 1 ([] : List (aT × Int))

def mW (again2 : Int → Int → Option Int) (l_103 : aI) (player_103 : Int) (free_103 : Int) (guarded_103 : Int) (best_103 : Int) (t36_103 : Int) (t37_103 : Int) : Option Int :=
    again2 best_103 (w64 (t37_103 + 1))

def mX (again2 : Int → Int → Option Int) (l_104 : aI) (player_104 : Int) (free_104 : Int) (guarded_104 : Int) (best_104 : Int) (t36_104 : Int) (t37_104 : Int) : Option Int :=
    mW again2 l_104 player_104 free_104 guarded_104 best_104 t36_104 t37_104

def fU (again2 : Int → Int → Option Int) (l_4 : aI) (player_4 : Int) (free_4 : Int) (guarded_4 : Int) (x_4 : Int) (t36_4 : Int) (t37_4 : Int) (t41_4 : Int) : Nat → Int → Int → Option Int
  | 0, _, _ => none
  | k4 + 1, best_4, t42_4 =>
    bif decide (t42_4 < t41_4) then ((eD l_4).bind fun r3 =>
    (bif decide ((w64 ((w64 (free_4 - x_4)) + (min (w64 (guarded_4 - t42_4)) l_4.Field.Guards))) < r3) then ((bif !((aH player_4 (aA.mk false false 0 0 false false false false) l_4.players).guard) then (some true) else (some (decide ((min (w64 (guarded_4 - t42_4)) l_4.Field.Guards) < l_4.Field.Guards)))).bind fun b4 =>
    some b4) else (some false)).bind fun b5 =>
    bif b5 then ((fU again2 l_4 player_4 free_4 guarded_4 x_4 t36_4 t37_4 t41_4 k4) (min best_4 (w64 (x_4 + t42_4))) (w64 (t42_4 + 1)))
    else ((fU again2 l_4 player_4 free_4 guarded_4 x_4 t36_4 t37_4 t41_4 k4) best_4 (w64 (t42_4 + 1))))
    else (mX again2 l_4 player_4 free_4 guarded_4 best_4 t36_4 t37_4)

def mV (best_102 : Int) : Option Int :=
    some best_102

def eZ (l_2 : aI) (player_2 : Int) (free_2 : Int) (guarded_2 : Int) (t36_2 : Int) : Nat → Int → Int → Option Int
  | 0, _, _ => none
  | k2 + 1, best_2, t37_2 =>
    bif decide (t37_2 < t36_2) then (fU (eZ l_2 player_2 free_2 guarded_2 t36_2 k2) l_2 player_2 free_2 guarded_2 t37_2 t36_2 t37_2 (w64 (guarded_2 + 1)) BIG best_2 0)
    else (mV best_2)

def kS (l_100 : aI) (player_100 : Int) (free_100 : Int) (guarded_100 : Int) : Option Int :=
    eZ l_100 player_100 free_100 guarded_100 (w64 (free_100 + 1)) BIG 61 0

def jA (l_0 : aI) (player_0 : Int) (t14_0 : List Int) (t15_0 : Int) : Nat → Int → Int → Int → Option Int
  | 0, _, _, _ => none
  | k0 + 1, free_0, guarded_0, t16_0 =>
    bif decide (t16_0 < t15_0) then ((idx t14_0 t16_0).bind fun x2 =>
    bif decide (x2 = player_0) then (kS l_0 player_0 free_0 guarded_0)
    else (bif (aH x2 (aA.mk false false 0 0 false false false false) l_0.players).guard then ((jA l_0 player_0 t14_0 t15_0 k0) free_0 (w64 (guarded_0 + 1)) (w64 (t16_0 + 1)))
    else ((jA l_0 player_0 t14_0 t15_0 k0) (w64 (free_0 + 1)) guarded_0 (w64 (t16_0 + 1)))))
    else (kS l_0 player_0 free_0 guarded_0)

def kO (l_0 : aI) (player_1 : Int) : Option Int :=
    (eL l_0).bind fun r1 =>
    jA l_0 player_1 r1 (r1.length : Int) BIG 0 0 0

def pJ (f_0 : aV) (notices_1 : List aJ) (hour_2 : Int) (player_3 : Int) : Option (Int × Int) :=
    (mB f_0 notices_1 hour_2 player_3).bind fun r2 =>
    bif !decide (r2.2 = 0) then (some (0, r2.2))
    else ((r2.1).bind fun x3 =>
    (iR x3 player_3).bind fun r4 =>
    bif decide (r4.1 = 1) then (bif decide (0 = 61) then (some (0, 3))
    else (some (0, 0)))
    else ((bif decide (r4.1 = 3) then ((r2.1).bind fun x5 =>
    some x5.frozen) else (some false)).bind fun b6 =>
    bif b6 then ((r2.1).bind fun x7 =>
    (pC x7 player_3).bind fun r8 =>
    bif decide (r8 = 61) then (some (0, 3))
    else (some (r8, 0)))
    else (bif decide (r4.1 = 3) then ((r2.1).bind fun x9 =>
    (kO x9 player_3).bind fun r10 =>
    bif decide (r10 = 61) then (some (0, 3))
    else (some (r10, 0)))
    else (bif decide (61 = 61) then (some (0, 3))
    else (some (61, 0))))))

def slices_Sort_int (x : List Int) : Option (List Int) := if x.length < 4611686018427387904 then some (pV x) else none

def mO (again0 : Int → (List Int) → Option ((List Int))) (k_102 : Int) (s_102 : List Int) : Option ((List Int)) :=
    (chk (decide (0 ≤ k_102) && decide (k_102 ≤ (s_102.length : Int)))).bind fun u9 =>
    (chk (decide (k_102.toNat ≤ s_102.length))).bind fun u10 =>
    (chk (decide (0 ≤ k_102))).bind fun u11 =>
    some (s_102.take k_102.toNat)

def eP (again0 : Int → (List Int) → Option ((List Int))) (s2_2 : Int) : Nat → Int → Int → (List Int) → Option ((List Int))
  | 0, _, _, _ => none
  | k2 + 1, k_2, k2_2, s_2 =>
    bif decide (k2_2 < ((s_2.drop s2_2.toNat).length : Int)) then ((idx (s_2.drop s2_2.toNat) k2_2).bind fun x5 =>
    (idx (s_2.drop s2_2.toNat) (w64 (k2_2 - 1))).bind fun x6 =>
    bif !decide (x5 = x6) then ((idx (s_2.drop s2_2.toNat) k2_2).bind fun x7 =>
    (idx s_2 k_2).bind fun x8 =>
    (eP again0 s2_2 k2) (w64 (k_2 + 1)) (w64 (k2_2 + 1)) (s_2.set k_2.toNat x7))
    else ((eP again0 s2_2 k2) k_2 (w64 (k2_2 + 1)) s_2))
    else (mO again0 k_2 s_2)

def mN (again0 : Int → (List Int) → Option ((List Int))) (k_101 : Int) (s_101 : List Int) : Option ((List Int)) :=
    again0 (w64 (k_101 + 1)) s_101

def mM (s_100 : List Int) : Option ((List Int)) :=
    some s_100

def dR : Nat → Int → (List Int) → Option ((List Int))
  | 0, _, _ => none
  | k0 + 1, k_0, s_0 =>
    bif decide (k_0 < (s_0.length : Int)) then ((idx s_0 k_0).bind fun x2 =>
    (idx s_0 (w64 (k_0 - 1))).bind fun x3 =>
    bif decide (x2 = x3) then ((chk (decide (0 ≤ k_0) && decide (k_0 ≤ (s_0.length : Int)))).bind fun u4 =>
    eP (dR k0) k_0 BIG k_0 1 s_0)
    else (mN (dR k0) k_0 s_0))
    else (mM s_0)

def kF (s_0 : List Int) : Option ((List Int)) :=
    bif decide ((s_0.length : Int) < 2) then (some s_0)
    else (dR BIG 1 s_0)

def sO : Option (Int × Int) :=
    some (0, 3)

def kL (notices_2 : List aJ) (player_2 : Int) (t43_2 : Int) (f_2 : aV) (hours_2 : List Int) : Nat → Int → Option (Int × Int)
  | 0, _ => none
  | k2 + 1, t44_2 =>
    bif decide (t44_2 < t43_2) then ((idx hours_2 t44_2).bind fun x11 =>
    (nO f_2 notices_2 x11).bind fun r12 =>
    (r12).bind fun x13 =>
    (iR x13 player_2).bind fun r14 =>
    (bif decide (r14.1 = 1) then (some true) else (some (decide (r14.1 = 2)))).bind fun b15 =>
    bif b15 then (some (x11, 0))
    else ((kL notices_2 player_2 t43_2 f_2 hours_2 k2) (w64 (t44_2 + 1))))
    else (sO)

def pP (notices_100 : List aJ) (player_100 : Int) (f_100 : aV) (hours_100 : List Int) : Option (Int × Int) :=
    (slices_Sort_int hours_100).bind fun r8 =>
    (kF r8).bind fun r9 =>
    kL notices_100 player_100 (r9.length : Int) f_100 r9 BIG 0

def kK (notices_0 : List aJ) (player_0 : Int) (t27_0 : List aJ) (t28_0 : Int) (f_0 : aV) : Nat → Int → (List Int) → Option (Int × Int)
  | 0, _, _ => none
  | k0 + 1, t29_0, hours_0 =>
    bif decide (t29_0 < t28_0) then ((idx t27_0 t29_0).bind fun x4 =>
    (app 8 hours_0 ([x4.Hour])).bind fun x6 =>
    (kK notices_0 player_0 t27_0 t28_0 f_0 k0) (w64 (t29_0 + 1)) x6)
    else (pP notices_0 player_0 f_0 hours_0)

def oX (f_0 : aV) (notices_1 : List aJ) (player_2 : Int) : Option (Int × Int) :=
    (mB f_0 notices_1 0 player_2).bind fun r2 =>
    bif !decide (r2.2 = 0) then (some (0, r2.2))
    else (kK notices_1 player_2 notices_1 (notices_1.length : Int) f_0 BIG 0 ([] : List Int))

def pF : Option Bool :=
    some true

def jY (a_0 : List Int) (b_0 : List Int) : Nat → Int → Option Bool
  | 0, _ => none
  | k0 + 1, i_0 =>
    bif decide (i_0 < (a_0.length : Int)) then ((idx a_0 i_0).bind fun x1 =>
    (idx b_0 i_0).bind fun x2 =>
    bif !decide (x1 = x2) then (some false)
    else ((jY a_0 b_0 k0) (w64 (i_0 + 1))))
    else (pF)

def jP (a_0 : List Int) (b_1 : List Int) : Option Bool :=
    bif !decide ((a_0.length : Int) = (b_1.length : Int)) then (some false)
    else (jY a_0 b_1 BIG 0)

def jR : Option Bool :=
    (iT).bind fun r1 =>
    (lY r1.1 r1.2 12).bind fun r3 =>
    (pJ r1.1 r1.2 10 4).bind fun r5 =>
    (oX r1.1 r1.2 4).bind fun r6 =>
    (bif decide (r3.2 = 0) then (some (decide (r5.2 = 0))) else (some false)).bind fun b7 =>
    (bif b7 then (some (decide (r6.2 = 0))) else (some false)).bind fun b8 =>
    (bif b8 then (some (decide (r5.1 = 2))) else (some false)).bind fun b9 =>
    (bif b9 then (some (decide (r6.1 = 15))) else (some false)).bind fun b10 =>
    (bif b10 then ((jP r3.1.Main ([9, 8, 5])).bind fun r11 =>
    some r11) else (some false)).bind fun b12 =>
    (bif b12 then ((jP r3.1.Wilds ([7])).bind fun r13 =>
    some r13) else (some false)).bind fun b14 =>
    (bif b14 then ((jP r3.1.Out ([6, 4])).bind fun r15 =>
    some r15) else (some false)).bind fun b16 =>
    some b16

def mI (first_100 : aJ) : Option (Bool × Bool × Int) :=
    some (decide (first_100.Hour ≤ 9999), decide (first_100.Kind = 2), first_100.Rank)

def cY (l_0 : List aJ) (hour_0 : Int) (player_0 : Int) (f_0 : aV) : Nat → Int → aJ → Option (Bool × Bool × Int)
  | 0, _, _ => none
  | k0 + 1, i_0, first_0 =>
    bif decide (i_0 < (l_0.length : Int)) then ((idx l_0 i_0).bind fun x3 =>
    (bif decide (x3.Player = player_0) then ((bif decide (x3.Kind = 1) then (some true) else (some (decide (x3.Kind = 2)))).bind fun b5 =>
    some b5) else (some false)).bind fun b6 =>
    (bif b6 then (some (decide (x3.Hour ≤ hour_0))) else (some false)).bind fun b7 =>
    (bif b7 then (some (decide (x3.Hour ≤ f_0.Close))) else (some false)).bind fun b8 =>
    (bif b8 then ((bif decide (x3.Hour < first_0.Hour) then (some true) else ((bif decide (x3.Hour = first_0.Hour) then (some (decide (x3.Id < first_0.Id))) else (some false)).bind fun b9 =>
    some b9)).bind fun b10 =>
    some b10) else (some false)).bind fun b11 =>
    bif b11 then ((cY l_0 hour_0 player_0 f_0 k0) (w64 (i_0 + 1)) x3)
    else ((cY l_0 hour_0 player_0 f_0 k0) (w64 (i_0 + 1)) first_0))
    else (mI first_0)

def iU (f_0 : aV) (l_1 : List aJ) (hour_2 : Int) (player_3 : Int) : Option (Bool × Bool × Int) :=
    cY l_1 hour_2 player_3 f_0 BIG 0 (aJ.mk 0 10000 0 0 0)

def pB : Option Bool :=
    some false

def iB (l_0 : List Int) (n_0 : Int) : Nat → Int → Option Bool
  | 0, _ => none
  | k0 + 1, i_0 =>
    bif decide (i_0 < (l_0.length : Int)) then ((idx l_0 i_0).bind fun x1 =>
    bif decide (x1 = n_0) then (some true)
    else ((iB l_0 n_0 k0) (w64 (i_0 + 1))))
    else (pB)

def mJ (l_0 : List Int) (n_1 : Int) : Option Bool :=
    iB l_0 n_1 BIG 0

def pK (f_0 : aV) (notices_1 : List aJ) (hour_2 : Int) (player_3 : Int) : Option (Int × Int × Int) :=
    (mB f_0 notices_1 hour_2 player_3).bind fun r2 =>
    bif !decide (r2.2 = 0) then (some (0, 0, r2.2))
    else ((r2.1).bind fun x3 =>
    (iR x3 player_3).bind fun r4 =>
    some (r4.1, r4.2, 0))

def bX (again2 : Int → Int → Option Bool) (l_103 : List aJ) (hour_103 : Int) (back_103 : Int) (allv_103 : List Int) (guards_103 : Int) (i_103 : Int) (f_103 : aV) (x_103 : dE) : Option Bool :=
    again2 guards_103 (w64 (i_103 + 1))

def cO (again2 : Int → Int → Option Bool) (l_106 : List aJ) (hour_106 : Int) (back_106 : Int) (allv_106 : List Int) (guards_106 : Int) (i_106 : Int) (want_106 : Int) (f_106 : aV) (x_106 : dE) : Option Bool :=
    (idx allv_106 i_106).bind fun x34 =>
    (iU f_106 l_106 hour_106 x34).bind fun r35 =>
    (bif !decide (want_106 = 2) then (some (!r35.1)) else (some false)).bind fun b36 =>
    bif b36 then (some false)
    else ((bif decide (want_106 = 1) then (some r35.2.1) else (some false)).bind fun b37 =>
    bif b37 then (bX again2 l_106 hour_106 back_106 allv_106 (w64 (guards_106 + 1)) i_106 f_106 x_106)
    else (bX again2 l_106 hour_106 back_106 allv_106 guards_106 i_106 f_106 x_106))

def bI (again2 : Int → Int → Option Bool) (l_6 : List aJ) (hour_6 : Int) (back_6 : Int) (allv_6 : List Int) (guards_6 : Int) (i_6 : Int) (want_6 : Int) (f_6 : aV) (x_6 : dE) : Nat → Int → Option Bool
  | 0, _ => none
  | k6 + 1, k_6 =>
    bif decide (k_6 < (l_6.length : Int)) then ((idx l_6 k_6).bind fun x28 =>
    (idx allv_6 i_6).bind fun x29 =>
    (bif decide (x28.Player = x29) then ((idx l_6 k_6).bind fun x30 =>
    some (decide (x30.Kind = 4))) else (some false)).bind fun b31 =>
    (bif b31 then ((idx l_6 k_6).bind fun x32 =>
    some (decide (x32.Hour ≤ hour_6))) else (some false)).bind fun b33 =>
    bif b33 then (some false)
    else ((bI again2 l_6 hour_6 back_6 allv_6 guards_6 i_6 want_6 f_6 x_6 k6) (w64 (k_6 + 1))))
    else (cO again2 l_6 hour_6 back_6 allv_6 guards_6 i_6 want_6 f_6 x_6)

def eF (again2 : Int → Int → Option Bool) (l_104 : List aJ) (hour_104 : Int) (back_104 : Int) (allv_104 : List Int) (guards_104 : Int) (i_104 : Int) (f_104 : aV) (x_104 : dE) : Option Bool :=
    (idx allv_104 i_104).bind fun x24 =>
    (pK f_104 l_104 hour_104 x24).bind fun r25 =>
    bif decide ((x_104.Main.length : Int) ≤ i_104) then (bif decide ((w64 ((x_104.Main.length : Int) + (x_104.Wilds.length : Int))) ≤ i_104) then ((bif !decide (r25.2.2 = 0) then (some true) else (some (!decide (r25.1 = 3)))).bind fun b26 =>
    (bif b26 then (some true) else (some (!decide (r25.2.1 = (w64 ((w64 ((w64 (i_104 + 1)) - (x_104.Main.length : Int))) - (x_104.Wilds.length : Int))))))).bind fun b27 =>
    bif b27 then (some false)
    else (bI again2 l_104 hour_104 back_104 allv_104 guards_104 i_104 3 f_104 x_104 BIG 0))
    else ((bif !decide (r25.2.2 = 0) then (some true) else (some (!decide (r25.1 = 2)))).bind fun b38 =>
    (bif b38 then (some true) else (some (!decide (r25.2.1 = (w64 ((w64 (i_104 + 1)) - (x_104.Main.length : Int))))))).bind fun b39 =>
    bif b39 then (some false)
    else (bI again2 l_104 hour_104 back_104 allv_104 guards_104 i_104 2 f_104 x_104 BIG 0)))
    else (bif decide ((w64 ((x_104.Main.length : Int) + (x_104.Wilds.length : Int))) ≤ i_104) then ((bif !decide (r25.2.2 = 0) then (some true) else (some (!decide (r25.1 = 3)))).bind fun b40 =>
    (bif b40 then (some true) else (some (!decide (r25.2.1 = (w64 ((w64 ((w64 (i_104 + 1)) - (x_104.Main.length : Int))) - (x_104.Wilds.length : Int))))))).bind fun b41 =>
    bif b41 then (some false)
    else (bI again2 l_104 hour_104 back_104 allv_104 guards_104 i_104 3 f_104 x_104 BIG 0))
    else ((bif !decide (r25.2.2 = 0) then (some true) else (some (!decide (r25.1 = 1)))).bind fun b42 =>
    (bif b42 then (some true) else (some (!decide (r25.2.1 = (w64 (i_104 + 1)))))).bind fun b43 =>
    bif b43 then (some false)
    else (bI again2 l_104 hour_104 back_104 allv_104 guards_104 i_104 1 f_104 x_104 BIG 0)))

def dC (again2 : Int → Int → Option Bool) (l_4 : List aJ) (hour_4 : Int) (back_4 : Int) (allv_4 : List Int) (guards_4 : Int) (i_4 : Int) (f_4 : aV) (x_4 : dE) : Nat → Int → Option Bool
  | 0, _ => none
  | k4 + 1, k_4 =>
    bif decide (k_4 < i_4) then ((idx allv_4 k_4).bind fun x22 =>
    (idx allv_4 i_4).bind fun x23 =>
    bif decide (x22 = x23) then (some false)
    else ((dC again2 l_4 hour_4 back_4 allv_4 guards_4 i_4 f_4 x_4 k4) (w64 (k_4 + 1))))
    else (eF again2 l_4 hour_4 back_4 allv_4 guards_4 i_4 f_4 x_4)

def gO (back_102 : Int) (guards_102 : Int) (f_102 : aV) (x_102 : dE) : Option Bool :=
    (bif decide ((w64 ((x_102.Main.length : Int) + x_102.Open)) = (w64 (f_102.Places + back_102))) then (some (decide (guards_102 ≤ f_102.Guards))) else (some false)).bind fun b44 =>
    (bif b44 then ((jR).bind fun r45 =>
    some r45) else (some false)).bind fun b46 =>
    some b46

def bP (l_2 : List aJ) (hour_2 : Int) (back_2 : Int) (allv_2 : List Int) (f_2 : aV) (x_2 : dE) : Nat → Int → Int → Option Bool
  | 0, _, _ => none
  | k2 + 1, guards_2, i_2 =>
    bif decide (i_2 < (allv_2.length : Int)) then (dC (bP l_2 hour_2 back_2 allv_2 f_2 x_2 k2) l_2 hour_2 back_2 allv_2 guards_2 i_2 f_2 x_2 BIG 0)
    else (gO back_2 guards_2 f_2 x_2)

def gN (l_100 : List aJ) (hour_100 : Int) (back_100 : Int) (f_100 : aV) (x_100 : dE) : Option Bool :=
    (app 8 ([] : List Int) x_100.Main).bind fun x16 =>
    (app 8 x16 x_100.Wilds).bind fun x18 =>
    (app 8 x18 x_100.Out).bind fun x20 =>
    bP l_100 hour_100 back_100 x20 f_100 x_100 BIG 0 0

def dJ (l_0 : List aJ) (hour_0 : Int) (f_0 : aV) (x_0 : dE) (before_0 : dE) : Nat → Int → Int → Option Bool
  | 0, _, _ => none
  | k0 + 1, back_0, i_0 =>
    bif decide (i_0 < (before_0.Wilds.length : Int)) then ((idx before_0.Wilds i_0).bind fun x13 =>
    (mJ x_0.Wilds x13).bind fun r14 =>
    bif !r14 then ((dJ l_0 hour_0 f_0 x_0 before_0 k0) (w64 (back_0 + 1)) (w64 (i_0 + 1)))
    else ((dJ l_0 hour_0 f_0 x_0 before_0 k0) back_0 (w64 (i_0 + 1))))
    else (gN l_0 hour_0 back_0 f_0 x_0)

def jX (f_0 : aV) (l_1 : List aJ) (hour_2 : Int) : Option Bool :=
    (lB f_0 l_1).bind fun r2 =>
    (bif !r2 then (some true) else ((kN hour_2).bind fun r3 =>
    some (!r3))).bind fun b4 =>
    bif b4 then ((jR).bind fun r5 =>
    some r5)
    else ((lY f_0 l_1 hour_2).bind fun r6 =>
    (lY f_0 l_1 f_0.Freeze).bind fun r8 =>
    (bif !decide (r6.2 = 0) then (some true) else (some (!decide (r8.2 = 0)))).bind fun b10 =>
    (bif b10 then (some true) else (some (decide (r6.1.Open < 0)))).bind fun b11 =>
    (bif b11 then (some true) else (some (decide (f_0.Wilds < (r6.1.Wilds.length : Int))))).bind fun b12 =>
    bif b12 then (some false)
    else (bif decide (f_0.Freeze < hour_2) then (dJ l_1 hour_2 f_0 r6.1 r8.1 BIG 0 0)
    else ((app 8 ([] : List Int) r6.1.Main).bind fun x48 =>
    (app 8 x48 r6.1.Wilds).bind fun x50 =>
    (app 8 x50 r6.1.Out).bind fun x52 =>
    bP l_1 hour_2 0 x52 f_0 r6.1 BIG 0 0)))

end Go.Am
