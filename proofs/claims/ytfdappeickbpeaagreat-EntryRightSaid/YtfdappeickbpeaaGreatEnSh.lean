/- Shallow functions, printed by program. -/
import Derived.Test.YtfdappeickbpeaaGreatAmFull
import Derived.Test.YtfdappeickbpeaaGreatAmNd
import Derived.Test.YtfdappeickbpeaaGreatAmSort
import Derived.Test.YtfdappeickbpeaaGreatAmSortF
namespace Go.Am

structure aJ where
  Id : Int
  Hour : Int
  Kind : Int
  Player : Int
  Rank : Int
  deriving DecidableEq, Inhabited
def aG (x : aJ) : List D := [.lit (.int .i64 x.Id), .lit (.int .i64 x.Hour), .lit (.int .i64 x.Kind), .lit (.int .i64 x.Player), .lit (.int .i64 x.Rank)]

def zT (x : List aJ) : List D := [.sl 5 (x.map aG)]

structure aS where
  Places : Int
  Wilds : Int
  Guards : Int
  Close : Int
  Freeze : Int
  deriving DecidableEq, Inhabited
def aU (x : aS) : List D := [.lit (.int .i64 x.Places), .lit (.int .i64 x.Wilds), .lit (.int .i64 x.Guards), .lit (.int .i64 x.Close), .lit (.int .i64 x.Freeze)]

def jY (x : List Int) : List D := [.sl 1 (x.map aH)]

structure aA where
  entered : Bool
  guard : Bool
  rank : Int
  turn : Int
  quit : Bool
  signed : Bool
  wild : Bool
  had : Bool
  deriving DecidableEq, Inhabited
def aB (x : aA) : List D := [.lit (.bool x.entered), .lit (.bool x.guard), .lit (.int .i64 x.rank), .lit (.int .i64 x.turn), .lit (.bool x.quit), .lit (.bool x.signed), .lit (.bool x.wild), .lit (.bool x.had)]

structure aI where
  Field : aS
  players : List (Int × aA)
  wilds : List Int
  frozen : Bool
  first : List Int
  late : List Int
  more : Int
  entered : Int
  deriving DecidableEq, Inhabited
def aX (x : aI) : List D := [.lit (.int .i64 x.Field.Places), .lit (.int .i64 x.Field.Wilds), .lit (.int .i64 x.Field.Guards), .lit (.int .i64 x.Field.Close), .lit (.int .i64 x.Field.Freeze), .mp true (x.players.map fun p : Int × aA => ((fun n : Int => Value.int .i64 n) p.1, aB p.2)), .sl 1 (x.wilds.map aH), .lit (.bool x.frozen), .sl 1 (x.first.map aH), .sl 1 (x.late.map aH), .lit (.int .i64 x.more), .lit (.int .i64 x.entered)]

structure cU where
  Main : List Int
  Wilds : List Int
  Out : List Int
  Open : Int
  deriving DecidableEq, Inhabited
def dR (x : cU) : List D := [.sl 1 (x.Main.map aH), .sl 1 (x.Wilds.map aH), .sl 1 (x.Out.map aH), .lit (.int .i64 x.Open)]

structure aP where
  free : Int
  guarded : Int
  moved : Int
  covered : Int
  deriving DecidableEq, Inhabited
def aO (x : aP) : List D := [.lit (.int .i64 x.free), .lit (.int .i64 x.guarded), .lit (.int .i64 x.moved), .lit (.int .i64 x.covered)]

def aAo (x : aS) : Prop := okI x.Places ∧ okI x.Wilds ∧ okI x.Guards ∧ okI x.Close ∧ okI x.Freeze

def uV (x : aJ) : Prop := okI x.Id ∧ okI x.Hour ∧ okI x.Kind ∧ okI x.Player ∧ okI x.Rank

def mA (l_0 : List aJ) : Option Bool :=
    (bif decide (20 < (l_0.length : Int)) then (some (decide ((l_0.length : Int) ≤ 60))) else (some false)).bind fun b1 =>
    (bif b1 then (some true) else (some (decide (100 < (l_0.length : Int))))).bind fun b2 =>
    some b2

def cC (n_0 : Int) (low_1 : Int) (high_2 : Int) : Option Bool :=
    (bif decide (low_1 ≤ n_0) then (some (decide (n_0 ≤ high_2))) else (some false)).bind fun b1 =>
    some b1

def jC (x_0 : aJ) : Option Bool :=
    (cC x_0.Id 0 999).bind fun r2 =>
    (bif !r2 then (some true) else ((cC x_0.Player 0 999).bind fun r3 =>
    some (!r3))).bind fun b4 =>
    (bif b4 then (some true) else ((cC x_0.Hour 0 9999).bind fun r5 =>
    some (!r5))).bind fun b6 =>
    bif b6 then (some false)
    else (bif decide (x_0.Kind = 1) then ((cC x_0.Rank 0 9999).bind fun r7 =>
    some r7)
    else (bif decide (x_0.Kind = 2) then ((cC x_0.Rank 1 9999).bind fun r8 =>
    some r8)
    else (bif decide (x_0.Kind = 3) then (bif decide (x_0.Kind = 3) then (some (decide (x_0.Rank = 0)))
    else (some false))
    else (bif decide (x_0.Kind = 4) then (bif decide (x_0.Kind = 4) then (some (decide (x_0.Rank = 0)))
    else (some false))
    else (bif decide (x_0.Kind = 5) then (some (decide (x_0.Rank = 0)))
    else (some false))))))

def nJ (again0 : Int → Option Int) (l_101 : List aJ) (i_101 : Int) : Option Int :=
    again0 (w64 (i_101 + 1))

def nK (again0 : Int → Option Int) (l_102 : List aJ) (i_102 : Int) : Option Int :=
    nJ again0 l_102 i_102

def fD (again0 : Int → Option Int) (l_2 : List aJ) (i_2 : Int) : Nat → Int → Option Int
  | 0, _ => none
  | k2 + 1, k_2 =>
    bif decide (k_2 < i_2) then ((idx l_2 k_2).bind fun x13 =>
    (idx l_2 i_2).bind fun x14 =>
    (bif decide (x13.Id = x14.Id) then ((idx l_2 k_2).bind fun x15 =>
    (idx l_2 i_2).bind fun x16 =>
    some (!decide (x15 = x16))) else (some false)).bind fun b17 =>
    bif b17 then (some 51)
    else ((fD again0 l_2 i_2 k2) (w64 (k_2 + 1))))
    else (nK again0 l_2 i_2)

def nI : Option Int :=
    some 0

def fC (l_0 : List aJ) : Nat → Int → Option Int
  | 0, _ => none
  | k0 + 1, i_0 =>
    bif decide (i_0 < (l_0.length : Int)) then ((idx l_0 i_0).bind fun x11 =>
    (jC x11).bind fun r12 =>
    bif !r12 then (some 51)
    else (fD (fC l_0 k0) l_0 i_0 BIG 0))
    else (nI)

def kZ (f_0 : aS) (l_1 : List aJ) : Option Int :=
    (cC f_0.Places 1 32).bind fun r2 =>
    (bif !r2 then (some true) else ((cC f_0.Wilds 0 32).bind fun r3 =>
    some (!r3))).bind fun b4 =>
    (bif b4 then (some true) else ((cC f_0.Guards 0 32).bind fun r5 =>
    some (!r5))).bind fun b6 =>
    (bif b6 then (some true) else ((cC f_0.Close 0 9999).bind fun r7 =>
    some (!r7))).bind fun b8 =>
    (bif b8 then (some true) else ((cC f_0.Freeze f_0.Close 9999).bind fun r9 =>
    some (!r9))).bind fun b10 =>
    bif b10 then (some 50)
    else (bif decide (60 < (l_1.length : Int)) then (some 51)
    else (fC l_1 BIG 0))

def kY (f_0 : aS) (l_1 : List aJ) : Option Bool :=
    (mA l_1).bind fun r2 =>
    (bif !r2 then ((kZ f_0 l_1).bind fun r3 =>
    some (decide (r3 = 0))) else (some false)).bind fun b4 =>
    some b4

def kH (n_0 : Int) : Option Bool :=
    (bif decide (0 ≤ n_0) then (some (decide (n_0 ≤ 9999))) else (some false)).bind fun b1 =>
    some b1

def dE (id_0 : Int) (hour_1 : Int) (kind_2 : Int) (player_3 : Int) (rank_4 : Int) : Option aJ :=
    some (aJ.mk id_0 hour_1 kind_2 player_3 rank_4)

def iI : Option (aS × (List aJ)) :=
    (dE 0 1 1 7 50).bind fun r3 =>
    (dE 1 2 1 8 20).bind fun r4 =>
    (dE 2 3 2 9 10).bind fun r5 =>
    (dE 3 4 2 6 30).bind fun r6 =>
    (dE 4 5 1 5 70).bind fun r7 =>
    (dE 5 6 1 4 0).bind fun r8 =>
    (dE 6 11 1 3 1).bind fun r9 =>
    (dE 7 12 3 7 0).bind fun r10 =>
    (dE 8 15 4 8 0).bind fun r11 =>
    (dE 9 21 5 4 0).bind fun r12 =>
    (dE 10 22 4 5 0).bind fun r13 =>
    some ((aS.mk 3 1 1 10 20), [r3, r4, r5, r6, r7, r8, r9, r10, r11, r12, r13])

def bU (n_0 : Int) (low_1 : Int) (high_2 : Int) : Option Bool :=
    (bif decide (low_1 ≤ n_0) then (some (decide (n_0 ≤ high_2))) else (some false)).bind fun b1 =>
    some b1

def nA (f_0 : aS) : Option Bool :=
    (bU f_0.Places 1 32).bind fun r2 =>
    (bif r2 then ((bU f_0.Wilds 0 32).bind fun r3 =>
    some r3) else (some false)).bind fun b4 =>
    (bif b4 then ((bU f_0.Guards 0 32).bind fun r5 =>
    some r5) else (some false)).bind fun b6 =>
    (bif b6 then ((bU f_0.Close 0 9999).bind fun r7 =>
    some r7) else (some false)).bind fun b8 =>
    (bif b8 then ((bU f_0.Freeze f_0.Close 9999).bind fun r9 =>
    some r9) else (some false)).bind fun b10 =>
    some b10

def mD (n_0 : aJ) : Option Bool :=
    bif decide (n_0.Kind = 1) then ((bU n_0.Id 0 999).bind fun r2 =>
    (bif r2 then ((bU n_0.Player 0 999).bind fun r3 =>
    some r3) else (some false)).bind fun b4 =>
    (bif b4 then ((bU n_0.Hour 0 9999).bind fun r5 =>
    some r5) else (some false)).bind fun b6 =>
    (bif b6 then ((bU n_0.Rank 0 9999).bind fun r7 =>
    some r7) else (some false)).bind fun b8 =>
    some b8)
    else (bif decide (n_0.Kind = 2) then ((bU n_0.Id 0 999).bind fun r9 =>
    (bif r9 then ((bU n_0.Player 0 999).bind fun r10 =>
    some r10) else (some false)).bind fun b11 =>
    (bif b11 then ((bU n_0.Hour 0 9999).bind fun r12 =>
    some r12) else (some false)).bind fun b13 =>
    (bif b13 then ((bU n_0.Rank 1 9999).bind fun r14 =>
    some r14) else (some false)).bind fun b15 =>
    some b15)
    else (bif decide (n_0.Kind = 3) then (bif decide (n_0.Kind = 3) then ((bU n_0.Id 0 999).bind fun r16 =>
    (bif r16 then ((bU n_0.Player 0 999).bind fun r17 =>
    some r17) else (some false)).bind fun b18 =>
    (bif b18 then ((bU n_0.Hour 0 9999).bind fun r19 =>
    some r19) else (some false)).bind fun b20 =>
    (bif b20 then ((bU n_0.Rank 0 0).bind fun r21 =>
    some r21) else (some false)).bind fun b22 =>
    some b22)
    else (some false))
    else (bif decide (n_0.Kind = 4) then (bif decide (n_0.Kind = 4) then ((bU n_0.Id 0 999).bind fun r23 =>
    (bif r23 then ((bU n_0.Player 0 999).bind fun r24 =>
    some r24) else (some false)).bind fun b25 =>
    (bif b25 then ((bU n_0.Hour 0 9999).bind fun r26 =>
    some r26) else (some false)).bind fun b27 =>
    (bif b27 then ((bU n_0.Rank 0 0).bind fun r28 =>
    some r28) else (some false)).bind fun b29 =>
    some b29)
    else (some false))
    else (bif decide (n_0.Kind = 5) then ((bU n_0.Id 0 999).bind fun r30 =>
    (bif r30 then ((bU n_0.Player 0 999).bind fun r31 =>
    some r31) else (some false)).bind fun b32 =>
    (bif b32 then ((bU n_0.Hour 0 9999).bind fun r33 =>
    some r33) else (some false)).bind fun b34 =>
    (bif b34 then ((bU n_0.Rank 0 0).bind fun r35 =>
    some r35) else (some false)).bind fun b36 =>
    some b36)
    else (some false)))))

def qT : Option Int :=
    some 0

def iJ (t17_0 : List aJ) (t18_0 : Int) : Nat → Int → (List (Int × aJ)) → Option Int
  | 0, _, _ => none
  | k0 + 1, t19_0, o16_0 =>
    bif decide (t19_0 < t18_0) then ((idx t17_0 t19_0).bind fun x4 =>
    (mD x4).bind fun r7 =>
    (bif !r7 then (some true) else ((bif fM x4.Id o16_0 then (some (!decide ((aF x4.Id (aJ.mk 0 0 0 0 0) o16_0) = x4))) else (some false)).bind fun b8 =>
    some b8)).bind fun b9 =>
    bif b9 then (some 51)
    else ((iJ t17_0 t18_0 k0) (w64 (t19_0 + 1)) (cD x4.Id x4 o16_0)))
    else (qT)

def oU (f_0 : aS) (l_1 : List aJ) : Option Int :=
    (nA f_0).bind fun r2 =>
    bif !r2 then (some 50)
    else (bif decide (60 < (l_1.length : Int)) then (some 51)
    else (iJ l_1 (l_1.length : Int) BIG 0 ([] : List (Int × aJ))))

def iU (s_0 : List aJ) : Option Unit :=
    some ()

def fV {S : Type} (againY : S → aJ → Option (S × Bool)) (sy_100 : S) : Option (S × Bool) :=
    some (sy_100, true)

def cG {S : Type} (againY : S → aJ → Option (S × Bool)) (t5_0 : List aJ) (t6_0 : Int) : Nat → Int → S → Option (S × Bool)
  | 0, _, _ => none
  | k0 + 1, t7_0, sy_0 =>
    bif decide (t7_0 < t6_0) then ((idx t5_0 t7_0).bind fun x1 =>
    (againY sy_0 x1).bind fun y3 =>
    bif !y3.2 then (some y3)
    else ((cG againY t5_0 t6_0 k0) (w64 (t7_0 + 1)) y3.1))
    else (fV againY sy_0)

def eP {S : Type} (yield_0 : S → aJ → Option (S × Bool)) (c_1 : List aJ) (sy : S) : Option (S × Bool) :=
    cG yield_0 c_1 (c_1.length : Int) BIG 0 sy

def hZ (seq_1 : List aJ) : Option ((List aJ)) :=
    (eP (S := (List aJ)) (fun s3 x4 =>
    (app 40 s3 ([x4])).bind fun x6 =>
    some (x6, true)) seq_1 ([] : List aJ)).bind fun s8 =>
    bif s8.2 then (some s8.1)
    else (none)

def gF (seq_0 : List aJ) : Option ((List aJ)) :=
    (hZ seq_0).bind fun r2 =>
    some r2

def kG (x : List aJ) (cmp : aJ → aJ → Option Int) : Option (List aJ) := pF x cmp

def fK (seq_0 : List aJ) (cmp_1 : aJ → aJ → Option Int) : Option ((List aJ)) :=
    (gF seq_0).bind fun r2 =>
    (kG r2 cmp_1).bind fun r4 =>
    some r4

def oZ (zero_100 : Int) : Option Int :=
    some zero_100

def lN (zero_0 : Int) (t6_0 : List Int) (t7_0 : Int) : Nat → Int → Option Int
  | 0, _ => none
  | k0 + 1, t8_0 =>
    bif decide (t8_0 < t7_0) then ((idx t6_0 t8_0).bind fun x1 =>
    bif !decide (x1 = zero_0) then (some x1)
    else ((lN zero_0 t6_0 t7_0 k0) (w64 (t8_0 + 1))))
    else (oZ zero_0)

def lQ (vals_0 : List Int) : Option Int :=
    lN 0 vals_0 (vals_0.length : Int) BIG 0

def dS (a_0 : aJ) (b_1 : aJ) : Option Int :=
    (lQ ([w64 (a_0.Hour - b_1.Hour), w64 (a_0.Id - b_1.Id)])).bind fun r3 =>
    some r3

def jJ (again0 : Int → (List aJ) → Option ((List aJ))) (k_102 : Int) (s_102 : List aJ) : Option ((List aJ)) :=
    (chk (decide (0 ≤ k_102) && decide (k_102 ≤ (s_102.length : Int)))).bind fun u9 =>
    (chk (decide (k_102.toNat ≤ s_102.length))).bind fun u10 =>
    (chk (decide (0 ≤ k_102))).bind fun u11 =>
    some (s_102.take k_102.toNat)

def cY (again0 : Int → (List aJ) → Option ((List aJ))) (s2_2 : Int) : Nat → Int → Int → (List aJ) → Option ((List aJ))
  | 0, _, _, _ => none
  | k2 + 1, k_2, k2_2, s_2 =>
    bif decide (k2_2 < ((s_2.drop s2_2.toNat).length : Int)) then ((idx (s_2.drop s2_2.toNat) k2_2).bind fun x5 =>
    (idx (s_2.drop s2_2.toNat) (w64 (k2_2 - 1))).bind fun x6 =>
    bif !decide (x5 = x6) then ((idx (s_2.drop s2_2.toNat) k2_2).bind fun x7 =>
    (idx s_2 k_2).bind fun x8 =>
    (cY again0 s2_2 k2) (w64 (k_2 + 1)) (w64 (k2_2 + 1)) (s_2.set k_2.toNat x7))
    else ((cY again0 s2_2 k2) k_2 (w64 (k2_2 + 1)) s_2))
    else (jJ again0 k_2 s_2)

def jI (again0 : Int → (List aJ) → Option ((List aJ))) (k_101 : Int) (s_101 : List aJ) : Option ((List aJ)) :=
    again0 (w64 (k_101 + 1)) s_101

def jH (s_100 : List aJ) : Option ((List aJ)) :=
    some s_100

def cK : Nat → Int → (List aJ) → Option ((List aJ))
  | 0, _, _ => none
  | k0 + 1, k_0, s_0 =>
    bif decide (k_0 < (s_0.length : Int)) then ((idx s_0 k_0).bind fun x2 =>
    (idx s_0 (w64 (k_0 - 1))).bind fun x3 =>
    bif decide (x2 = x3) then ((chk (decide (0 ≤ k_0) && decide (k_0 ≤ (s_0.length : Int)))).bind fun u4 =>
    cY (cK k0) k_0 BIG k_0 1 s_0)
    else (jI (cK k0) k_0 s_0))
    else (jH s_0)

def eZ (s_0 : List aJ) : Option ((List aJ)) :=
    bif decide ((s_0.length : Int) < 2) then (some s_0)
    else (cK BIG 1 s_0)

def eC (l_0 : aI) : Option Int :=
    some (w64 (l_0.Field.Places + l_0.more))

def mS (many_100 : Int) : Option Int :=
    some many_100

def eU (l_0 : aI) (t7_0 : List Int) (t8_0 : Int) : Nat → Int → Int → Option Int
  | 0, _, _ => none
  | k0 + 1, many_0, t9_0 =>
    bif decide (t9_0 < t8_0) then ((idx t7_0 t9_0).bind fun x1 =>
    bif (aF x1 (aA.mk false false 0 0 false false false false) l_0.players).guard then ((eU l_0 t7_0 t8_0 k0) (w64 (many_0 + 1)) (w64 (t9_0 + 1)))
    else ((eU l_0 t7_0 t8_0 k0) many_0 (w64 (t9_0 + 1))))
    else (mS many_0)

def gX (l_0 : aI) (in_1 : List Int) : Option Int :=
    eU l_0 in_1 (in_1.length : Int) BIG 0 0

def eV (l_0_players : List (Int × aA)) (n_1 : Int) : Option Bool :=
    (bif (aF n_1 (aA.mk false false 0 0 false false false false) l_0_players).entered then (some (!((aF n_1 (aA.mk false false 0 0 false false false false) l_0_players).quit))) else (some false)).bind fun b2 =>
    (bif b2 then (some (!((aF n_1 (aA.mk false false 0 0 false false false false) l_0_players).had))) else (some false)).bind fun b3 =>
    some b3

def nQ (x : List Int) (cmp : Int → Int → Option Int) : Option (List Int) := pF x cmp

def gA (p_0 : aA) : Option Int :=
    bif decide (p_0.rank = 0) then (some 1)
    else (some 0)

def dT (a_0 : Int) (b_1 : Int) (c_2 : aI) : Option Int :=
    (gA (aF a_0 (aA.mk false false 0 0 false false false false) c_2.players)).bind fun r3 =>
    (gA (aF b_1 (aA.mk false false 0 0 false false false false) c_2.players)).bind fun r4 =>
    (lQ ([w64 (r3 - r4), w64 (((aF a_0 (aA.mk false false 0 0 false false false false) c_2.players).rank) - ((aF b_1 (aA.mk false false 0 0 false false false false) c_2.players).rank)), w64 (((aF a_0 (aA.mk false false 0 0 false false false false) c_2.players).turn) - ((aF b_1 (aA.mk false false 0 0 false false false false) c_2.players).turn))])).bind fun r5 =>
    some r5

def jZ (againQ : ((List Int)) → Prop) (l_100 : aI) (out_100 : List Int) : Prop :=
    nb (nQ out_100 (fun y12 y13 => dT y12 y13 l_100)) fun r14 =>
    againQ r14

def fI (againQ : ((List Int)) → Prop) (l_0 : aI) : Nat → (List Int) → (List (Int × aA)) → Prop
  | 0, _, _ => False
  | k0 + 1, out_0, left_0 =>
    aJb left_0 (jZ againQ l_0 out_0)
    (fun p10 left11 =>
    nb (eV l_0.players p10.1) fun r15 =>
    bif r15 then (nb (app 8 out_0 ([p10.1])) fun x16 =>
    (fI againQ l_0 k0) x16 left11)
    else ((fI againQ l_0 k0) out_0 left11))

def lS (l_0 : aI) (Q : ((List Int)) → Prop) : Prop :=
    aBp l_0.players fun left9 =>
    fI Q l_0 BIG ([] : List Int) left9

def eJ (l : aI) : Option (List Int) := if l.players.length < 4294967296 then pF ((l.players.filter fun p => (eV l.players p.1).getD false).map Prod.fst) (fun a b => dT a b l) else none

def mT (inv_100 : List Int) : Option ((List Int)) :=
    some inv_100

def eW (l_0 : aI) (t7_0 : List Int) (t8_0 : Int) : Nat → Int → (List Int) → Option ((List Int))
  | 0, _, _ => none
  | k0 + 1, t9_0, inv_0 =>
    bif decide (t9_0 < t8_0) then ((idx t7_0 t9_0).bind fun x4 =>
    (eC l_0).bind fun r5 =>
    (bif decide ((inv_0.length : Int) < r5) then ((bif !((aF x4 (aA.mk false false 0 0 false false false false) l_0.players).guard) then (some true) else ((gX l_0 inv_0).bind fun r6 =>
    some (decide (r6 < l_0.Field.Guards)))).bind fun b7 =>
    some b7) else (some false)).bind fun b8 =>
    bif b8 then ((app 8 inv_0 ([x4])).bind fun x9 =>
    (eW l_0 t7_0 t8_0 k0) (w64 (t9_0 + 1)) x9)
    else ((eW l_0 t7_0 t8_0 k0) (w64 (t9_0 + 1)) inv_0))
    else (mT inv_0)

def iY (l_0 : aI) : Option ((List Int)) :=
    (eJ l_0).bind fun r3 =>
    eW l_0 r3 (r3.length : Int) BIG 0 ([] : List Int)

def iX (l_0 : aI) : Option aI :=
    bif !l_0.frozen then ((iY l_0).bind fun r1 =>
    some (aI.mk l_0.Field l_0.players l_0.wilds true r1 l_0.late l_0.more l_0.entered))
    else (some l_0)

def lL : Option Int :=
    some (-1)

def eR (s_0 : List Int) (f_0 : Int → Option Bool) (t7_0 : Int) : Nat → Int → Option Int
  | 0, _ => none
  | k0 + 1, t8_0 =>
    bif decide (t8_0 < t7_0) then ((idx s_0 t8_0).bind fun x1 =>
    (f_0 x1).bind fun r2 =>
    bif r2 then (some t8_0)
    else ((eR s_0 f_0 t7_0 k0) (w64 (t8_0 + 1))))
    else (lL)

def fU (s_0 : List Int) (f_1 : Int → Option Bool) : Option Int :=
    eR s_0 f_1 (s_0.length : Int) BIG 0

def lG (i_100 : Int) (s_100 : List Int) : Option ((List Int)) :=
    (chk (decide (0 ≤ i_100) && decide (i_100 ≤ (s_100.length : Int)))).bind fun u6 =>
    (chk (decide (i_100.toNat ≤ s_100.length))).bind fun u7 =>
    (chk (decide (0 ≤ i_100))).bind fun u8 =>
    some (s_100.take i_100.toNat)

def dY (del_0 : Int → Option Bool) : Nat → Int → Int → (List Int) → Option ((List Int))
  | 0, _, _, _ => none
  | k0 + 1, i_0, j_0, s_0 =>
    bif decide (j_0 < (s_0.length : Int)) then ((idx s_0 j_0).bind fun x3 =>
    (del_0 x3).bind fun r4 =>
    bif !r4 then ((idx s_0 i_0).bind fun x5 =>
    (dY del_0 k0) (w64 (i_0 + 1)) (w64 (j_0 + 1)) (s_0.set i_0.toNat x3))
    else ((dY del_0 k0) i_0 (w64 (j_0 + 1)) s_0))
    else (lG i_0 s_0)

def cE (s_0 : List Int) (del_1 : Int → Option Bool) : Option ((List Int)) :=
    (fU s_0 del_1).bind fun r2 =>
    bif decide (r2 = (-1)) then (some s_0)
    else (dY del_1 BIG r2 (w64 (r2 + 1)) s_0)

def eD (m_0 : Int) (c_1 : aJ) : Option Bool :=
    some (decide (m_0 = c_1.Player))

def iS (l_0 : aI) (n_1 : aJ) : Option aI :=
    bif decide (n_1.Kind = 1) then (bif decide (n_1.Kind = 1) then ((bif decide (n_1.Hour ≤ l_0.Field.Close) then (some (!((aF n_1.Player (aA.mk false false 0 0 false false false false) l_0.players).entered))) else (some false)).bind fun b3 =>
    bif b3 then (some (aI.mk l_0.Field (cD n_1.Player (aA.mk true (decide (n_1.Kind = 2)) n_1.Rank (w64 (l_0.entered + 1)) ((aF n_1.Player (aA.mk false false 0 0 false false false false) l_0.players).quit) ((aF n_1.Player (aA.mk false false 0 0 false false false false) l_0.players).signed) ((aF n_1.Player (aA.mk false false 0 0 false false false false) l_0.players).wild) ((aF n_1.Player (aA.mk false false 0 0 false false false false) l_0.players).had)) l_0.players) l_0.wilds l_0.frozen l_0.first l_0.late l_0.more (w64 (l_0.entered + 1))))
    else (some (aI.mk l_0.Field (cD n_1.Player (aF n_1.Player (aA.mk false false 0 0 false false false false) l_0.players) l_0.players) l_0.wilds l_0.frozen l_0.first l_0.late l_0.more l_0.entered)))
    else (bif decide (n_1.Kind = 3) then ((bif decide (n_1.Hour ≤ l_0.Field.Freeze) then (some (!((aF n_1.Player (aA.mk false false 0 0 false false false false) l_0.players).wild))) else (some false)).bind fun b4 =>
    (bif b4 then (some (!((aF n_1.Player (aA.mk false false 0 0 false false false false) l_0.players).quit))) else (some false)).bind fun b5 =>
    (bif b5 then (some (decide ((l_0.wilds.length : Int) < l_0.Field.Wilds))) else (some false)).bind fun b6 =>
    bif b6 then ((app 8 l_0.wilds ([n_1.Player])).bind fun x7 =>
    some (aI.mk l_0.Field (cD n_1.Player (aA.mk ((aF n_1.Player (aA.mk false false 0 0 false false false false) l_0.players).entered) ((aF n_1.Player (aA.mk false false 0 0 false false false false) l_0.players).guard) ((aF n_1.Player (aA.mk false false 0 0 false false false false) l_0.players).rank) ((aF n_1.Player (aA.mk false false 0 0 false false false false) l_0.players).turn) ((aF n_1.Player (aA.mk false false 0 0 false false false false) l_0.players).quit) ((aF n_1.Player (aA.mk false false 0 0 false false false false) l_0.players).signed) true true) l_0.players) x7 l_0.frozen l_0.first l_0.late l_0.more l_0.entered))
    else (some (aI.mk l_0.Field (cD n_1.Player (aF n_1.Player (aA.mk false false 0 0 false false false false) l_0.players) l_0.players) l_0.wilds l_0.frozen l_0.first l_0.late l_0.more l_0.entered)))
    else (bif decide (n_1.Kind = 4) then ((bif (aF n_1.Player (aA.mk false false 0 0 false false false false) l_0.players).wild then (some (decide (l_0.Field.Freeze < n_1.Hour))) else (some false)).bind fun b9 =>
    bif b9 then ((cE l_0.wilds (fun y10 => eD y10 n_1)).bind fun r11 =>
    some (aI.mk l_0.Field (cD n_1.Player (aA.mk ((aF n_1.Player (aA.mk false false 0 0 false false false false) l_0.players).entered) ((aF n_1.Player (aA.mk false false 0 0 false false false false) l_0.players).guard) ((aF n_1.Player (aA.mk false false 0 0 false false false false) l_0.players).rank) ((aF n_1.Player (aA.mk false false 0 0 false false false false) l_0.players).turn) true ((aF n_1.Player (aA.mk false false 0 0 false false false false) l_0.players).signed) false ((aF n_1.Player (aA.mk false false 0 0 false false false false) l_0.players).had)) l_0.players) r11 l_0.frozen l_0.first l_0.late (w64 (l_0.more + 1)) l_0.entered))
    else ((cE l_0.wilds (fun y13 => eD y13 n_1)).bind fun r14 =>
    some (aI.mk l_0.Field (cD n_1.Player (aA.mk ((aF n_1.Player (aA.mk false false 0 0 false false false false) l_0.players).entered) ((aF n_1.Player (aA.mk false false 0 0 false false false false) l_0.players).guard) ((aF n_1.Player (aA.mk false false 0 0 false false false false) l_0.players).rank) ((aF n_1.Player (aA.mk false false 0 0 false false false false) l_0.players).turn) true ((aF n_1.Player (aA.mk false false 0 0 false false false false) l_0.players).signed) false ((aF n_1.Player (aA.mk false false 0 0 false false false false) l_0.players).had)) l_0.players) r14 l_0.frozen l_0.first l_0.late l_0.more l_0.entered)))
    else (bif decide (n_1.Kind = 5) then (some (aI.mk l_0.Field (cD n_1.Player (aA.mk ((aF n_1.Player (aA.mk false false 0 0 false false false false) l_0.players).entered) ((aF n_1.Player (aA.mk false false 0 0 false false false false) l_0.players).guard) ((aF n_1.Player (aA.mk false false 0 0 false false false false) l_0.players).rank) ((aF n_1.Player (aA.mk false false 0 0 false false false false) l_0.players).turn) ((aF n_1.Player (aA.mk false false 0 0 false false false false) l_0.players).quit) true ((aF n_1.Player (aA.mk false false 0 0 false false false false) l_0.players).wild) ((aF n_1.Player (aA.mk false false 0 0 false false false false) l_0.players).had)) l_0.players) l_0.wilds l_0.frozen l_0.first l_0.late l_0.more l_0.entered))
    else (some (aI.mk l_0.Field (cD n_1.Player (aF n_1.Player (aA.mk false false 0 0 false false false false) l_0.players) l_0.players) l_0.wilds l_0.frozen l_0.first l_0.late l_0.more l_0.entered))))))
    else (bif decide (n_1.Kind = 2) then ((bif decide (n_1.Hour ≤ l_0.Field.Close) then (some (!((aF n_1.Player (aA.mk false false 0 0 false false false false) l_0.players).entered))) else (some false)).bind fun b16 =>
    bif b16 then (some (aI.mk l_0.Field (cD n_1.Player (aA.mk true (decide (n_1.Kind = 2)) n_1.Rank (w64 (l_0.entered + 1)) ((aF n_1.Player (aA.mk false false 0 0 false false false false) l_0.players).quit) ((aF n_1.Player (aA.mk false false 0 0 false false false false) l_0.players).signed) ((aF n_1.Player (aA.mk false false 0 0 false false false false) l_0.players).wild) ((aF n_1.Player (aA.mk false false 0 0 false false false false) l_0.players).had)) l_0.players) l_0.wilds l_0.frozen l_0.first l_0.late l_0.more (w64 (l_0.entered + 1))))
    else (some (aI.mk l_0.Field (cD n_1.Player (aF n_1.Player (aA.mk false false 0 0 false false false false) l_0.players) l_0.players) l_0.wilds l_0.frozen l_0.first l_0.late l_0.more l_0.entered)))
    else (bif decide (n_1.Kind = 3) then ((bif decide (n_1.Hour ≤ l_0.Field.Freeze) then (some (!((aF n_1.Player (aA.mk false false 0 0 false false false false) l_0.players).wild))) else (some false)).bind fun b17 =>
    (bif b17 then (some (!((aF n_1.Player (aA.mk false false 0 0 false false false false) l_0.players).quit))) else (some false)).bind fun b18 =>
    (bif b18 then (some (decide ((l_0.wilds.length : Int) < l_0.Field.Wilds))) else (some false)).bind fun b19 =>
    bif b19 then ((app 8 l_0.wilds ([n_1.Player])).bind fun x20 =>
    some (aI.mk l_0.Field (cD n_1.Player (aA.mk ((aF n_1.Player (aA.mk false false 0 0 false false false false) l_0.players).entered) ((aF n_1.Player (aA.mk false false 0 0 false false false false) l_0.players).guard) ((aF n_1.Player (aA.mk false false 0 0 false false false false) l_0.players).rank) ((aF n_1.Player (aA.mk false false 0 0 false false false false) l_0.players).turn) ((aF n_1.Player (aA.mk false false 0 0 false false false false) l_0.players).quit) ((aF n_1.Player (aA.mk false false 0 0 false false false false) l_0.players).signed) true true) l_0.players) x20 l_0.frozen l_0.first l_0.late l_0.more l_0.entered))
    else (some (aI.mk l_0.Field (cD n_1.Player (aF n_1.Player (aA.mk false false 0 0 false false false false) l_0.players) l_0.players) l_0.wilds l_0.frozen l_0.first l_0.late l_0.more l_0.entered)))
    else (bif decide (n_1.Kind = 4) then ((bif (aF n_1.Player (aA.mk false false 0 0 false false false false) l_0.players).wild then (some (decide (l_0.Field.Freeze < n_1.Hour))) else (some false)).bind fun b22 =>
    bif b22 then ((cE l_0.wilds (fun y23 => eD y23 n_1)).bind fun r24 =>
    some (aI.mk l_0.Field (cD n_1.Player (aA.mk ((aF n_1.Player (aA.mk false false 0 0 false false false false) l_0.players).entered) ((aF n_1.Player (aA.mk false false 0 0 false false false false) l_0.players).guard) ((aF n_1.Player (aA.mk false false 0 0 false false false false) l_0.players).rank) ((aF n_1.Player (aA.mk false false 0 0 false false false false) l_0.players).turn) true ((aF n_1.Player (aA.mk false false 0 0 false false false false) l_0.players).signed) false ((aF n_1.Player (aA.mk false false 0 0 false false false false) l_0.players).had)) l_0.players) r24 l_0.frozen l_0.first l_0.late (w64 (l_0.more + 1)) l_0.entered))
    else ((cE l_0.wilds (fun y26 => eD y26 n_1)).bind fun r27 =>
    some (aI.mk l_0.Field (cD n_1.Player (aA.mk ((aF n_1.Player (aA.mk false false 0 0 false false false false) l_0.players).entered) ((aF n_1.Player (aA.mk false false 0 0 false false false false) l_0.players).guard) ((aF n_1.Player (aA.mk false false 0 0 false false false false) l_0.players).rank) ((aF n_1.Player (aA.mk false false 0 0 false false false false) l_0.players).turn) true ((aF n_1.Player (aA.mk false false 0 0 false false false false) l_0.players).signed) false ((aF n_1.Player (aA.mk false false 0 0 false false false false) l_0.players).had)) l_0.players) r27 l_0.frozen l_0.first l_0.late l_0.more l_0.entered)))
    else (bif decide (n_1.Kind = 5) then (some (aI.mk l_0.Field (cD n_1.Player (aA.mk ((aF n_1.Player (aA.mk false false 0 0 false false false false) l_0.players).entered) ((aF n_1.Player (aA.mk false false 0 0 false false false false) l_0.players).guard) ((aF n_1.Player (aA.mk false false 0 0 false false false false) l_0.players).rank) ((aF n_1.Player (aA.mk false false 0 0 false false false false) l_0.players).turn) ((aF n_1.Player (aA.mk false false 0 0 false false false false) l_0.players).quit) true ((aF n_1.Player (aA.mk false false 0 0 false false false false) l_0.players).wild) ((aF n_1.Player (aA.mk false false 0 0 false false false false) l_0.players).had)) l_0.players) l_0.wilds l_0.frozen l_0.first l_0.late l_0.more l_0.entered))
    else (some (aI.mk l_0.Field (cD n_1.Player (aF n_1.Player (aA.mk false false 0 0 false false false false) l_0.players) l_0.players) l_0.wilds l_0.frozen l_0.first l_0.late l_0.more l_0.entered))))))

def eM (n_0 : Int) (c_1_players : List (Int × aA)) : Option Bool :=
    (eV c_1_players n_0).bind fun r1 =>
    some (!r1)

def lU (n_1 : Int) : Option ((List Int)) :=
    bif decide (n_1 < 0) then (none)
    else (bif decide (0 < (w64 (n_1 - (w64 (0 - 0))))) then ((chk (decide (0 ≤ 0))).bind fun u2 =>
    (chk (decide (0 < (w64 (n_1 - (w64 (0 - 0))))) && decide ((w64 (n_1 - (w64 (0 - 0)))) * ((8 : Nat) : Int) ≤ 140737488355328))).bind fun u3 =>
    (chk (decide (0 ≤ 0))).bind fun u5 =>
    some ([] : List Int))
    else (some ([] : List Int)))

def qK (o24_102 : List Int) : Option ((List Int)) :=
    some o24_102

def eX (t25_2 : List (List Int)) (t26_2 : Int) : Nat → Int → (List Int) → Option ((List Int))
  | 0, _, _ => none
  | k2 + 1, t27_2, o24_2 =>
    bif decide (t27_2 < t26_2) then ((idx t25_2 t27_2).bind fun x5 =>
    (app 8 o24_2 x5).bind fun x6 =>
    (eX t25_2 t26_2 k2) (w64 (t27_2 + 1)) x6)
    else (qK o24_2)

def mX (slices_100 : List (List Int)) (size_100 : Int) : Option ((List Int)) :=
    (lU size_100).bind fun r3 =>
    eX slices_100 (slices_100.length : Int) BIG 0 r3

def fT (slices_0 : List (List Int)) (t9_0 : List (List Int)) (t10_0 : Int) : Nat → Int → Int → Option ((List Int))
  | 0, _, _ => none
  | k0 + 1, size_0, t11_0 =>
    bif decide (t11_0 < t10_0) then ((idx t9_0 t11_0).bind fun x2 =>
    bif decide ((w64 (size_0 + (x2.length : Int))) < 0) then (none)
    else ((fT slices_0 t9_0 t10_0 k0) (w64 (size_0 + (x2.length : Int))) (w64 (t11_0 + 1))))
    else (mX slices_0 size_0)

def kL (slices_0 : List (List Int)) : Option ((List Int)) :=
    fT slices_0 slices_0 (slices_0.length : Int) BIG 0 0

def dM (l_0 : aI) : Option ((List Int)) :=
    bif !l_0.frozen then ((iY l_0).bind fun r2 =>
    some r2)
    else ((kL ([l_0.first, l_0.late])).bind fun r4 =>
    some r4)

def lK : Option Int :=
    some (-1)

def eB (s_0 : List Int) (v_0 : Int) (t7_0 : Int) : Nat → Int → Option Int
  | 0, _ => none
  | k0 + 1, t8_0 =>
    bif decide (t8_0 < t7_0) then ((idx s_0 t8_0).bind fun x1 =>
    bif decide (v_0 = x1) then (some t8_0)
    else ((eB s_0 v_0 t7_0 k0) (w64 (t8_0 + 1))))
    else (lK)

def gO (s_0 : List Int) (v_1 : Int) : Option Int :=
    eB s_0 v_1 (s_0.length : Int) BIG 0

def iB (s_0 : List Int) (v_1 : Int) : Option Bool :=
    (gO s_0 v_1).bind fun r1 =>
    some (decide (0 ≤ r1))

def iW (n_0 : Int) (c_1 : aI) (c_2 : List Int) : Option Bool :=
    (bif (aF n_0 (aA.mk false false 0 0 false false false false) c_1.players).signed then ((iB c_2 n_0).bind fun r2 =>
    some (!r2)) else (some false)).bind fun b3 =>
    (bif b3 then ((bif !((aF n_0 (aA.mk false false 0 0 false false false false) c_1.players).guard) then (some true) else ((gX c_1 c_2).bind fun r4 =>
    some (decide (r4 < c_1.Field.Guards)))).bind fun b5 =>
    some b5) else (some false)).bind fun b6 =>
    some b6

def lT (l_100 : List (Int × aA)) (l_100_2 : List Int) (l_100_3 : List Int) (l_100_4 : List Int) (l_100_5 : aS) (l_100_6 : Bool) (l_100_7 : Int) (l_100_8 : Int) : Option aI :=
    some (aI.mk l_100_5 l_100 l_100_2 l_100_6 l_100_3 l_100_4 l_100_7 l_100_8)

def gN (l_0 : List (Int × aA)) (l_0_2 : List Int) (l_0_3 : List Int) : Nat → (List Int) → aS → Bool → Int → Int → (List Int) → Option aI
  | 0, _, _, _, _, _, _ => none
  | k0 + 1, l_0_4, l_0_5, l_0_6, l_0_7, l_0_8, o25_0 =>
    (eC (aI.mk l_0_5 l_0 l_0_2 l_0_6 l_0_3 l_0_4 l_0_7 l_0_8)).bind fun r11 =>
    bif decide ((o25_0.length : Int) < r11) then ((eJ (aI.mk l_0_5 l_0 l_0_2 l_0_6 l_0_3 l_0_4 l_0_7 l_0_8)).bind fun r12 =>
    (fU r12 (fun y14 => iW y14 (aI.mk l_0_5 l_0 l_0_2 l_0_6 l_0_3 l_0_4 l_0_7 l_0_8) o25_0)).bind fun r15 =>
    bif decide (r15 < 0) then (some (aI.mk l_0_5 l_0 l_0_2 l_0_6 l_0_3 l_0_4 l_0_7 l_0_8))
    else ((eJ (aI.mk l_0_5 l_0 l_0_2 l_0_6 l_0_3 l_0_4 l_0_7 l_0_8)).bind fun r16 =>
    (idx r16 r15).bind fun x18 =>
    (app 8 l_0_4 ([x18])).bind fun x19 =>
    (dM (aI.mk l_0_5 l_0 l_0_2 l_0_6 l_0_3 x19 l_0_7 l_0_8)).bind fun r22 =>
    (gN l_0 l_0_2 l_0_3 k0) x19 l_0_5 l_0_6 l_0_7 l_0_8 r22))
    else (lT l_0 l_0_2 l_0_3 l_0_4 l_0_5 l_0_6 l_0_7 l_0_8)

def iR (l_0 : aI) : Option aI :=
    (cE l_0.first (fun y2 => eM y2 l_0.players)).bind fun r3 =>
    (cE l_0.late (fun y5 => eM y5 l_0.players)).bind fun r6 =>
    (dM (aI.mk l_0.Field l_0.players l_0.wilds l_0.frozen r3 r6 l_0.more l_0.entered)).bind fun r8 =>
    gN l_0.players l_0.wilds r3 BIG r6 l_0.Field l_0.frozen l_0.more l_0.entered r8

def kW (hour_100 : Int) (f_100 : aS) (o12_100 : List (Int × aA)) (o14_100 : List Int) (o14_100_2 : List Int) (o14_100_3 : List Int) (o14_100_4 : aS) (o14_100_5 : Bool) (o14_100_6 : Int) (o14_100_7 : Int) : Option ((Option aI)) :=
    bif decide (f_100.Freeze < hour_100) then ((iX (aI.mk o14_100_4 o12_100 o14_100 o14_100_5 o14_100_2 o14_100_3 o14_100_6 o14_100_7)).bind fun r13 =>
    some (some r13))
    else (some (some (aI.mk o14_100_4 o12_100 o14_100 o14_100_5 o14_100_2 o14_100_3 o14_100_6 o14_100_7)))

def eS (hour_0 : Int) (t20_0 : Int) (f_0 : aS) (o17_0 : List aJ) : Nat → Int → (List (Int × aA)) → (List Int) → (List Int) → (List Int) → aS → Bool → Int → Int → Option ((Option aI))
  | 0, _, _, _, _, _, _, _, _, _ => none
  | k0 + 1, t21_0, o12_0, o14_0, o14_0_2, o14_0_3, o14_0_4, o14_0_5, o14_0_6, o14_0_7 =>
    bif decide (t21_0 < t20_0) then ((idx o17_0 t21_0).bind fun x11 =>
    bif decide (hour_0 < x11.Hour) then (kW hour_0 f_0 o12_0 o14_0 o14_0_2 o14_0_3 o14_0_4 o14_0_5 o14_0_6 o14_0_7)
    else (bif decide (f_0.Freeze < x11.Hour) then ((iX (aI.mk o14_0_4 o12_0 o14_0 o14_0_5 o14_0_2 o14_0_3 o14_0_6 o14_0_7)).bind fun r19 =>
    (iS r19 x11).bind fun r25 =>
    bif r25.frozen then ((iR r25).bind fun r31 =>
    (eS hour_0 t20_0 f_0 o17_0 k0) (w64 (t21_0 + 1)) r31.players r31.wilds r31.first r31.late r31.Field r31.frozen r31.more r31.entered)
    else ((eS hour_0 t20_0 f_0 o17_0 k0) (w64 (t21_0 + 1)) r25.players r25.wilds r25.first r25.late r25.Field r25.frozen r25.more r25.entered))
    else ((iS (aI.mk o14_0_4 o12_0 o14_0 o14_0_5 o14_0_2 o14_0_3 o14_0_6 o14_0_7) x11).bind fun r37 =>
    bif r37.frozen then ((iR r37).bind fun r43 =>
    (eS hour_0 t20_0 f_0 o17_0 k0) (w64 (t21_0 + 1)) r43.players r43.wilds r43.first r43.late r43.Field r43.frozen r43.more r43.entered)
    else ((eS hour_0 t20_0 f_0 o17_0 k0) (w64 (t21_0 + 1)) r37.players r37.wilds r37.first r37.late r37.Field r37.frozen r37.more r37.entered))))
    else (kW hour_0 f_0 o12_0 o14_0 o14_0_2 o14_0_3 o14_0_4 o14_0_5 o14_0_6 o14_0_7)

def nG (f_0 : aS) (notices_1 : List aJ) (hour_2 : Int) : Option ((Option aI)) :=
    (iU notices_1).bind fun x4 =>
    (fK notices_1 (fun y5 y6 => dS y5 y6)).bind fun r7 =>
    (eZ r7).bind fun r9 =>
    eS hour_2 (r9.length : Int) f_0 r9 BIG 0 ([] : List (Int × aA)) ([] : List Int) ([] : List Int) ([] : List Int) f_0 false 0 0

def mV (f_0 : aS) (notices_1 : List aJ) (hour_2 : Int) (player_3 : Int) : Option ((Option aI) × Int) :=
    (oU f_0 notices_1).bind fun r2 =>
    bif !decide (r2 = 0) then (some ((none : Option aI), r2))
    else ((bU hour_2 0 9999).bind fun r3 =>
    (bif !r3 then (some true) else ((bU player_3 0 999).bind fun r4 =>
    some (!r4))).bind fun b5 =>
    bif b5 then (some ((none : Option aI), 1))
    else ((nG f_0 notices_1 hour_2).bind fun r6 =>
    some (r6, 0)))

def jE (n_0 : Int) (c_1 : List Int) : Option Bool :=
    (iB c_1 n_0).bind fun r1 =>
    some r1

def gS (l_0 : aI) : Option ((List Int)) :=
    (dM l_0).bind fun r1 =>
    (eJ l_0).bind fun r3 =>
    (cE r3 (fun y5 => jE y5 r1)).bind fun r6 =>
    some r6

def mO (f_0 : aS) (notices_1 : List aJ) (hour_2 : Int) : Option (cU × Int) :=
    (mV f_0 notices_1 hour_2 0).bind fun r3 =>
    bif !decide (r3.2 = 0) then (some ((cU.mk ([] : List Int) ([] : List Int) ([] : List Int) 0), r3.2))
    else ((r3.1).bind fun x4 =>
    (dM x4).bind fun r5 =>
    (r3.1).bind fun x6 =>
    (gS x6).bind fun r7 =>
    (eC x6).bind fun r8 =>
    some ((cU.mk r5 x6.wilds r7 (w64 (r8 - (r5.length : Int)))), 0))

def nN : Option (Int × Int) :=
    some (0, 0)

def iA (player_0 : Int) (t17_0 : List (List Int)) (t18_0 : Int) : Nat → Int → Option (Int × Int)
  | 0, _ => none
  | k0 + 1, t19_0 =>
    bif decide (t19_0 < t18_0) then ((idx t17_0 t19_0).bind fun x3 =>
    (gO x3 player_0).bind fun r4 =>
    bif decide (0 ≤ r4) then (some (w64 (t19_0 + 1), w64 (r4 + 1)))
    else ((iA player_0 t17_0 t18_0 k0) (w64 (t19_0 + 1))))
    else (nN)

def jF (l_0 : aI) (player_1 : Int) : Option (Int × Int) :=
    (dM l_0).bind fun r1 =>
    (gS l_0).bind fun r2 =>
    iA player_1 ([r1, l_0.wilds, r2]) (([r1, l_0.wilds, r2]).length : Int) BIG 0

def lH (n_0 : Int) (c_1 : aI) : Option Bool :=
    some (!((aF n_0 (aA.mk false false 0 0 false false false false) c_1.players).signed))

def jL (again0 : aP → aP → Option (aP × Bool)) (t1_101 : aI) (t2_101 : List Int) (t3_101 : Int) (s_101 : aP) (nextv_101 : aP) : Option (aP × Bool) :=
    again0 s_101 nextv_101

def fY (again0 : aP → aP → Option (aP × Bool)) (t1_102 : aI) (t2_102 : List Int) (t3_102 : Int) (got_102 : Bool) (s_102 : aP) (nextv_102 : aP) : Option (aP × Bool) :=
    bif !got_102 then (some (s_102, false))
    else (jL again0 t1_102 t2_102 t3_102 s_102 nextv_102)

def fZ (again0 : aP → aP → Option (aP × Bool)) (t1_2 : aI) (t2_2 : List Int) (t3_2 : Int) (t21_2 : List Int) (t22_2 : Int) : Nat → Int → Int → Bool → Int → aP → aP → Option (aP × Bool)
  | 0, _, _, _, _, _, _ => none
  | k2 + 1, moved_2, covered_2, got_2, t23_2, s_2, nextv_2 =>
    bif decide (t23_2 < t22_2) then ((idx t21_2 t23_2).bind fun x4 =>
    (bif (aF x4 (aA.mk false false 0 0 false false false false) t1_2.players).guard then (some (decide (covered_2 < s_2.covered))) else (some false)).bind fun b5 =>
    bif b5 then ((fZ again0 t1_2 t2_2 t3_2 t21_2 t22_2 k2) moved_2 (w64 (covered_2 + 1)) got_2 (w64 (t23_2 + 1)) s_2 nextv_2)
    else ((bif !((aF x4 (aA.mk false false 0 0 false false false false) t1_2.players).guard) then (some (decide (moved_2 < s_2.moved))) else (some false)).bind fun b6 =>
    bif b6 then ((fZ again0 t1_2 t2_2 t3_2 t21_2 t22_2 k2) (w64 (moved_2 + 1)) covered_2 got_2 (w64 (t23_2 + 1)) s_2 nextv_2)
    else ((bif (aF x4 (aA.mk false false 0 0 false false false false) t1_2.players).guard then (some (decide (t1_2.Field.Guards ≤ s_2.guarded))) else (some false)).bind fun b7 =>
    bif b7 then ((fZ again0 t1_2 t2_2 t3_2 t21_2 t22_2 k2) moved_2 covered_2 got_2 (w64 (t23_2 + 1)) s_2 nextv_2)
    else (bif decide (x4 = t3_2) then (some (s_2, true))
    else (bif (aF x4 (aA.mk false false 0 0 false false false false) t1_2.players).guard then (fY again0 t1_2 t2_2 t3_2 true (aP.mk s_2.free (w64 (s_2.guarded + 1)) s_2.moved (w64 (s_2.covered + 1))) nextv_2)
    else (fY again0 t1_2 t2_2 t3_2 true (aP.mk (w64 (s_2.free + 1)) s_2.guarded (w64 (s_2.moved + 1)) s_2.covered) nextv_2))))))
    else (fY again0 t1_2 t2_2 t3_2 got_2 s_2 nextv_2)

def oW (s_100 : aP) (nextv_100 : aP) : Option (aP × Bool) :=
    some (s_100, false)

def iC (t1_0 : aI) (t2_0 : List Int) (t3_0 : Int) : Nat → aP → aP → Option (aP × Bool)
  | 0, _, _ => none
  | k0 + 1, s_0, nextv_0 =>
    (eC t1_0).bind fun r3 =>
    bif decide ((w64 (s_0.free + s_0.guarded)) < r3) then (fZ (iC t1_0 t2_0 t3_0 k0) t1_0 t2_0 t3_0 t2_0 (t2_0.length : Int) BIG 0 0 false 0 s_0 nextv_0)
    else (oW s_0 nextv_0)

def lI (s_0 : aP) (c_1 : aI) (c_2 : List Int) (c_3 : Int) : Option (aP × Bool) :=
    iC c_1 c_2 c_3 BIG s_0 (aP.mk 0 0 0 0)

def qA (again0 : (List aP) → Int → (List (aP × Int)) → Option Int) (again2 : Int → (List aP) → (List (aP × Int)) → Option Int) (fill_103 : aI) (fill_103_2 : List Int) (fill_103_3 : Int) (many_103 : Int) (t41_103 : List aP) (t42_103 : Int) (t43_103 : Int) (nextv_103 : List aP) (o35_103 : List (aP × Int)) : Option Int :=
    again2 (w64 (t43_103 + 1)) nextv_103 o35_103

def qB (again0 : (List aP) → Int → (List (aP × Int)) → Option Int) (again2 : Int → (List aP) → (List (aP × Int)) → Option Int) (fill_104 : aI) (fill_104_2 : List Int) (fill_104_3 : Int) (many_104 : Int) (t41_104 : List aP) (t42_104 : Int) (t43_104 : Int) (nextv_104 : List aP) (o35_104 : List (aP × Int)) : Option Int :=
    qA again0 again2 fill_104 fill_104_2 fill_104_3 many_104 t41_104 t42_104 t43_104 nextv_104 o35_104

def eF (again0 : (List aP) → Int → (List (aP × Int)) → Option Int) (again2 : Int → (List aP) → (List (aP × Int)) → Option Int) (fill_4 : aI) (fill_4_2 : List Int) (fill_4_3 : Int) (many_4 : Int) (t41_4 : List aP) (t42_4 : Int) (t43_4 : Int) (s_4 : aP) : Nat → Int → (List aP) → (List (aP × Int)) → Option Int
  | 0, _, _, _ => none
  | k4 + 1, t47_4, nextv_4, o35_4 =>
    bif decide (t47_4 < 2) then (bif decide (t47_4 = 1) then ((bif decide ((w64 (s_4.guarded - 1)) < 0) then (some true) else (some (decide (s_4.free < 0)))).bind fun b16 =>
    bif b16 then ((eF again0 again2 fill_4 fill_4_2 fill_4_3 many_4 t41_4 t42_4 t43_4 s_4 k4) (w64 (t47_4 + 1)) nextv_4 o35_4)
    else ((lI (aP.mk s_4.free (w64 (s_4.guarded - 1)) s_4.moved s_4.covered) fill_4 fill_4_2 fill_4_3).bind fun r17 =>
    bif r17.2 then (some many_4)
    else (bif decide ((aF r17.1 0 (cD r17.1 (w64 ((aF r17.1 0 o35_4) + 1)) o35_4)) = 1) then ((app 32 nextv_4 ([r17.1])).bind fun x18 =>
    (eF again0 again2 fill_4 fill_4_2 fill_4_3 many_4 t41_4 t42_4 t43_4 s_4 k4) (w64 (t47_4 + 1)) x18 (cD r17.1 (w64 ((aF r17.1 0 o35_4) + 1)) o35_4))
    else ((eF again0 again2 fill_4 fill_4_2 fill_4_3 many_4 t41_4 t42_4 t43_4 s_4 k4) (w64 (t47_4 + 1)) nextv_4 (cD r17.1 (w64 ((aF r17.1 0 o35_4) + 1)) o35_4)))))
    else ((bif decide (s_4.guarded < 0) then (some true) else (some (decide ((w64 (s_4.free - 1)) < 0)))).bind fun b20 =>
    bif b20 then ((eF again0 again2 fill_4 fill_4_2 fill_4_3 many_4 t41_4 t42_4 t43_4 s_4 k4) (w64 (t47_4 + 1)) nextv_4 o35_4)
    else ((lI (aP.mk (w64 (s_4.free - 1)) s_4.guarded s_4.moved s_4.covered) fill_4 fill_4_2 fill_4_3).bind fun r21 =>
    bif r21.2 then (some many_4)
    else (bif decide ((aF r21.1 0 (cD r21.1 (w64 ((aF r21.1 0 o35_4) + 1)) o35_4)) = 1) then ((app 32 nextv_4 ([r21.1])).bind fun x22 =>
    (eF again0 again2 fill_4 fill_4_2 fill_4_3 many_4 t41_4 t42_4 t43_4 s_4 k4) (w64 (t47_4 + 1)) x22 (cD r21.1 (w64 ((aF r21.1 0 o35_4) + 1)) o35_4))
    else ((eF again0 again2 fill_4 fill_4_2 fill_4_3 many_4 t41_4 t42_4 t43_4 s_4 k4) (w64 (t47_4 + 1)) nextv_4 (cD r21.1 (w64 ((aF r21.1 0 o35_4) + 1)) o35_4))))))
    else (qB again0 again2 fill_4 fill_4_2 fill_4_3 many_4 t41_4 t42_4 t43_4 nextv_4 o35_4)

def pY (again0 : (List aP) → Int → (List (aP × Int)) → Option Int) (fill_101 : aI) (fill_101_2 : List Int) (fill_101_3 : Int) (many_101 : Int) (nextv_101 : List aP) (o35_101 : List (aP × Int)) : Option Int :=
    again0 nextv_101 (w64 (many_101 + 1)) o35_101

def pZ (again0 : (List aP) → Int → (List (aP × Int)) → Option Int) (fill_102 : aI) (fill_102_2 : List Int) (fill_102_3 : Int) (many_102 : Int) (nextv_102 : List aP) (o35_102 : List (aP × Int)) : Option Int :=
    pY again0 fill_102 fill_102_2 fill_102_3 many_102 nextv_102 o35_102

def iQ (again0 : (List aP) → Int → (List (aP × Int)) → Option Int) (fill_2 : aI) (fill_2_2 : List Int) (fill_2_3 : Int) (many_2 : Int) (t41_2 : List aP) (t42_2 : Int) : Nat → Int → (List aP) → (List (aP × Int)) → Option Int
  | 0, _, _, _ => none
  | k2 + 1, t43_2, nextv_2, o35_2 =>
    bif decide (t43_2 < t42_2) then ((idx t41_2 t43_2).bind fun x13 =>
    eF again0 (iQ again0 fill_2 fill_2_2 fill_2_3 many_2 t41_2 t42_2 k2) fill_2 fill_2_2 fill_2_3 many_2 t41_2 t42_2 t43_2 x13 BIG 0 nextv_2 o35_2)
    else (pZ again0 fill_2 fill_2_2 fill_2_3 many_2 nextv_2 o35_2)

def pX : Option Int :=
    some 61

def fQ (fill_0 : aI) (fill_0_2 : List Int) (fill_0_3 : Int) : Nat → (List aP) → Int → (List (aP × Int)) → Option Int
  | 0, _, _, _ => none
  | k0 + 1, now_0, many_0, o35_0 =>
    bif decide (0 < (now_0.length : Int)) then (iQ (fQ fill_0 fill_0_2 fill_0_3 k0) fill_0 fill_0_2 fill_0_3 many_0 now_0 (now_0.length : Int) BIG 0 ([] : List aP) o35_0)
    else (pX)

def oN (l_0 : aI) (player_1 : Int) : Option Int :=
    (dM l_0).bind fun r3 =>
    (gX l_0 r3).bind fun r4 =>
    (gS l_0).bind fun r5 =>
    (cE r5 (fun y7 => lH y7 l_0)).bind fun r8 =>
    fQ l_0 r8 player_1 BIG ([(aP.mk (w64 ((r3.length : Int) - r4)) r4 0 0)]) 1 ([] : List (aP × Int))

def mQ (again2 : Int → Int → Option Int) (l_103 : aI) (player_103 : Int) (free_103 : Int) (guarded_103 : Int) (best_103 : Int) (t36_103 : Int) (t37_103 : Int) : Option Int :=
    again2 best_103 (w64 (t37_103 + 1))

def mR (again2 : Int → Int → Option Int) (l_104 : aI) (player_104 : Int) (free_104 : Int) (guarded_104 : Int) (best_104 : Int) (t36_104 : Int) (t37_104 : Int) : Option Int :=
    mQ again2 l_104 player_104 free_104 guarded_104 best_104 t36_104 t37_104

def fP (again2 : Int → Int → Option Int) (l_4 : aI) (player_4 : Int) (free_4 : Int) (guarded_4 : Int) (x_4 : Int) (t36_4 : Int) (t37_4 : Int) (t41_4 : Int) : Nat → Int → Int → Option Int
  | 0, _, _ => none
  | k4 + 1, best_4, t42_4 =>
    bif decide (t42_4 < t41_4) then ((eC l_4).bind fun r3 =>
    (bif decide ((w64 ((w64 (free_4 - x_4)) + (min (w64 (guarded_4 - t42_4)) l_4.Field.Guards))) < r3) then ((bif !((aF player_4 (aA.mk false false 0 0 false false false false) l_4.players).guard) then (some true) else (some (decide ((min (w64 (guarded_4 - t42_4)) l_4.Field.Guards) < l_4.Field.Guards)))).bind fun b4 =>
    some b4) else (some false)).bind fun b5 =>
    bif b5 then ((fP again2 l_4 player_4 free_4 guarded_4 x_4 t36_4 t37_4 t41_4 k4) (min best_4 (w64 (x_4 + t42_4))) (w64 (t42_4 + 1)))
    else ((fP again2 l_4 player_4 free_4 guarded_4 x_4 t36_4 t37_4 t41_4 k4) best_4 (w64 (t42_4 + 1))))
    else (mR again2 l_4 player_4 free_4 guarded_4 best_4 t36_4 t37_4)

def mP (best_102 : Int) : Option Int :=
    some best_102

def eT (l_2 : aI) (player_2 : Int) (free_2 : Int) (guarded_2 : Int) (t36_2 : Int) : Nat → Int → Int → Option Int
  | 0, _, _ => none
  | k2 + 1, best_2, t37_2 =>
    bif decide (t37_2 < t36_2) then (fP (eT l_2 player_2 free_2 guarded_2 t36_2 k2) l_2 player_2 free_2 guarded_2 t37_2 t36_2 t37_2 (w64 (guarded_2 + 1)) BIG best_2 0)
    else (mP best_2)

def kN (l_100 : aI) (player_100 : Int) (free_100 : Int) (guarded_100 : Int) : Option Int :=
    eT l_100 player_100 free_100 guarded_100 (w64 (free_100 + 1)) BIG 61 0

def iP (l_0 : aI) (player_0 : Int) (t14_0 : List Int) (t15_0 : Int) : Nat → Int → Int → Int → Option Int
  | 0, _, _, _ => none
  | k0 + 1, free_0, guarded_0, t16_0 =>
    bif decide (t16_0 < t15_0) then ((idx t14_0 t16_0).bind fun x2 =>
    bif decide (x2 = player_0) then (kN l_0 player_0 free_0 guarded_0)
    else (bif (aF x2 (aA.mk false false 0 0 false false false false) l_0.players).guard then ((iP l_0 player_0 t14_0 t15_0 k0) free_0 (w64 (guarded_0 + 1)) (w64 (t16_0 + 1)))
    else ((iP l_0 player_0 t14_0 t15_0 k0) (w64 (free_0 + 1)) guarded_0 (w64 (t16_0 + 1)))))
    else (kN l_0 player_0 free_0 guarded_0)

def kI (l_0 : aI) (player_1 : Int) : Option Int :=
    (eJ l_0).bind fun r1 =>
    iP l_0 player_1 r1 (r1.length : Int) BIG 0 0 0

def oV (f_0 : aS) (notices_1 : List aJ) (hour_2 : Int) (player_3 : Int) : Option (Int × Int) :=
    (mV f_0 notices_1 hour_2 player_3).bind fun r2 =>
    bif !decide (r2.2 = 0) then (some (0, r2.2))
    else ((r2.1).bind fun x3 =>
    (jF x3 player_3).bind fun r4 =>
    bif decide (r4.1 = 1) then (bif decide (0 = 61) then (some (0, 3))
    else (some (0, 0)))
    else ((bif decide (r4.1 = 3) then ((r2.1).bind fun x5 =>
    some x5.frozen) else (some false)).bind fun b6 =>
    bif b6 then ((r2.1).bind fun x7 =>
    (oN x7 player_3).bind fun r8 =>
    bif decide (r8 = 61) then (some (0, 3))
    else (some (r8, 0)))
    else (bif decide (r4.1 = 3) then ((r2.1).bind fun x9 =>
    (kI x9 player_3).bind fun r10 =>
    bif decide (r10 = 61) then (some (0, 3))
    else (some (r10, 0)))
    else (bif decide (61 = 61) then (some (0, 3))
    else (some (61, 0))))))

def slices_Sort_int (x : List Int) : Option (List Int) := if x.length < 4611686018427387904 then some (pG x) else none

def mG (again0 : Int → (List Int) → Option ((List Int))) (k_102 : Int) (s_102 : List Int) : Option ((List Int)) :=
    (chk (decide (0 ≤ k_102) && decide (k_102 ≤ (s_102.length : Int)))).bind fun u9 =>
    (chk (decide (k_102.toNat ≤ s_102.length))).bind fun u10 =>
    (chk (decide (0 ≤ k_102))).bind fun u11 =>
    some (s_102.take k_102.toNat)

def eL (again0 : Int → (List Int) → Option ((List Int))) (s2_2 : Int) : Nat → Int → Int → (List Int) → Option ((List Int))
  | 0, _, _, _ => none
  | k2 + 1, k_2, k2_2, s_2 =>
    bif decide (k2_2 < ((s_2.drop s2_2.toNat).length : Int)) then ((idx (s_2.drop s2_2.toNat) k2_2).bind fun x5 =>
    (idx (s_2.drop s2_2.toNat) (w64 (k2_2 - 1))).bind fun x6 =>
    bif !decide (x5 = x6) then ((idx (s_2.drop s2_2.toNat) k2_2).bind fun x7 =>
    (idx s_2 k_2).bind fun x8 =>
    (eL again0 s2_2 k2) (w64 (k_2 + 1)) (w64 (k2_2 + 1)) (s_2.set k_2.toNat x7))
    else ((eL again0 s2_2 k2) k_2 (w64 (k2_2 + 1)) s_2))
    else (mG again0 k_2 s_2)

def mF (again0 : Int → (List Int) → Option ((List Int))) (k_101 : Int) (s_101 : List Int) : Option ((List Int)) :=
    again0 (w64 (k_101 + 1)) s_101

def mE (s_100 : List Int) : Option ((List Int)) :=
    some s_100

def dJ : Nat → Int → (List Int) → Option ((List Int))
  | 0, _, _ => none
  | k0 + 1, k_0, s_0 =>
    bif decide (k_0 < (s_0.length : Int)) then ((idx s_0 k_0).bind fun x2 =>
    (idx s_0 (w64 (k_0 - 1))).bind fun x3 =>
    bif decide (x2 = x3) then ((chk (decide (0 ≤ k_0) && decide (k_0 ≤ (s_0.length : Int)))).bind fun u4 =>
    eL (dJ k0) k_0 BIG k_0 1 s_0)
    else (mF (dJ k0) k_0 s_0))
    else (mE s_0)

def jT (s_0 : List Int) : Option ((List Int)) :=
    bif decide ((s_0.length : Int) < 2) then (some s_0)
    else (dJ BIG 1 s_0)

def sD : Option (Int × Int) :=
    some (0, 3)

def kE (notices_2 : List aJ) (player_2 : Int) (t43_2 : Int) (f_2 : aS) (hours_2 : List Int) : Nat → Int → Option (Int × Int)
  | 0, _ => none
  | k2 + 1, t44_2 =>
    bif decide (t44_2 < t43_2) then ((idx hours_2 t44_2).bind fun x11 =>
    (nG f_2 notices_2 x11).bind fun r12 =>
    (r12).bind fun x13 =>
    (jF x13 player_2).bind fun r14 =>
    (bif decide (r14.1 = 1) then (some true) else (some (decide (r14.1 = 2)))).bind fun b15 =>
    bif b15 then (some (x11, 0))
    else ((kE notices_2 player_2 t43_2 f_2 hours_2 k2) (w64 (t44_2 + 1))))
    else (sD)

def pA (notices_100 : List aJ) (player_100 : Int) (f_100 : aS) (hours_100 : List Int) : Option (Int × Int) :=
    (slices_Sort_int hours_100).bind fun r8 =>
    (jT r8).bind fun r9 =>
    kE notices_100 player_100 (r9.length : Int) f_100 r9 BIG 0

def kD (notices_0 : List aJ) (player_0 : Int) (t27_0 : List aJ) (t28_0 : Int) (f_0 : aS) : Nat → Int → (List Int) → Option (Int × Int)
  | 0, _, _ => none
  | k0 + 1, t29_0, hours_0 =>
    bif decide (t29_0 < t28_0) then ((idx t27_0 t29_0).bind fun x4 =>
    (app 8 hours_0 ([x4.Hour])).bind fun x6 =>
    (kD notices_0 player_0 t27_0 t28_0 f_0 k0) (w64 (t29_0 + 1)) x6)
    else (pA notices_0 player_0 f_0 hours_0)

def oJ (f_0 : aS) (notices_1 : List aJ) (player_2 : Int) : Option (Int × Int) :=
    (mV f_0 notices_1 0 player_2).bind fun r2 =>
    bif !decide (r2.2 = 0) then (some (0, r2.2))
    else (kD notices_1 player_2 notices_1 (notices_1.length : Int) f_0 BIG 0 ([] : List Int))

def oQ : Option Bool :=
    some true

def jK (a_0 : List Int) (b_0 : List Int) : Nat → Int → Option Bool
  | 0, _ => none
  | k0 + 1, i_0 =>
    bif decide (i_0 < (a_0.length : Int)) then ((idx a_0 i_0).bind fun x1 =>
    (idx b_0 i_0).bind fun x2 =>
    bif !decide (x1 = x2) then (some false)
    else ((jK a_0 b_0 k0) (w64 (i_0 + 1))))
    else (oQ)

def jB (a_0 : List Int) (b_1 : List Int) : Option Bool :=
    bif !decide ((a_0.length : Int) = (b_1.length : Int)) then (some false)
    else (jK a_0 b_1 BIG 0)

def jD : Option Bool :=
    (iI).bind fun r1 =>
    (mO r1.1 r1.2 12).bind fun r3 =>
    (oV r1.1 r1.2 10 4).bind fun r5 =>
    (oJ r1.1 r1.2 4).bind fun r6 =>
    (bif decide (r3.2 = 0) then (some (decide (r5.2 = 0))) else (some false)).bind fun b7 =>
    (bif b7 then (some (decide (r6.2 = 0))) else (some false)).bind fun b8 =>
    (bif b8 then (some (decide (r5.1 = 2))) else (some false)).bind fun b9 =>
    (bif b9 then (some (decide (r6.1 = 15))) else (some false)).bind fun b10 =>
    (bif b10 then ((jB r3.1.Main ([9, 8, 5])).bind fun r11 =>
    some r11) else (some false)).bind fun b12 =>
    (bif b12 then ((jB r3.1.Wilds ([7])).bind fun r13 =>
    some r13) else (some false)).bind fun b14 =>
    (bif b14 then ((jB r3.1.Out ([6, 4])).bind fun r15 =>
    some r15) else (some false)).bind fun b16 =>
    some b16

def mB (first_100 : aJ) : Option (Bool × Bool × Int) :=
    some (decide (first_100.Hour ≤ 9999), decide (first_100.Kind = 2), first_100.Rank)

def cM (l_0 : List aJ) (hour_0 : Int) (player_0 : Int) (f_0 : aS) : Nat → Int → aJ → Option (Bool × Bool × Int)
  | 0, _, _ => none
  | k0 + 1, i_0, first_0 =>
    bif decide (i_0 < (l_0.length : Int)) then ((idx l_0 i_0).bind fun x3 =>
    (bif decide (x3.Player = player_0) then ((bif decide (x3.Kind = 1) then (some true) else (some (decide (x3.Kind = 2)))).bind fun b5 =>
    some b5) else (some false)).bind fun b6 =>
    (bif b6 then (some (decide (x3.Hour ≤ hour_0))) else (some false)).bind fun b7 =>
    (bif b7 then (some (decide (x3.Hour ≤ f_0.Close))) else (some false)).bind fun b8 =>
    (bif b8 then ((bif decide (x3.Hour < first_0.Hour) then (some true) else ((bif decide (x3.Hour = first_0.Hour) then (some (decide (x3.Id < first_0.Id))) else (some false)).bind fun b9 =>
    some b9)).bind fun b10 =>
    some b10) else (some false)).bind fun b11 =>
    bif b11 then ((cM l_0 hour_0 player_0 f_0 k0) (w64 (i_0 + 1)) x3)
    else ((cM l_0 hour_0 player_0 f_0 k0) (w64 (i_0 + 1)) first_0))
    else (mB first_0)

def dX (f_0 : aS) (l_1 : List aJ) (hour_2 : Int) (player_3 : Int) : Option (Bool × Bool × Int) :=
    cM l_1 hour_2 player_3 f_0 BIG 0 (aJ.mk 0 10000 0 0 0)

def fG (again4 : Int → Option Bool) (l_105 : List aJ) (hour_105 : Int) (guards_105 : Int) (last_105 : Bool) (i_105 : Int) (f_105 : aS) (x_105 : cU) : Option Bool :=
    again4 (w64 (i_105 + 1))

def gM (again4 : Int → Option Bool) (l_108 : List aJ) (hour_108 : Int) (guards_108 : Int) (last_108 : Bool) (i_108 : Int) (f_108 : aS) (x_108 : cU) : Option Bool :=
    fG again4 l_108 hour_108 guards_108 last_108 i_108 f_108 x_108

def dW (again4 : Int → Option Bool) (l_8 : List aJ) (hour_8 : Int) (guards_8 : Int) (last_8 : Bool) (i_8 : Int) (rank_8 : Int) (barred_8 : Bool) (f_8 : aS) (x_8 : cU) : Nat → Int → Option Bool
  | 0, _ => none
  | k8 + 1, k_8 =>
    bif decide (k_8 < (x_8.Main.length : Int)) then ((idx x_8.Main k_8).bind fun x25 =>
    (dX f_8 l_8 hour_8 x25).bind fun r26 =>
    (bif !barred_8 then (some (decide (0 < rank_8))) else (some false)).bind fun b27 =>
    (bif b27 then ((bif decide (r26.2.2 = 0) then (some true) else (some (decide (rank_8 < r26.2.2)))).bind fun b28 =>
    some b28) else (some false)).bind fun b29 =>
    bif b29 then (some false)
    else ((dW again4 l_8 hour_8 guards_8 last_8 i_8 rank_8 barred_8 f_8 x_8 k8) (w64 (k_8 + 1))))
    else (gM again4 l_8 hour_8 guards_8 last_8 i_8 f_8 x_8)

def gL (again4 : Int → Option Bool) (l_106 : List aJ) (hour_106 : Int) (guards_106 : Int) (last_106 : Bool) (i_106 : Int) (rank_106 : Int) (barred_106 : Bool) (signed_106 : Bool) (f_106 : aS) (x_106 : cU) : Option Bool :=
    bif decide (hour_106 ≤ f_106.Freeze) then ((bif decide (0 < x_106.Open) then (some (!barred_106)) else (some false)).bind fun b24 =>
    bif b24 then (some false)
    else (dW again4 l_106 hour_106 guards_106 last_106 i_106 rank_106 barred_106 f_106 x_106 BIG 0))
    else ((bif last_106 then (some (decide (0 < x_106.Open))) else (some false)).bind fun b30 =>
    (bif b30 then (some signed_106) else (some false)).bind fun b31 =>
    (bif b31 then (some (!barred_106)) else (some false)).bind fun b32 =>
    bif b32 then (some false)
    else (fG again4 l_106 hour_106 guards_106 last_106 i_106 f_106 x_106))

def dV (again4 : Int → Option Bool) (l_6 : List aJ) (hour_6 : Int) (guards_6 : Int) (last_6 : Bool) (i_6 : Int) (rank_6 : Int) (barred_6 : Bool) (f_6 : aS) (x_6 : cU) : Nat → Bool → Int → Option Bool
  | 0, _, _ => none
  | k6 + 1, signed_6, k_6 =>
    bif decide (k_6 < (l_6.length : Int)) then ((bif signed_6 then (some true) else ((idx l_6 k_6).bind fun x17 =>
    (bif decide (x17.Kind = 5) then ((idx l_6 k_6).bind fun x18 =>
    (idx x_6.Out i_6).bind fun x19 =>
    some (decide (x18.Player = x19))) else (some false)).bind fun b20 =>
    (bif b20 then ((idx l_6 k_6).bind fun x21 =>
    some (decide (x21.Hour ≤ hour_6))) else (some false)).bind fun b22 =>
    some b22)).bind fun b23 =>
    (dV again4 l_6 hour_6 guards_6 last_6 i_6 rank_6 barred_6 f_6 x_6 k6) b23 (w64 (k_6 + 1)))
    else (gL again4 l_6 hour_6 guards_6 last_6 i_6 rank_6 barred_6 signed_6 f_6 x_6)

def kX : Option Bool :=
    (jD).bind fun r33 =>
    some r33

def cN (l_4 : List aJ) (hour_4 : Int) (guards_4 : Int) (last_4 : Bool) (f_4 : aS) (x_4 : cU) : Nat → Int → Option Bool
  | 0, _ => none
  | k4 + 1, i_4 =>
    bif decide (i_4 < (x_4.Out.length : Int)) then ((idx x_4.Out i_4).bind fun x14 =>
    (dX f_4 l_4 hour_4 x14).bind fun r15 =>
    (bif r15.2.1 then (some (decide (f_4.Guards ≤ guards_4))) else (some false)).bind fun b16 =>
    dV (cN l_4 hour_4 guards_4 last_4 f_4 x_4 k4) l_4 hour_4 guards_4 last_4 i_4 r15.2.2 b16 f_4 x_4 BIG false 0)
    else (kX)

def gK (l_102 : List aJ) (hour_102 : Int) (guards_102 : Int) (last_102 : Bool) (f_102 : aS) (x_102 : cU) : Option Bool :=
    cN l_102 hour_102 guards_102 last_102 f_102 x_102 BIG 0

def dU (l_2 : List aJ) (hour_2 : Int) (guards_2 : Int) (f_2 : aS) (x_2 : cU) : Nat → Bool → Int → Option Bool
  | 0, _, _ => none
  | k2 + 1, last_2, k_2 =>
    bif decide (k_2 < (l_2.length : Int)) then ((bif last_2 then (some true) else ((idx l_2 k_2).bind fun x10 =>
    (bif decide (f_2.Freeze < x10.Hour) then ((idx l_2 k_2).bind fun x11 =>
    some (decide (x11.Hour ≤ hour_2))) else (some false)).bind fun b12 =>
    some b12)).bind fun b13 =>
    (dU l_2 hour_2 guards_2 f_2 x_2 k2) b13 (w64 (k_2 + 1)))
    else (gK l_2 hour_2 guards_2 last_2 f_2 x_2)

def gJ (l_100 : List aJ) (hour_100 : Int) (guards_100 : Int) (f_100 : aS) (x_100 : cU) : Option Bool :=
    dU l_100 hour_100 guards_100 f_100 x_100 BIG false 0

def cT (l_0 : List aJ) (hour_0 : Int) (f_0 : aS) (x_0 : cU) : Nat → Int → Int → Option Bool
  | 0, _, _ => none
  | k0 + 1, guards_0, i_0 =>
    bif decide (i_0 < (x_0.Main.length : Int)) then ((idx x_0.Main i_0).bind fun x8 =>
    (dX f_0 l_0 hour_0 x8).bind fun r9 =>
    bif r9.2.1 then ((cT l_0 hour_0 f_0 x_0 k0) (w64 (guards_0 + 1)) (w64 (i_0 + 1)))
    else ((cT l_0 hour_0 f_0 x_0 k0) guards_0 (w64 (i_0 + 1))))
    else (gJ l_0 hour_0 guards_0 f_0 x_0)

def jX (f_0 : aS) (l_1 : List aJ) (hour_2 : Int) : Option Bool :=
    (kY f_0 l_1).bind fun r2 =>
    (bif !r2 then (some true) else ((kH hour_2).bind fun r3 =>
    some (!r3))).bind fun b4 =>
    bif b4 then ((jD).bind fun r5 =>
    some r5)
    else ((mO f_0 l_1 hour_2).bind fun r6 =>
    bif !decide (r6.2 = 0) then (some false)
    else (cT l_1 hour_2 f_0 r6.1 BIG 0 0))

end Go.Am
