/- Shallow functions, printed by program. -/
import Derived.Test.YtfdappeickbpeaaGreatAmFull
import Derived.Test.YtfdappeickbpeaaGreatAmNd
import Derived.Test.YtfdappeickbpeaaGreatAmSort
import Derived.Test.YtfdappeickbpeaaGreatAmSortF
namespace Go.Am

structure aK where
  Id : Int
  Hour : Int
  Kind : Int
  Player : Int
  Rank : Int
  deriving DecidableEq, Inhabited
def aH (x : aK) : List D := [.lit (.int .i64 x.Id), .lit (.int .i64 x.Hour), .lit (.int .i64 x.Kind), .lit (.int .i64 x.Player), .lit (.int .i64 x.Rank)]

def yJ (x : List aK) : List D := [.sl 5 (x.map aH)]

structure aT where
  Places : Int
  Wilds : Int
  Guards : Int
  Close : Int
  Freeze : Int
  deriving DecidableEq, Inhabited
def aX (x : aT) : List D := [.lit (.int .i64 x.Places), .lit (.int .i64 x.Wilds), .lit (.int .i64 x.Guards), .lit (.int .i64 x.Close), .lit (.int .i64 x.Freeze)]

def jM (x : List Int) : List D := [.sl 1 (x.map aG)]

structure aA where
  entered : Bool
  guard : Bool
  rank : Int
  turn : Int
  quit : Bool
  signed : Bool
  wild : Bool
  had : Bool
  deriving DecidableEq, Inhabited
def aB (x : aA) : List D := [.lit (.bool x.entered), .lit (.bool x.guard), .lit (.int .i64 x.rank), .lit (.int .i64 x.turn), .lit (.bool x.quit), .lit (.bool x.signed), .lit (.bool x.wild), .lit (.bool x.had)]

structure aJ where
  Field : aT
  players : List (Int × aA)
  wilds : List Int
  frozen : Bool
  first : List Int
  late : List Int
  more : Int
  entered : Int
  deriving DecidableEq, Inhabited
def aW (x : aJ) : List D := [.lit (.int .i64 x.Field.Places), .lit (.int .i64 x.Field.Wilds), .lit (.int .i64 x.Field.Guards), .lit (.int .i64 x.Field.Close), .lit (.int .i64 x.Field.Freeze), .mp true (x.players.map fun p : Int × aA => ((fun n : Int => Value.int .i64 n) p.1, aB p.2)), .sl 1 (x.wilds.map aG), .lit (.bool x.frozen), .sl 1 (x.first.map aG), .sl 1 (x.late.map aG), .lit (.int .i64 x.more), .lit (.int .i64 x.entered)]

structure dE where
  Main : List Int
  Wilds : List Int
  Out : List Int
  Open : Int
  deriving DecidableEq, Inhabited
def cZ (x : dE) : List D := [.sl 1 (x.Main.map aG), .sl 1 (x.Wilds.map aG), .sl 1 (x.Out.map aG), .lit (.int .i64 x.Open)]

structure aP where
  free : Int
  guarded : Int
  moved : Int
  covered : Int
  deriving DecidableEq, Inhabited
def aM (x : aP) : List D := [.lit (.int .i64 x.free), .lit (.int .i64 x.guarded), .lit (.int .i64 x.moved), .lit (.int .i64 x.covered)]

structure eI where
  First : Int
  Second : Int
  deriving DecidableEq, Inhabited
def jD (x : eI) : List D := [.lit (.int .i64 x.First), .lit (.int .i64 x.Second)]

def zF (x : aT) : Prop := okI x.Places ∧ okI x.Wilds ∧ okI x.Guards ∧ okI x.Close ∧ okI x.Freeze

def uA (x : aK) : Prop := okI x.Id ∧ okI x.Hour ∧ okI x.Kind ∧ okI x.Player ∧ okI x.Rank

def rT (x : eI) : Prop := okI x.First ∧ okI x.Second

def lI (l_0 : List aK) : Option Bool :=
    (bif decide (20 < (l_0.length : Int)) then (some (decide ((l_0.length : Int) ≤ 60))) else (some false)).bind fun b1 =>
    (bif b1 then (some true) else (some (decide (100 < (l_0.length : Int))))).bind fun b2 =>
    some b2

def bW (n_0 : Int) (low_1 : Int) (high_2 : Int) : Option Bool :=
    (bif decide (low_1 ≤ n_0) then (some (decide (n_0 ≤ high_2))) else (some false)).bind fun b1 =>
    some b1

def iR (x_0 : aK) : Option Bool :=
    (bW x_0.Id 0 999).bind fun r2 =>
    (bif !r2 then (some true) else ((bW x_0.Player 0 999).bind fun r3 =>
    some (!r3))).bind fun b4 =>
    (bif b4 then (some true) else ((bW x_0.Hour 0 9999).bind fun r5 =>
    some (!r5))).bind fun b6 =>
    bif b6 then (some false)
    else (bif decide (x_0.Kind = 1) then ((bW x_0.Rank 0 9999).bind fun r7 =>
    some r7)
    else (bif decide (x_0.Kind = 2) then ((bW x_0.Rank 1 9999).bind fun r8 =>
    some r8)
    else (bif decide (x_0.Kind = 3) then (bif decide (x_0.Kind = 3) then (some (decide (x_0.Rank = 0)))
    else (some false))
    else (bif decide (x_0.Kind = 4) then (bif decide (x_0.Kind = 4) then (some (decide (x_0.Rank = 0)))
    else (some false))
    else (bif decide (x_0.Kind = 5) then (some (decide (x_0.Rank = 0)))
    else (some false))))))

def mQ (again0 : Int → Option Int) (l_101 : List aK) (i_101 : Int) : Option Int :=
    again0 (w64 (i_101 + 1))

def mR (again0 : Int → Option Int) (l_102 : List aK) (i_102 : Int) : Option Int :=
    mQ again0 l_102 i_102

def eR (again0 : Int → Option Int) (l_2 : List aK) (i_2 : Int) : Nat → Int → Option Int
  | 0, _ => none
  | k2 + 1, k_2 =>
    bif decide (k_2 < i_2) then ((idx l_2 k_2).bind fun x13 =>
    (idx l_2 i_2).bind fun x14 =>
    (bif decide (x13.Id = x14.Id) then ((idx l_2 k_2).bind fun x15 =>
    (idx l_2 i_2).bind fun x16 =>
    some (!decide (x15 = x16))) else (some false)).bind fun b17 =>
    bif b17 then (some 51)
    else ((eR again0 l_2 i_2 k2) (w64 (k_2 + 1))))
    else (mR again0 l_2 i_2)

def mP : Option Int :=
    some 0

def eQ (l_0 : List aK) : Nat → Int → Option Int
  | 0, _ => none
  | k0 + 1, i_0 =>
    bif decide (i_0 < (l_0.length : Int)) then ((idx l_0 i_0).bind fun x11 =>
    (iR x11).bind fun r12 =>
    bif !r12 then (some 51)
    else (eR (eQ l_0 k0) l_0 i_0 BIG 0))
    else (mP)

def kL (f_0 : aT) (l_1 : List aK) : Option Int :=
    (bW f_0.Places 1 32).bind fun r2 =>
    (bif !r2 then (some true) else ((bW f_0.Wilds 0 32).bind fun r3 =>
    some (!r3))).bind fun b4 =>
    (bif b4 then (some true) else ((bW f_0.Guards 0 32).bind fun r5 =>
    some (!r5))).bind fun b6 =>
    (bif b6 then (some true) else ((bW f_0.Close 0 9999).bind fun r7 =>
    some (!r7))).bind fun b8 =>
    (bif b8 then (some true) else ((bW f_0.Freeze f_0.Close 9999).bind fun r9 =>
    some (!r9))).bind fun b10 =>
    bif b10 then (some 50)
    else (bif decide (60 < (l_1.length : Int)) then (some 51)
    else (eQ l_1 BIG 0))

def kK (f_0 : aT) (l_1 : List aK) : Option Bool :=
    (lI l_1).bind fun r2 =>
    (bif !r2 then ((kL f_0 l_1).bind fun r3 =>
    some (decide (r3 = 0))) else (some false)).bind fun b4 =>
    some b4

def iJ (n_0 : Int) : Option Bool :=
    (bif decide (0 ≤ n_0) then (some (decide (n_0 ≤ 9999))) else (some false)).bind fun b1 =>
    some b1

def cY (id_0 : Int) (hour_1 : Int) (kind_2 : Int) (player_3 : Int) (rank_4 : Int) : Option aK :=
    some (aK.mk id_0 hour_1 kind_2 player_3 rank_4)

def gW : Option (aT × (List aK)) :=
    (cY 0 1 1 7 50).bind fun r3 =>
    (cY 1 2 1 8 20).bind fun r4 =>
    (cY 2 3 2 9 10).bind fun r5 =>
    (cY 3 4 2 6 30).bind fun r6 =>
    (cY 4 5 1 5 70).bind fun r7 =>
    (cY 5 6 1 4 0).bind fun r8 =>
    (cY 6 11 1 3 1).bind fun r9 =>
    (cY 7 12 3 7 0).bind fun r10 =>
    (cY 8 15 4 8 0).bind fun r11 =>
    (cY 9 21 5 4 0).bind fun r12 =>
    (cY 10 22 4 5 0).bind fun r13 =>
    some ((aT.mk 3 1 1 10 20), [r3, r4, r5, r6, r7, r8, r9, r10, r11, r12, r13])

def bQ (n_0 : Int) (low_1 : Int) (high_2 : Int) : Option Bool :=
    (bif decide (low_1 ≤ n_0) then (some (decide (n_0 ≤ high_2))) else (some false)).bind fun b1 =>
    some b1

def mH (f_0 : aT) : Option Bool :=
    (bQ f_0.Places 1 32).bind fun r2 =>
    (bif r2 then ((bQ f_0.Wilds 0 32).bind fun r3 =>
    some r3) else (some false)).bind fun b4 =>
    (bif b4 then ((bQ f_0.Guards 0 32).bind fun r5 =>
    some r5) else (some false)).bind fun b6 =>
    (bif b6 then ((bQ f_0.Close 0 9999).bind fun r7 =>
    some r7) else (some false)).bind fun b8 =>
    (bif b8 then ((bQ f_0.Freeze f_0.Close 9999).bind fun r9 =>
    some r9) else (some false)).bind fun b10 =>
    some b10

def lK (n_0 : aK) : Option Bool :=
    bif decide (n_0.Kind = 1) then ((bQ n_0.Id 0 999).bind fun r2 =>
    (bif r2 then ((bQ n_0.Player 0 999).bind fun r3 =>
    some r3) else (some false)).bind fun b4 =>
    (bif b4 then ((bQ n_0.Hour 0 9999).bind fun r5 =>
    some r5) else (some false)).bind fun b6 =>
    (bif b6 then ((bQ n_0.Rank 0 9999).bind fun r7 =>
    some r7) else (some false)).bind fun b8 =>
    some b8)
    else (bif decide (n_0.Kind = 2) then ((bQ n_0.Id 0 999).bind fun r9 =>
    (bif r9 then ((bQ n_0.Player 0 999).bind fun r10 =>
    some r10) else (some false)).bind fun b11 =>
    (bif b11 then ((bQ n_0.Hour 0 9999).bind fun r12 =>
    some r12) else (some false)).bind fun b13 =>
    (bif b13 then ((bQ n_0.Rank 1 9999).bind fun r14 =>
    some r14) else (some false)).bind fun b15 =>
    some b15)
    else (bif decide (n_0.Kind = 3) then (bif decide (n_0.Kind = 3) then ((bQ n_0.Id 0 999).bind fun r16 =>
    (bif r16 then ((bQ n_0.Player 0 999).bind fun r17 =>
    some r17) else (some false)).bind fun b18 =>
    (bif b18 then ((bQ n_0.Hour 0 9999).bind fun r19 =>
    some r19) else (some false)).bind fun b20 =>
    (bif b20 then ((bQ n_0.Rank 0 0).bind fun r21 =>
    some r21) else (some false)).bind fun b22 =>
    some b22)
    else (some false))
    else (bif decide (n_0.Kind = 4) then (bif decide (n_0.Kind = 4) then ((bQ n_0.Id 0 999).bind fun r23 =>
    (bif r23 then ((bQ n_0.Player 0 999).bind fun r24 =>
    some r24) else (some false)).bind fun b25 =>
    (bif b25 then ((bQ n_0.Hour 0 9999).bind fun r26 =>
    some r26) else (some false)).bind fun b27 =>
    (bif b27 then ((bQ n_0.Rank 0 0).bind fun r28 =>
    some r28) else (some false)).bind fun b29 =>
    some b29)
    else (some false))
    else (bif decide (n_0.Kind = 5) then ((bQ n_0.Id 0 999).bind fun r30 =>
    (bif r30 then ((bQ n_0.Player 0 999).bind fun r31 =>
    some r31) else (some false)).bind fun b32 =>
    (bif b32 then ((bQ n_0.Hour 0 9999).bind fun r33 =>
    some r33) else (some false)).bind fun b34 =>
    (bif b34 then ((bQ n_0.Rank 0 0).bind fun r35 =>
    some r35) else (some false)).bind fun b36 =>
    some b36)
    else (some false)))))

def qC : Option Int :=
    some 0

def gX (t17_0 : List aK) (t18_0 : Int) : Nat → Int → (List (Int × aK)) → Option Int
  | 0, _, _ => none
  | k0 + 1, t19_0, o16_0 =>
    bif decide (t19_0 < t18_0) then ((idx t17_0 t19_0).bind fun x4 =>
    (lK x4).bind fun r7 =>
    (bif !r7 then (some true) else ((bif eY x4.Id o16_0 then (some (!decide ((aE x4.Id (aK.mk 0 0 0 0 0) o16_0) = x4))) else (some false)).bind fun b8 =>
    some b8)).bind fun b9 =>
    bif b9 then (some 51)
    else ((gX t17_0 t18_0 k0) (w64 (t19_0 + 1)) (bX x4.Id x4 o16_0)))
    else (qC)

def nZ (f_0 : aT) (l_1 : List aK) : Option Int :=
    (mH f_0).bind fun r2 =>
    bif !r2 then (some 50)
    else (bif decide (60 < (l_1.length : Int)) then (some 51)
    else (gX l_1 (l_1.length : Int) BIG 0 ([] : List (Int × aK))))

def iH (s_0 : List aK) : Option Unit :=
    some ()

def fJ {S : Type} (againY : S → aK → Option (S × Bool)) (sy_100 : S) : Option (S × Bool) :=
    some (sy_100, true)

def cB {S : Type} (againY : S → aK → Option (S × Bool)) (t5_0 : List aK) (t6_0 : Int) : Nat → Int → S → Option (S × Bool)
  | 0, _, _ => none
  | k0 + 1, t7_0, sy_0 =>
    bif decide (t7_0 < t6_0) then ((idx t5_0 t7_0).bind fun x1 =>
    (againY sy_0 x1).bind fun y3 =>
    bif !y3.2 then (some y3)
    else ((cB againY t5_0 t6_0 k0) (w64 (t7_0 + 1)) y3.1))
    else (fJ againY sy_0)

def eD {S : Type} (yield_0 : S → aK → Option (S × Bool)) (c_1 : List aK) (sy : S) : Option (S × Bool) :=
    cB yield_0 c_1 (c_1.length : Int) BIG 0 sy

def gL (seq_1 : List aK) : Option ((List aK)) :=
    (eD (S := (List aK)) (fun s3 x4 =>
    (app 40 s3 ([x4])).bind fun x6 =>
    some (x6, true)) seq_1 ([] : List aK)).bind fun s8 =>
    bif s8.2 then (some s8.1)
    else (none)

def fR (seq_0 : List aK) : Option ((List aK)) :=
    (gL seq_0).bind fun r2 =>
    some r2

def jT (x : List aK) (cmp : aK → aK → Option Int) : Option (List aK) := oM x cmp

def eV (seq_0 : List aK) (cmp_1 : aK → aK → Option Int) : Option ((List aK)) :=
    (fR seq_0).bind fun r2 =>
    (jT r2 cmp_1).bind fun r4 =>
    some r4

def oG (zero_100 : Int) : Option Int :=
    some zero_100

def kY (zero_0 : Int) (t6_0 : List Int) (t7_0 : Int) : Nat → Int → Option Int
  | 0, _ => none
  | k0 + 1, t8_0 =>
    bif decide (t8_0 < t7_0) then ((idx t6_0 t8_0).bind fun x1 =>
    bif !decide (x1 = zero_0) then (some x1)
    else ((kY zero_0 t6_0 t7_0 k0) (w64 (t8_0 + 1))))
    else (oG zero_0)

def kZ (vals_0 : List Int) : Option Int :=
    kY 0 vals_0 (vals_0.length : Int) BIG 0

def dJ (a_0 : aK) (b_1 : aK) : Option Int :=
    (kZ ([w64 (a_0.Hour - b_1.Hour), w64 (a_0.Id - b_1.Id)])).bind fun r3 =>
    some r3

def iY (again0 : Int → (List aK) → Option ((List aK))) (k_102 : Int) (s_102 : List aK) : Option ((List aK)) :=
    (chk (decide (0 ≤ k_102) && decide (k_102 ≤ (s_102.length : Int)))).bind fun u9 =>
    (chk (decide (k_102.toNat ≤ s_102.length))).bind fun u10 =>
    (chk (decide (0 ≤ k_102))).bind fun u11 =>
    some (s_102.take k_102.toNat)

def cQ (again0 : Int → (List aK) → Option ((List aK))) (s2_2 : Int) : Nat → Int → Int → (List aK) → Option ((List aK))
  | 0, _, _, _ => none
  | k2 + 1, k_2, k2_2, s_2 =>
    bif decide (k2_2 < ((s_2.drop s2_2.toNat).length : Int)) then ((idx (s_2.drop s2_2.toNat) k2_2).bind fun x5 =>
    (idx (s_2.drop s2_2.toNat) (w64 (k2_2 - 1))).bind fun x6 =>
    bif !decide (x5 = x6) then ((idx (s_2.drop s2_2.toNat) k2_2).bind fun x7 =>
    (idx s_2 k_2).bind fun x8 =>
    (cQ again0 s2_2 k2) (w64 (k_2 + 1)) (w64 (k2_2 + 1)) (s_2.set k_2.toNat x7))
    else ((cQ again0 s2_2 k2) k_2 (w64 (k2_2 + 1)) s_2))
    else (iY again0 k_2 s_2)

def iX (again0 : Int → (List aK) → Option ((List aK))) (k_101 : Int) (s_101 : List aK) : Option ((List aK)) :=
    again0 (w64 (k_101 + 1)) s_101

def iW (s_100 : List aK) : Option ((List aK)) :=
    some s_100

def cF : Nat → Int → (List aK) → Option ((List aK))
  | 0, _, _ => none
  | k0 + 1, k_0, s_0 =>
    bif decide (k_0 < (s_0.length : Int)) then ((idx s_0 k_0).bind fun x2 =>
    (idx s_0 (w64 (k_0 - 1))).bind fun x3 =>
    bif decide (x2 = x3) then ((chk (decide (0 ≤ k_0) && decide (k_0 ≤ (s_0.length : Int)))).bind fun u4 =>
    cQ (cF k0) k_0 BIG k_0 1 s_0)
    else (iX (cF k0) k_0 s_0))
    else (iW s_0)

def eO (s_0 : List aK) : Option ((List aK)) :=
    bif decide ((s_0.length : Int) < 2) then (some s_0)
    else (cF BIG 1 s_0)

def dR (l_0 : aJ) : Option Int :=
    some (w64 (l_0.Field.Places + l_0.more))

def lW (many_100 : Int) : Option Int :=
    some many_100

def eK (l_0 : aJ) (t7_0 : List Int) (t8_0 : Int) : Nat → Int → Int → Option Int
  | 0, _, _ => none
  | k0 + 1, many_0, t9_0 =>
    bif decide (t9_0 < t8_0) then ((idx t7_0 t9_0).bind fun x1 =>
    bif (aE x1 (aA.mk false false 0 0 false false false false) l_0.players).guard then ((eK l_0 t7_0 t8_0 k0) (w64 (many_0 + 1)) (w64 (t9_0 + 1)))
    else ((eK l_0 t7_0 t8_0 k0) many_0 (w64 (t9_0 + 1))))
    else (lW many_0)

def gE (l_0 : aJ) (in_1 : List Int) : Option Int :=
    eK l_0 in_1 (in_1.length : Int) BIG 0 0

def eL (l_0_players : List (Int × aA)) (n_1 : Int) : Option Bool :=
    (bif (aE n_1 (aA.mk false false 0 0 false false false false) l_0_players).entered then (some (!((aE n_1 (aA.mk false false 0 0 false false false false) l_0_players).quit))) else (some false)).bind fun b2 =>
    (bif b2 then (some (!((aE n_1 (aA.mk false false 0 0 false false false false) l_0_players).had))) else (some false)).bind fun b3 =>
    some b3

def mX (x : List Int) (cmp : Int → Int → Option Int) : Option (List Int) := oM x cmp

def fO (p_0 : aA) : Option Int :=
    bif decide (p_0.rank = 0) then (some 1)
    else (some 0)

def dK (a_0 : Int) (b_1 : Int) (c_2 : aJ) : Option Int :=
    (fO (aE a_0 (aA.mk false false 0 0 false false false false) c_2.players)).bind fun r3 =>
    (fO (aE b_1 (aA.mk false false 0 0 false false false false) c_2.players)).bind fun r4 =>
    (kZ ([w64 (r3 - r4), w64 (((aE a_0 (aA.mk false false 0 0 false false false false) c_2.players).rank) - ((aE b_1 (aA.mk false false 0 0 false false false false) c_2.players).rank)), w64 (((aE a_0 (aA.mk false false 0 0 false false false false) c_2.players).turn) - ((aE b_1 (aA.mk false false 0 0 false false false false) c_2.players).turn))])).bind fun r5 =>
    some r5

def jN (againQ : ((List Int)) → Prop) (l_100 : aJ) (out_100 : List Int) : Prop :=
    nb (mX out_100 (fun y12 y13 => dK y12 y13 l_100)) fun r14 =>
    againQ r14

def eU (againQ : ((List Int)) → Prop) (l_0 : aJ) : Nat → (List Int) → (List (Int × aA)) → Prop
  | 0, _, _ => False
  | k0 + 1, out_0, left_0 =>
    aHf left_0 (jN againQ l_0 out_0)
    (fun p10 left11 =>
    nb (eL l_0.players p10.1) fun r15 =>
    bif r15 then (nb (app 8 out_0 ([p10.1])) fun x16 =>
    (eU againQ l_0 k0) x16 left11)
    else ((eU againQ l_0 k0) out_0 left11))

def lC (l_0 : aJ) (Q : ((List Int)) → Prop) : Prop :=
    aAj l_0.players fun left9 =>
    eU Q l_0 BIG ([] : List Int) left9

def dY (l : aJ) : Option (List Int) := if l.players.length < 4294967296 then oM ((l.players.filter fun p => (eL l.players p.1).getD false).map Prod.fst) (fun a b => dK a b l) else none

def lX (inv_100 : List Int) : Option ((List Int)) :=
    some inv_100

def eM (l_0 : aJ) (t7_0 : List Int) (t8_0 : Int) : Nat → Int → (List Int) → Option ((List Int))
  | 0, _, _ => none
  | k0 + 1, t9_0, inv_0 =>
    bif decide (t9_0 < t8_0) then ((idx t7_0 t9_0).bind fun x4 =>
    (dR l_0).bind fun r5 =>
    (bif decide ((inv_0.length : Int) < r5) then ((bif !((aE x4 (aA.mk false false 0 0 false false false false) l_0.players).guard) then (some true) else ((gE l_0 inv_0).bind fun r6 =>
    some (decide (r6 < l_0.Field.Guards)))).bind fun b7 =>
    some b7) else (some false)).bind fun b8 =>
    bif b8 then ((app 8 inv_0 ([x4])).bind fun x9 =>
    (eM l_0 t7_0 t8_0 k0) (w64 (t9_0 + 1)) x9)
    else ((eM l_0 t7_0 t8_0 k0) (w64 (t9_0 + 1)) inv_0))
    else (lX inv_0)

def iM (l_0 : aJ) : Option ((List Int)) :=
    (dY l_0).bind fun r3 =>
    eM l_0 r3 (r3.length : Int) BIG 0 ([] : List Int)

def iL (l_0 : aJ) : Option aJ :=
    bif !l_0.frozen then ((iM l_0).bind fun r1 =>
    some (aJ.mk l_0.Field l_0.players l_0.wilds true r1 l_0.late l_0.more l_0.entered))
    else (some l_0)

def kW : Option Int :=
    some (-1)

def eF (s_0 : List Int) (f_0 : Int → Option Bool) (t7_0 : Int) : Nat → Int → Option Int
  | 0, _ => none
  | k0 + 1, t8_0 =>
    bif decide (t8_0 < t7_0) then ((idx s_0 t8_0).bind fun x1 =>
    (f_0 x1).bind fun r2 =>
    bif r2 then (some t8_0)
    else ((eF s_0 f_0 t7_0 k0) (w64 (t8_0 + 1))))
    else (kW)

def fI (s_0 : List Int) (f_1 : Int → Option Bool) : Option Int :=
    eF s_0 f_1 (s_0.length : Int) BIG 0

def kR (i_100 : Int) (s_100 : List Int) : Option ((List Int)) :=
    (chk (decide (0 ≤ i_100) && decide (i_100 ≤ (s_100.length : Int)))).bind fun u6 =>
    (chk (decide (i_100.toNat ≤ s_100.length))).bind fun u7 =>
    (chk (decide (0 ≤ i_100))).bind fun u8 =>
    some (s_100.take i_100.toNat)

def dN (del_0 : Int → Option Bool) : Nat → Int → Int → (List Int) → Option ((List Int))
  | 0, _, _, _ => none
  | k0 + 1, i_0, j_0, s_0 =>
    bif decide (j_0 < (s_0.length : Int)) then ((idx s_0 j_0).bind fun x3 =>
    (del_0 x3).bind fun r4 =>
    bif !r4 then ((idx s_0 i_0).bind fun x5 =>
    (dN del_0 k0) (w64 (i_0 + 1)) (w64 (j_0 + 1)) (s_0.set i_0.toNat x3))
    else ((dN del_0 k0) i_0 (w64 (j_0 + 1)) s_0))
    else (kR i_0 s_0)

def bY (s_0 : List Int) (del_1 : Int → Option Bool) : Option ((List Int)) :=
    (fI s_0 del_1).bind fun r2 =>
    bif decide (r2 = (-1)) then (some s_0)
    else (dN del_1 BIG r2 (w64 (r2 + 1)) s_0)

def dS (m_0 : Int) (c_1 : aK) : Option Bool :=
    some (decide (m_0 = c_1.Player))

def iD (l_0 : aJ) (n_1 : aK) : Option aJ :=
    bif decide (n_1.Kind = 1) then (bif decide (n_1.Kind = 1) then ((bif decide (n_1.Hour ≤ l_0.Field.Close) then (some (!((aE n_1.Player (aA.mk false false 0 0 false false false false) l_0.players).entered))) else (some false)).bind fun b3 =>
    bif b3 then (some (aJ.mk l_0.Field (bX n_1.Player (aA.mk true (decide (n_1.Kind = 2)) n_1.Rank (w64 (l_0.entered + 1)) ((aE n_1.Player (aA.mk false false 0 0 false false false false) l_0.players).quit) ((aE n_1.Player (aA.mk false false 0 0 false false false false) l_0.players).signed) ((aE n_1.Player (aA.mk false false 0 0 false false false false) l_0.players).wild) ((aE n_1.Player (aA.mk false false 0 0 false false false false) l_0.players).had)) l_0.players) l_0.wilds l_0.frozen l_0.first l_0.late l_0.more (w64 (l_0.entered + 1))))
    else (some (aJ.mk l_0.Field (bX n_1.Player (aE n_1.Player (aA.mk false false 0 0 false false false false) l_0.players) l_0.players) l_0.wilds l_0.frozen l_0.first l_0.late l_0.more l_0.entered)))
    else (bif decide (n_1.Kind = 3) then ((bif decide (n_1.Hour ≤ l_0.Field.Freeze) then (some (!((aE n_1.Player (aA.mk false false 0 0 false false false false) l_0.players).wild))) else (some false)).bind fun b4 =>
    (bif b4 then (some (!((aE n_1.Player (aA.mk false false 0 0 false false false false) l_0.players).quit))) else (some false)).bind fun b5 =>
    (bif b5 then (some (decide ((l_0.wilds.length : Int) < l_0.Field.Wilds))) else (some false)).bind fun b6 =>
    bif b6 then ((app 8 l_0.wilds ([n_1.Player])).bind fun x7 =>
    some (aJ.mk l_0.Field (bX n_1.Player (aA.mk ((aE n_1.Player (aA.mk false false 0 0 false false false false) l_0.players).entered) ((aE n_1.Player (aA.mk false false 0 0 false false false false) l_0.players).guard) ((aE n_1.Player (aA.mk false false 0 0 false false false false) l_0.players).rank) ((aE n_1.Player (aA.mk false false 0 0 false false false false) l_0.players).turn) ((aE n_1.Player (aA.mk false false 0 0 false false false false) l_0.players).quit) ((aE n_1.Player (aA.mk false false 0 0 false false false false) l_0.players).signed) true true) l_0.players) x7 l_0.frozen l_0.first l_0.late l_0.more l_0.entered))
    else (some (aJ.mk l_0.Field (bX n_1.Player (aE n_1.Player (aA.mk false false 0 0 false false false false) l_0.players) l_0.players) l_0.wilds l_0.frozen l_0.first l_0.late l_0.more l_0.entered)))
    else (bif decide (n_1.Kind = 4) then ((bif (aE n_1.Player (aA.mk false false 0 0 false false false false) l_0.players).wild then (some (decide (l_0.Field.Freeze < n_1.Hour))) else (some false)).bind fun b9 =>
    bif b9 then ((bY l_0.wilds (fun y10 => dS y10 n_1)).bind fun r11 =>
    some (aJ.mk l_0.Field (bX n_1.Player (aA.mk ((aE n_1.Player (aA.mk false false 0 0 false false false false) l_0.players).entered) ((aE n_1.Player (aA.mk false false 0 0 false false false false) l_0.players).guard) ((aE n_1.Player (aA.mk false false 0 0 false false false false) l_0.players).rank) ((aE n_1.Player (aA.mk false false 0 0 false false false false) l_0.players).turn) true ((aE n_1.Player (aA.mk false false 0 0 false false false false) l_0.players).signed) false ((aE n_1.Player (aA.mk false false 0 0 false false false false) l_0.players).had)) l_0.players) r11 l_0.frozen l_0.first l_0.late (w64 (l_0.more + 1)) l_0.entered))
    else ((bY l_0.wilds (fun y13 => dS y13 n_1)).bind fun r14 =>
    some (aJ.mk l_0.Field (bX n_1.Player (aA.mk ((aE n_1.Player (aA.mk false false 0 0 false false false false) l_0.players).entered) ((aE n_1.Player (aA.mk false false 0 0 false false false false) l_0.players).guard) ((aE n_1.Player (aA.mk false false 0 0 false false false false) l_0.players).rank) ((aE n_1.Player (aA.mk false false 0 0 false false false false) l_0.players).turn) true ((aE n_1.Player (aA.mk false false 0 0 false false false false) l_0.players).signed) false ((aE n_1.Player (aA.mk false false 0 0 false false false false) l_0.players).had)) l_0.players) r14 l_0.frozen l_0.first l_0.late l_0.more l_0.entered)))
    else (bif decide (n_1.Kind = 5) then (some (aJ.mk l_0.Field (bX n_1.Player (aA.mk ((aE n_1.Player (aA.mk false false 0 0 false false false false) l_0.players).entered) ((aE n_1.Player (aA.mk false false 0 0 false false false false) l_0.players).guard) ((aE n_1.Player (aA.mk false false 0 0 false false false false) l_0.players).rank) ((aE n_1.Player (aA.mk false false 0 0 false false false false) l_0.players).turn) ((aE n_1.Player (aA.mk false false 0 0 false false false false) l_0.players).quit) true ((aE n_1.Player (aA.mk false false 0 0 false false false false) l_0.players).wild) ((aE n_1.Player (aA.mk false false 0 0 false false false false) l_0.players).had)) l_0.players) l_0.wilds l_0.frozen l_0.first l_0.late l_0.more l_0.entered))
    else (some (aJ.mk l_0.Field (bX n_1.Player (aE n_1.Player (aA.mk false false 0 0 false false false false) l_0.players) l_0.players) l_0.wilds l_0.frozen l_0.first l_0.late l_0.more l_0.entered))))))
    else (bif decide (n_1.Kind = 2) then ((bif decide (n_1.Hour ≤ l_0.Field.Close) then (some (!((aE n_1.Player (aA.mk false false 0 0 false false false false) l_0.players).entered))) else (some false)).bind fun b16 =>
    bif b16 then (some (aJ.mk l_0.Field (bX n_1.Player (aA.mk true (decide (n_1.Kind = 2)) n_1.Rank (w64 (l_0.entered + 1)) ((aE n_1.Player (aA.mk false false 0 0 false false false false) l_0.players).quit) ((aE n_1.Player (aA.mk false false 0 0 false false false false) l_0.players).signed) ((aE n_1.Player (aA.mk false false 0 0 false false false false) l_0.players).wild) ((aE n_1.Player (aA.mk false false 0 0 false false false false) l_0.players).had)) l_0.players) l_0.wilds l_0.frozen l_0.first l_0.late l_0.more (w64 (l_0.entered + 1))))
    else (some (aJ.mk l_0.Field (bX n_1.Player (aE n_1.Player (aA.mk false false 0 0 false false false false) l_0.players) l_0.players) l_0.wilds l_0.frozen l_0.first l_0.late l_0.more l_0.entered)))
    else (bif decide (n_1.Kind = 3) then ((bif decide (n_1.Hour ≤ l_0.Field.Freeze) then (some (!((aE n_1.Player (aA.mk false false 0 0 false false false false) l_0.players).wild))) else (some false)).bind fun b17 =>
    (bif b17 then (some (!((aE n_1.Player (aA.mk false false 0 0 false false false false) l_0.players).quit))) else (some false)).bind fun b18 =>
    (bif b18 then (some (decide ((l_0.wilds.length : Int) < l_0.Field.Wilds))) else (some false)).bind fun b19 =>
    bif b19 then ((app 8 l_0.wilds ([n_1.Player])).bind fun x20 =>
    some (aJ.mk l_0.Field (bX n_1.Player (aA.mk ((aE n_1.Player (aA.mk false false 0 0 false false false false) l_0.players).entered) ((aE n_1.Player (aA.mk false false 0 0 false false false false) l_0.players).guard) ((aE n_1.Player (aA.mk false false 0 0 false false false false) l_0.players).rank) ((aE n_1.Player (aA.mk false false 0 0 false false false false) l_0.players).turn) ((aE n_1.Player (aA.mk false false 0 0 false false false false) l_0.players).quit) ((aE n_1.Player (aA.mk false false 0 0 false false false false) l_0.players).signed) true true) l_0.players) x20 l_0.frozen l_0.first l_0.late l_0.more l_0.entered))
    else (some (aJ.mk l_0.Field (bX n_1.Player (aE n_1.Player (aA.mk false false 0 0 false false false false) l_0.players) l_0.players) l_0.wilds l_0.frozen l_0.first l_0.late l_0.more l_0.entered)))
    else (bif decide (n_1.Kind = 4) then ((bif (aE n_1.Player (aA.mk false false 0 0 false false false false) l_0.players).wild then (some (decide (l_0.Field.Freeze < n_1.Hour))) else (some false)).bind fun b22 =>
    bif b22 then ((bY l_0.wilds (fun y23 => dS y23 n_1)).bind fun r24 =>
    some (aJ.mk l_0.Field (bX n_1.Player (aA.mk ((aE n_1.Player (aA.mk false false 0 0 false false false false) l_0.players).entered) ((aE n_1.Player (aA.mk false false 0 0 false false false false) l_0.players).guard) ((aE n_1.Player (aA.mk false false 0 0 false false false false) l_0.players).rank) ((aE n_1.Player (aA.mk false false 0 0 false false false false) l_0.players).turn) true ((aE n_1.Player (aA.mk false false 0 0 false false false false) l_0.players).signed) false ((aE n_1.Player (aA.mk false false 0 0 false false false false) l_0.players).had)) l_0.players) r24 l_0.frozen l_0.first l_0.late (w64 (l_0.more + 1)) l_0.entered))
    else ((bY l_0.wilds (fun y26 => dS y26 n_1)).bind fun r27 =>
    some (aJ.mk l_0.Field (bX n_1.Player (aA.mk ((aE n_1.Player (aA.mk false false 0 0 false false false false) l_0.players).entered) ((aE n_1.Player (aA.mk false false 0 0 false false false false) l_0.players).guard) ((aE n_1.Player (aA.mk false false 0 0 false false false false) l_0.players).rank) ((aE n_1.Player (aA.mk false false 0 0 false false false false) l_0.players).turn) true ((aE n_1.Player (aA.mk false false 0 0 false false false false) l_0.players).signed) false ((aE n_1.Player (aA.mk false false 0 0 false false false false) l_0.players).had)) l_0.players) r27 l_0.frozen l_0.first l_0.late l_0.more l_0.entered)))
    else (bif decide (n_1.Kind = 5) then (some (aJ.mk l_0.Field (bX n_1.Player (aA.mk ((aE n_1.Player (aA.mk false false 0 0 false false false false) l_0.players).entered) ((aE n_1.Player (aA.mk false false 0 0 false false false false) l_0.players).guard) ((aE n_1.Player (aA.mk false false 0 0 false false false false) l_0.players).rank) ((aE n_1.Player (aA.mk false false 0 0 false false false false) l_0.players).turn) ((aE n_1.Player (aA.mk false false 0 0 false false false false) l_0.players).quit) true ((aE n_1.Player (aA.mk false false 0 0 false false false false) l_0.players).wild) ((aE n_1.Player (aA.mk false false 0 0 false false false false) l_0.players).had)) l_0.players) l_0.wilds l_0.frozen l_0.first l_0.late l_0.more l_0.entered))
    else (some (aJ.mk l_0.Field (bX n_1.Player (aE n_1.Player (aA.mk false false 0 0 false false false false) l_0.players) l_0.players) l_0.wilds l_0.frozen l_0.first l_0.late l_0.more l_0.entered))))))

def eB (n_0 : Int) (c_1_players : List (Int × aA)) : Option Bool :=
    (eL c_1_players n_0).bind fun r1 =>
    some (!r1)

def lF (n_1 : Int) : Option ((List Int)) :=
    bif decide (n_1 < 0) then (none)
    else (bif decide (0 < (w64 (n_1 - (w64 (0 - 0))))) then ((chk (decide (0 ≤ 0))).bind fun u2 =>
    (chk (decide (0 < (w64 (n_1 - (w64 (0 - 0))))) && decide ((w64 (n_1 - (w64 (0 - 0)))) * ((8 : Nat) : Int) ≤ 140737488355328))).bind fun u3 =>
    (chk (decide (0 ≤ 0))).bind fun u5 =>
    some ([] : List Int))
    else (some ([] : List Int)))

def pT (o24_102 : List Int) : Option ((List Int)) :=
    some o24_102

def eN (t25_2 : List (List Int)) (t26_2 : Int) : Nat → Int → (List Int) → Option ((List Int))
  | 0, _, _ => none
  | k2 + 1, t27_2, o24_2 =>
    bif decide (t27_2 < t26_2) then ((idx t25_2 t27_2).bind fun x5 =>
    (app 8 o24_2 x5).bind fun x6 =>
    (eN t25_2 t26_2 k2) (w64 (t27_2 + 1)) x6)
    else (pT o24_2)

def mD (slices_100 : List (List Int)) (size_100 : Int) : Option ((List Int)) :=
    (lF size_100).bind fun r3 =>
    eN slices_100 (slices_100.length : Int) BIG 0 r3

def fH (slices_0 : List (List Int)) (t9_0 : List (List Int)) (t10_0 : Int) : Nat → Int → Int → Option ((List Int))
  | 0, _, _ => none
  | k0 + 1, size_0, t11_0 =>
    bif decide (t11_0 < t10_0) then ((idx t9_0 t11_0).bind fun x2 =>
    bif decide ((w64 (size_0 + (x2.length : Int))) < 0) then (none)
    else ((fH slices_0 t9_0 t10_0 k0) (w64 (size_0 + (x2.length : Int))) (w64 (t11_0 + 1))))
    else (mD slices_0 size_0)

def jW (slices_0 : List (List Int)) : Option ((List Int)) :=
    fH slices_0 slices_0 (slices_0.length : Int) BIG 0 0

def dH (l_0 : aJ) : Option ((List Int)) :=
    bif !l_0.frozen then ((iM l_0).bind fun r2 =>
    some r2)
    else ((jW ([l_0.first, l_0.late])).bind fun r4 =>
    some r4)

def kV : Option Int :=
    some (-1)

def dP (s_0 : List Int) (v_0 : Int) (t7_0 : Int) : Nat → Int → Option Int
  | 0, _ => none
  | k0 + 1, t8_0 =>
    bif decide (t8_0 < t7_0) then ((idx s_0 t8_0).bind fun x1 =>
    bif decide (v_0 = x1) then (some t8_0)
    else ((dP s_0 v_0 t7_0 k0) (w64 (t8_0 + 1))))
    else (kV)

def fV (s_0 : List Int) (v_1 : Int) : Option Int :=
    dP s_0 v_1 (s_0.length : Int) BIG 0

def gN (s_0 : List Int) (v_1 : Int) : Option Bool :=
    (fV s_0 v_1).bind fun r1 =>
    some (decide (0 ≤ r1))

def iK (n_0 : Int) (c_1 : aJ) (c_2 : List Int) : Option Bool :=
    (bif (aE n_0 (aA.mk false false 0 0 false false false false) c_1.players).signed then ((gN c_2 n_0).bind fun r2 =>
    some (!r2)) else (some false)).bind fun b3 =>
    (bif b3 then ((bif !((aE n_0 (aA.mk false false 0 0 false false false false) c_1.players).guard) then (some true) else ((gE c_1 c_2).bind fun r4 =>
    some (decide (r4 < c_1.Field.Guards)))).bind fun b5 =>
    some b5) else (some false)).bind fun b6 =>
    some b6

def lD (l_100 : List (Int × aA)) (l_100_2 : List Int) (l_100_3 : List Int) (l_100_4 : List Int) (l_100_5 : aT) (l_100_6 : Bool) (l_100_7 : Int) (l_100_8 : Int) : Option aJ :=
    some (aJ.mk l_100_5 l_100 l_100_2 l_100_6 l_100_3 l_100_4 l_100_7 l_100_8)

def fU (l_0 : List (Int × aA)) (l_0_2 : List Int) (l_0_3 : List Int) : Nat → (List Int) → aT → Bool → Int → Int → (List Int) → Option aJ
  | 0, _, _, _, _, _, _ => none
  | k0 + 1, l_0_4, l_0_5, l_0_6, l_0_7, l_0_8, o25_0 =>
    (dR (aJ.mk l_0_5 l_0 l_0_2 l_0_6 l_0_3 l_0_4 l_0_7 l_0_8)).bind fun r11 =>
    bif decide ((o25_0.length : Int) < r11) then ((dY (aJ.mk l_0_5 l_0 l_0_2 l_0_6 l_0_3 l_0_4 l_0_7 l_0_8)).bind fun r12 =>
    (fI r12 (fun y14 => iK y14 (aJ.mk l_0_5 l_0 l_0_2 l_0_6 l_0_3 l_0_4 l_0_7 l_0_8) o25_0)).bind fun r15 =>
    bif decide (r15 < 0) then (some (aJ.mk l_0_5 l_0 l_0_2 l_0_6 l_0_3 l_0_4 l_0_7 l_0_8))
    else ((dY (aJ.mk l_0_5 l_0 l_0_2 l_0_6 l_0_3 l_0_4 l_0_7 l_0_8)).bind fun r16 =>
    (idx r16 r15).bind fun x18 =>
    (app 8 l_0_4 ([x18])).bind fun x19 =>
    (dH (aJ.mk l_0_5 l_0 l_0_2 l_0_6 l_0_3 x19 l_0_7 l_0_8)).bind fun r22 =>
    (fU l_0 l_0_2 l_0_3 k0) x19 l_0_5 l_0_6 l_0_7 l_0_8 r22))
    else (lD l_0 l_0_2 l_0_3 l_0_4 l_0_5 l_0_6 l_0_7 l_0_8)

def iC (l_0 : aJ) : Option aJ :=
    (bY l_0.first (fun y2 => eB y2 l_0.players)).bind fun r3 =>
    (bY l_0.late (fun y5 => eB y5 l_0.players)).bind fun r6 =>
    (dH (aJ.mk l_0.Field l_0.players l_0.wilds l_0.frozen r3 r6 l_0.more l_0.entered)).bind fun r8 =>
    fU l_0.players l_0.wilds r3 BIG r6 l_0.Field l_0.frozen l_0.more l_0.entered r8

def kH (hour_100 : Int) (f_100 : aT) (o12_100 : List (Int × aA)) (o14_100 : List Int) (o14_100_2 : List Int) (o14_100_3 : List Int) (o14_100_4 : aT) (o14_100_5 : Bool) (o14_100_6 : Int) (o14_100_7 : Int) : Option ((Option aJ)) :=
    bif decide (f_100.Freeze < hour_100) then ((iL (aJ.mk o14_100_4 o12_100 o14_100 o14_100_5 o14_100_2 o14_100_3 o14_100_6 o14_100_7)).bind fun r13 =>
    some (some r13))
    else (some (some (aJ.mk o14_100_4 o12_100 o14_100 o14_100_5 o14_100_2 o14_100_3 o14_100_6 o14_100_7)))

def eG (hour_0 : Int) (t20_0 : Int) (f_0 : aT) (o17_0 : List aK) : Nat → Int → (List (Int × aA)) → (List Int) → (List Int) → (List Int) → aT → Bool → Int → Int → Option ((Option aJ))
  | 0, _, _, _, _, _, _, _, _, _ => none
  | k0 + 1, t21_0, o12_0, o14_0, o14_0_2, o14_0_3, o14_0_4, o14_0_5, o14_0_6, o14_0_7 =>
    bif decide (t21_0 < t20_0) then ((idx o17_0 t21_0).bind fun x11 =>
    bif decide (hour_0 < x11.Hour) then (kH hour_0 f_0 o12_0 o14_0 o14_0_2 o14_0_3 o14_0_4 o14_0_5 o14_0_6 o14_0_7)
    else (bif decide (f_0.Freeze < x11.Hour) then ((iL (aJ.mk o14_0_4 o12_0 o14_0 o14_0_5 o14_0_2 o14_0_3 o14_0_6 o14_0_7)).bind fun r19 =>
    (iD r19 x11).bind fun r25 =>
    bif r25.frozen then ((iC r25).bind fun r31 =>
    (eG hour_0 t20_0 f_0 o17_0 k0) (w64 (t21_0 + 1)) r31.players r31.wilds r31.first r31.late r31.Field r31.frozen r31.more r31.entered)
    else ((eG hour_0 t20_0 f_0 o17_0 k0) (w64 (t21_0 + 1)) r25.players r25.wilds r25.first r25.late r25.Field r25.frozen r25.more r25.entered))
    else ((iD (aJ.mk o14_0_4 o12_0 o14_0 o14_0_5 o14_0_2 o14_0_3 o14_0_6 o14_0_7) x11).bind fun r37 =>
    bif r37.frozen then ((iC r37).bind fun r43 =>
    (eG hour_0 t20_0 f_0 o17_0 k0) (w64 (t21_0 + 1)) r43.players r43.wilds r43.first r43.late r43.Field r43.frozen r43.more r43.entered)
    else ((eG hour_0 t20_0 f_0 o17_0 k0) (w64 (t21_0 + 1)) r37.players r37.wilds r37.first r37.late r37.Field r37.frozen r37.more r37.entered))))
    else (kH hour_0 f_0 o12_0 o14_0 o14_0_2 o14_0_3 o14_0_4 o14_0_5 o14_0_6 o14_0_7)

def mN (f_0 : aT) (notices_1 : List aK) (hour_2 : Int) : Option ((Option aJ)) :=
    (iH notices_1).bind fun x4 =>
    (eV notices_1 (fun y5 y6 => dJ y5 y6)).bind fun r7 =>
    (eO r7).bind fun r9 =>
    eG hour_2 (r9.length : Int) f_0 r9 BIG 0 ([] : List (Int × aA)) ([] : List Int) ([] : List Int) ([] : List Int) f_0 false 0 0

def lZ (f_0 : aT) (notices_1 : List aK) (hour_2 : Int) (player_3 : Int) : Option ((Option aJ) × Int) :=
    (nZ f_0 notices_1).bind fun r2 =>
    bif !decide (r2 = 0) then (some ((none : Option aJ), r2))
    else ((bQ hour_2 0 9999).bind fun r3 =>
    (bif !r3 then (some true) else ((bQ player_3 0 999).bind fun r4 =>
    some (!r4))).bind fun b5 =>
    bif b5 then (some ((none : Option aJ), 1))
    else ((mN f_0 notices_1 hour_2).bind fun r6 =>
    some (r6, 0)))

def iU (n_0 : Int) (c_1 : List Int) : Option Bool :=
    (gN c_1 n_0).bind fun r1 =>
    some r1

def fZ (l_0 : aJ) : Option ((List Int)) :=
    (dH l_0).bind fun r1 =>
    (dY l_0).bind fun r3 =>
    (bY r3 (fun y5 => iU y5 r1)).bind fun r6 =>
    some r6

def lB (f_0 : aT) (notices_1 : List aK) (hour_2 : Int) : Option (dE × Int) :=
    (lZ f_0 notices_1 hour_2 0).bind fun r3 =>
    bif !decide (r3.2 = 0) then (some ((dE.mk ([] : List Int) ([] : List Int) ([] : List Int) 0), r3.2))
    else ((r3.1).bind fun x4 =>
    (dH x4).bind fun r5 =>
    (r3.1).bind fun x6 =>
    (fZ x6).bind fun r7 =>
    (dR x6).bind fun r8 =>
    some ((dE.mk r5 x6.wilds r7 (w64 (r8 - (r5.length : Int)))), 0))

def mU : Option (Int × Int) :=
    some (0, 0)

def gM (player_0 : Int) (t17_0 : List (List Int)) (t18_0 : Int) : Nat → Int → Option (Int × Int)
  | 0, _ => none
  | k0 + 1, t19_0 =>
    bif decide (t19_0 < t18_0) then ((idx t17_0 t19_0).bind fun x3 =>
    (fV x3 player_0).bind fun r4 =>
    bif decide (0 ≤ r4) then (some (w64 (t19_0 + 1), w64 (r4 + 1)))
    else ((gM player_0 t17_0 t18_0 k0) (w64 (t19_0 + 1))))
    else (mU)

def iV (l_0 : aJ) (player_1 : Int) : Option (Int × Int) :=
    (dH l_0).bind fun r1 =>
    (fZ l_0).bind fun r2 =>
    gM player_1 ([r1, l_0.wilds, r2]) (([r1, l_0.wilds, r2]).length : Int) BIG 0

def kS (n_0 : Int) (c_1 : aJ) : Option Bool :=
    some (!((aE n_0 (aA.mk false false 0 0 false false false false) c_1.players).signed))

def jA (again0 : aP → aP → Option (aP × Bool)) (t1_101 : aJ) (t2_101 : List Int) (t3_101 : Int) (s_101 : aP) (nextv_101 : aP) : Option (aP × Bool) :=
    again0 s_101 nextv_101

def fM (again0 : aP → aP → Option (aP × Bool)) (t1_102 : aJ) (t2_102 : List Int) (t3_102 : Int) (got_102 : Bool) (s_102 : aP) (nextv_102 : aP) : Option (aP × Bool) :=
    bif !got_102 then (some (s_102, false))
    else (jA again0 t1_102 t2_102 t3_102 s_102 nextv_102)

def fN (again0 : aP → aP → Option (aP × Bool)) (t1_2 : aJ) (t2_2 : List Int) (t3_2 : Int) (t21_2 : List Int) (t22_2 : Int) : Nat → Int → Int → Bool → Int → aP → aP → Option (aP × Bool)
  | 0, _, _, _, _, _, _ => none
  | k2 + 1, moved_2, covered_2, got_2, t23_2, s_2, nextv_2 =>
    bif decide (t23_2 < t22_2) then ((idx t21_2 t23_2).bind fun x4 =>
    (bif (aE x4 (aA.mk false false 0 0 false false false false) t1_2.players).guard then (some (decide (covered_2 < s_2.covered))) else (some false)).bind fun b5 =>
    bif b5 then ((fN again0 t1_2 t2_2 t3_2 t21_2 t22_2 k2) moved_2 (w64 (covered_2 + 1)) got_2 (w64 (t23_2 + 1)) s_2 nextv_2)
    else ((bif !((aE x4 (aA.mk false false 0 0 false false false false) t1_2.players).guard) then (some (decide (moved_2 < s_2.moved))) else (some false)).bind fun b6 =>
    bif b6 then ((fN again0 t1_2 t2_2 t3_2 t21_2 t22_2 k2) (w64 (moved_2 + 1)) covered_2 got_2 (w64 (t23_2 + 1)) s_2 nextv_2)
    else ((bif (aE x4 (aA.mk false false 0 0 false false false false) t1_2.players).guard then (some (decide (t1_2.Field.Guards ≤ s_2.guarded))) else (some false)).bind fun b7 =>
    bif b7 then ((fN again0 t1_2 t2_2 t3_2 t21_2 t22_2 k2) moved_2 covered_2 got_2 (w64 (t23_2 + 1)) s_2 nextv_2)
    else (bif decide (x4 = t3_2) then (some (s_2, true))
    else (bif (aE x4 (aA.mk false false 0 0 false false false false) t1_2.players).guard then (fM again0 t1_2 t2_2 t3_2 true (aP.mk s_2.free (w64 (s_2.guarded + 1)) s_2.moved (w64 (s_2.covered + 1))) nextv_2)
    else (fM again0 t1_2 t2_2 t3_2 true (aP.mk (w64 (s_2.free + 1)) s_2.guarded (w64 (s_2.moved + 1)) s_2.covered) nextv_2))))))
    else (fM again0 t1_2 t2_2 t3_2 got_2 s_2 nextv_2)

def oB (s_100 : aP) (nextv_100 : aP) : Option (aP × Bool) :=
    some (s_100, false)

def gQ (t1_0 : aJ) (t2_0 : List Int) (t3_0 : Int) : Nat → aP → aP → Option (aP × Bool)
  | 0, _, _ => none
  | k0 + 1, s_0, nextv_0 =>
    (dR t1_0).bind fun r3 =>
    bif decide ((w64 (s_0.free + s_0.guarded)) < r3) then (fN (gQ t1_0 t2_0 t3_0 k0) t1_0 t2_0 t3_0 t2_0 (t2_0.length : Int) BIG 0 0 false 0 s_0 nextv_0)
    else (oB s_0 nextv_0)

def kT (s_0 : aP) (c_1 : aJ) (c_2 : List Int) (c_3 : Int) : Option (aP × Bool) :=
    gQ c_1 c_2 c_3 BIG s_0 (aP.mk 0 0 0 0)

def pI (again0 : (List aP) → Int → (List (aP × Int)) → Option Int) (again2 : Int → (List aP) → (List (aP × Int)) → Option Int) (fill_103 : aJ) (fill_103_2 : List Int) (fill_103_3 : Int) (many_103 : Int) (t41_103 : List aP) (t42_103 : Int) (t43_103 : Int) (nextv_103 : List aP) (o35_103 : List (aP × Int)) : Option Int :=
    again2 (w64 (t43_103 + 1)) nextv_103 o35_103

def pJ (again0 : (List aP) → Int → (List (aP × Int)) → Option Int) (again2 : Int → (List aP) → (List (aP × Int)) → Option Int) (fill_104 : aJ) (fill_104_2 : List Int) (fill_104_3 : Int) (many_104 : Int) (t41_104 : List aP) (t42_104 : Int) (t43_104 : Int) (nextv_104 : List aP) (o35_104 : List (aP × Int)) : Option Int :=
    pI again0 again2 fill_104 fill_104_2 fill_104_3 many_104 t41_104 t42_104 t43_104 nextv_104 o35_104

def dT (again0 : (List aP) → Int → (List (aP × Int)) → Option Int) (again2 : Int → (List aP) → (List (aP × Int)) → Option Int) (fill_4 : aJ) (fill_4_2 : List Int) (fill_4_3 : Int) (many_4 : Int) (t41_4 : List aP) (t42_4 : Int) (t43_4 : Int) (s_4 : aP) : Nat → Int → (List aP) → (List (aP × Int)) → Option Int
  | 0, _, _, _ => none
  | k4 + 1, t47_4, nextv_4, o35_4 =>
    bif decide (t47_4 < 2) then (bif decide (t47_4 = 1) then ((bif decide ((w64 (s_4.guarded - 1)) < 0) then (some true) else (some (decide (s_4.free < 0)))).bind fun b16 =>
    bif b16 then ((dT again0 again2 fill_4 fill_4_2 fill_4_3 many_4 t41_4 t42_4 t43_4 s_4 k4) (w64 (t47_4 + 1)) nextv_4 o35_4)
    else ((kT (aP.mk s_4.free (w64 (s_4.guarded - 1)) s_4.moved s_4.covered) fill_4 fill_4_2 fill_4_3).bind fun r17 =>
    bif r17.2 then (some many_4)
    else (bif decide ((aE r17.1 0 (bX r17.1 (w64 ((aE r17.1 0 o35_4) + 1)) o35_4)) = 1) then ((app 32 nextv_4 ([r17.1])).bind fun x18 =>
    (dT again0 again2 fill_4 fill_4_2 fill_4_3 many_4 t41_4 t42_4 t43_4 s_4 k4) (w64 (t47_4 + 1)) x18 (bX r17.1 (w64 ((aE r17.1 0 o35_4) + 1)) o35_4))
    else ((dT again0 again2 fill_4 fill_4_2 fill_4_3 many_4 t41_4 t42_4 t43_4 s_4 k4) (w64 (t47_4 + 1)) nextv_4 (bX r17.1 (w64 ((aE r17.1 0 o35_4) + 1)) o35_4)))))
    else ((bif decide (s_4.guarded < 0) then (some true) else (some (decide ((w64 (s_4.free - 1)) < 0)))).bind fun b20 =>
    bif b20 then ((dT again0 again2 fill_4 fill_4_2 fill_4_3 many_4 t41_4 t42_4 t43_4 s_4 k4) (w64 (t47_4 + 1)) nextv_4 o35_4)
    else ((kT (aP.mk (w64 (s_4.free - 1)) s_4.guarded s_4.moved s_4.covered) fill_4 fill_4_2 fill_4_3).bind fun r21 =>
    bif r21.2 then (some many_4)
    else (bif decide ((aE r21.1 0 (bX r21.1 (w64 ((aE r21.1 0 o35_4) + 1)) o35_4)) = 1) then ((app 32 nextv_4 ([r21.1])).bind fun x22 =>
    (dT again0 again2 fill_4 fill_4_2 fill_4_3 many_4 t41_4 t42_4 t43_4 s_4 k4) (w64 (t47_4 + 1)) x22 (bX r21.1 (w64 ((aE r21.1 0 o35_4) + 1)) o35_4))
    else ((dT again0 again2 fill_4 fill_4_2 fill_4_3 many_4 t41_4 t42_4 t43_4 s_4 k4) (w64 (t47_4 + 1)) nextv_4 (bX r21.1 (w64 ((aE r21.1 0 o35_4) + 1)) o35_4))))))
    else (pJ again0 again2 fill_4 fill_4_2 fill_4_3 many_4 t41_4 t42_4 t43_4 nextv_4 o35_4)

def pG (again0 : (List aP) → Int → (List (aP × Int)) → Option Int) (fill_101 : aJ) (fill_101_2 : List Int) (fill_101_3 : Int) (many_101 : Int) (nextv_101 : List aP) (o35_101 : List (aP × Int)) : Option Int :=
    again0 nextv_101 (w64 (many_101 + 1)) o35_101

def pH (again0 : (List aP) → Int → (List (aP × Int)) → Option Int) (fill_102 : aJ) (fill_102_2 : List Int) (fill_102_3 : Int) (many_102 : Int) (nextv_102 : List aP) (o35_102 : List (aP × Int)) : Option Int :=
    pG again0 fill_102 fill_102_2 fill_102_3 many_102 nextv_102 o35_102

def iB (again0 : (List aP) → Int → (List (aP × Int)) → Option Int) (fill_2 : aJ) (fill_2_2 : List Int) (fill_2_3 : Int) (many_2 : Int) (t41_2 : List aP) (t42_2 : Int) : Nat → Int → (List aP) → (List (aP × Int)) → Option Int
  | 0, _, _, _ => none
  | k2 + 1, t43_2, nextv_2, o35_2 =>
    bif decide (t43_2 < t42_2) then ((idx t41_2 t43_2).bind fun x13 =>
    dT again0 (iB again0 fill_2 fill_2_2 fill_2_3 many_2 t41_2 t42_2 k2) fill_2 fill_2_2 fill_2_3 many_2 t41_2 t42_2 t43_2 x13 BIG 0 nextv_2 o35_2)
    else (pH again0 fill_2 fill_2_2 fill_2_3 many_2 nextv_2 o35_2)

def pF : Option Int :=
    some 61

def fE (fill_0 : aJ) (fill_0_2 : List Int) (fill_0_3 : Int) : Nat → (List aP) → Int → (List (aP × Int)) → Option Int
  | 0, _, _, _ => none
  | k0 + 1, now_0, many_0, o35_0 =>
    bif decide (0 < (now_0.length : Int)) then (iB (fE fill_0 fill_0_2 fill_0_3 k0) fill_0 fill_0_2 fill_0_3 many_0 now_0 (now_0.length : Int) BIG 0 ([] : List aP) o35_0)
    else (pF)

def nU (l_0 : aJ) (player_1 : Int) : Option Int :=
    (dH l_0).bind fun r3 =>
    (gE l_0 r3).bind fun r4 =>
    (fZ l_0).bind fun r5 =>
    (bY r5 (fun y7 => kS y7 l_0)).bind fun r8 =>
    fE l_0 r8 player_1 BIG ([(aP.mk (w64 ((r3.length : Int) - r4)) r4 0 0)]) 1 ([] : List (aP × Int))

def lU (again2 : Int → Int → Option Int) (l_103 : aJ) (player_103 : Int) (free_103 : Int) (guarded_103 : Int) (best_103 : Int) (t36_103 : Int) (t37_103 : Int) : Option Int :=
    again2 best_103 (w64 (t37_103 + 1))

def lV (again2 : Int → Int → Option Int) (l_104 : aJ) (player_104 : Int) (free_104 : Int) (guarded_104 : Int) (best_104 : Int) (t36_104 : Int) (t37_104 : Int) : Option Int :=
    lU again2 l_104 player_104 free_104 guarded_104 best_104 t36_104 t37_104

def fD (again2 : Int → Int → Option Int) (l_4 : aJ) (player_4 : Int) (free_4 : Int) (guarded_4 : Int) (x_4 : Int) (t36_4 : Int) (t37_4 : Int) (t41_4 : Int) : Nat → Int → Int → Option Int
  | 0, _, _ => none
  | k4 + 1, best_4, t42_4 =>
    bif decide (t42_4 < t41_4) then ((dR l_4).bind fun r3 =>
    (bif decide ((w64 ((w64 (free_4 - x_4)) + (min (w64 (guarded_4 - t42_4)) l_4.Field.Guards))) < r3) then ((bif !((aE player_4 (aA.mk false false 0 0 false false false false) l_4.players).guard) then (some true) else (some (decide ((min (w64 (guarded_4 - t42_4)) l_4.Field.Guards) < l_4.Field.Guards)))).bind fun b4 =>
    some b4) else (some false)).bind fun b5 =>
    bif b5 then ((fD again2 l_4 player_4 free_4 guarded_4 x_4 t36_4 t37_4 t41_4 k4) (min best_4 (w64 (x_4 + t42_4))) (w64 (t42_4 + 1)))
    else ((fD again2 l_4 player_4 free_4 guarded_4 x_4 t36_4 t37_4 t41_4 k4) best_4 (w64 (t42_4 + 1))))
    else (lV again2 l_4 player_4 free_4 guarded_4 best_4 t36_4 t37_4)

def lT (best_102 : Int) : Option Int :=
    some best_102

def eJ (l_2 : aJ) (player_2 : Int) (free_2 : Int) (guarded_2 : Int) (t36_2 : Int) : Nat → Int → Int → Option Int
  | 0, _, _ => none
  | k2 + 1, best_2, t37_2 =>
    bif decide (t37_2 < t36_2) then (fD (eJ l_2 player_2 free_2 guarded_2 t36_2 k2) l_2 player_2 free_2 guarded_2 t37_2 t36_2 t37_2 (w64 (guarded_2 + 1)) BIG best_2 0)
    else (lT best_2)

def jY (l_100 : aJ) (player_100 : Int) (free_100 : Int) (guarded_100 : Int) : Option Int :=
    eJ l_100 player_100 free_100 guarded_100 (w64 (free_100 + 1)) BIG 61 0

def iA (l_0 : aJ) (player_0 : Int) (t14_0 : List Int) (t15_0 : Int) : Nat → Int → Int → Int → Option Int
  | 0, _, _, _ => none
  | k0 + 1, free_0, guarded_0, t16_0 =>
    bif decide (t16_0 < t15_0) then ((idx t14_0 t16_0).bind fun x2 =>
    bif decide (x2 = player_0) then (jY l_0 player_0 free_0 guarded_0)
    else (bif (aE x2 (aA.mk false false 0 0 false false false false) l_0.players).guard then ((iA l_0 player_0 t14_0 t15_0 k0) free_0 (w64 (guarded_0 + 1)) (w64 (t16_0 + 1)))
    else ((iA l_0 player_0 t14_0 t15_0 k0) (w64 (free_0 + 1)) guarded_0 (w64 (t16_0 + 1)))))
    else (jY l_0 player_0 free_0 guarded_0)

def jU (l_0 : aJ) (player_1 : Int) : Option Int :=
    (dY l_0).bind fun r1 =>
    iA l_0 player_1 r1 (r1.length : Int) BIG 0 0 0

def oA (f_0 : aT) (notices_1 : List aK) (hour_2 : Int) (player_3 : Int) : Option (Int × Int) :=
    (lZ f_0 notices_1 hour_2 player_3).bind fun r2 =>
    bif !decide (r2.2 = 0) then (some (0, r2.2))
    else ((r2.1).bind fun x3 =>
    (iV x3 player_3).bind fun r4 =>
    bif decide (r4.1 = 1) then (bif decide (0 = 61) then (some (0, 3))
    else (some (0, 0)))
    else ((bif decide (r4.1 = 3) then ((r2.1).bind fun x5 =>
    some x5.frozen) else (some false)).bind fun b6 =>
    bif b6 then ((r2.1).bind fun x7 =>
    (nU x7 player_3).bind fun r8 =>
    bif decide (r8 = 61) then (some (0, 3))
    else (some (r8, 0)))
    else (bif decide (r4.1 = 3) then ((r2.1).bind fun x9 =>
    (jU x9 player_3).bind fun r10 =>
    bif decide (r10 = 61) then (some (0, 3))
    else (some (r10, 0)))
    else (bif decide (61 = 61) then (some (0, 3))
    else (some (61, 0))))))

def slices_Sort_int (x : List Int) : Option (List Int) := if x.length < 4611686018427387904 then some (oN x) else none

def lO (again0 : Int → (List Int) → Option ((List Int))) (k_102 : Int) (s_102 : List Int) : Option ((List Int)) :=
    (chk (decide (0 ≤ k_102) && decide (k_102 ≤ (s_102.length : Int)))).bind fun u9 =>
    (chk (decide (k_102.toNat ≤ s_102.length))).bind fun u10 =>
    (chk (decide (0 ≤ k_102))).bind fun u11 =>
    some (s_102.take k_102.toNat)

def eA (again0 : Int → (List Int) → Option ((List Int))) (s2_2 : Int) : Nat → Int → Int → (List Int) → Option ((List Int))
  | 0, _, _, _ => none
  | k2 + 1, k_2, k2_2, s_2 =>
    bif decide (k2_2 < ((s_2.drop s2_2.toNat).length : Int)) then ((idx (s_2.drop s2_2.toNat) k2_2).bind fun x5 =>
    (idx (s_2.drop s2_2.toNat) (w64 (k2_2 - 1))).bind fun x6 =>
    bif !decide (x5 = x6) then ((idx (s_2.drop s2_2.toNat) k2_2).bind fun x7 =>
    (idx s_2 k_2).bind fun x8 =>
    (eA again0 s2_2 k2) (w64 (k_2 + 1)) (w64 (k2_2 + 1)) (s_2.set k_2.toNat x7))
    else ((eA again0 s2_2 k2) k_2 (w64 (k2_2 + 1)) s_2))
    else (lO again0 k_2 s_2)

def lN (again0 : Int → (List Int) → Option ((List Int))) (k_101 : Int) (s_101 : List Int) : Option ((List Int)) :=
    again0 (w64 (k_101 + 1)) s_101

def lM (s_100 : List Int) : Option ((List Int)) :=
    some s_100

def dD : Nat → Int → (List Int) → Option ((List Int))
  | 0, _, _ => none
  | k0 + 1, k_0, s_0 =>
    bif decide (k_0 < (s_0.length : Int)) then ((idx s_0 k_0).bind fun x2 =>
    (idx s_0 (w64 (k_0 - 1))).bind fun x3 =>
    bif decide (x2 = x3) then ((chk (decide (0 ≤ k_0) && decide (k_0 ≤ (s_0.length : Int)))).bind fun u4 =>
    eA (dD k0) k_0 BIG k_0 1 s_0)
    else (lN (dD k0) k_0 s_0))
    else (lM s_0)

def jH (s_0 : List Int) : Option ((List Int)) :=
    bif decide ((s_0.length : Int) < 2) then (some s_0)
    else (dD BIG 1 s_0)

def rO : Option (Int × Int) :=
    some (0, 3)

def jR (notices_2 : List aK) (player_2 : Int) (t43_2 : Int) (f_2 : aT) (hours_2 : List Int) : Nat → Int → Option (Int × Int)
  | 0, _ => none
  | k2 + 1, t44_2 =>
    bif decide (t44_2 < t43_2) then ((idx hours_2 t44_2).bind fun x11 =>
    (mN f_2 notices_2 x11).bind fun r12 =>
    (r12).bind fun x13 =>
    (iV x13 player_2).bind fun r14 =>
    (bif decide (r14.1 = 1) then (some true) else (some (decide (r14.1 = 2)))).bind fun b15 =>
    bif b15 then (some (x11, 0))
    else ((jR notices_2 player_2 t43_2 f_2 hours_2 k2) (w64 (t44_2 + 1))))
    else (rO)

def oH (notices_100 : List aK) (player_100 : Int) (f_100 : aT) (hours_100 : List Int) : Option (Int × Int) :=
    (slices_Sort_int hours_100).bind fun r8 =>
    (jH r8).bind fun r9 =>
    jR notices_100 player_100 (r9.length : Int) f_100 r9 BIG 0

def jQ (notices_0 : List aK) (player_0 : Int) (t27_0 : List aK) (t28_0 : Int) (f_0 : aT) : Nat → Int → (List Int) → Option (Int × Int)
  | 0, _, _ => none
  | k0 + 1, t29_0, hours_0 =>
    bif decide (t29_0 < t28_0) then ((idx t27_0 t29_0).bind fun x4 =>
    (app 8 hours_0 ([x4.Hour])).bind fun x6 =>
    (jQ notices_0 player_0 t27_0 t28_0 f_0 k0) (w64 (t29_0 + 1)) x6)
    else (oH notices_0 player_0 f_0 hours_0)

def nP (f_0 : aT) (notices_1 : List aK) (player_2 : Int) : Option (Int × Int) :=
    (lZ f_0 notices_1 0 player_2).bind fun r2 =>
    bif !decide (r2.2 = 0) then (some (0, r2.2))
    else (jQ notices_1 player_2 notices_1 (notices_1.length : Int) f_0 BIG 0 ([] : List Int))

def nW : Option Bool :=
    some true

def iZ (a_0 : List Int) (b_0 : List Int) : Nat → Int → Option Bool
  | 0, _ => none
  | k0 + 1, i_0 =>
    bif decide (i_0 < (a_0.length : Int)) then ((idx a_0 i_0).bind fun x1 =>
    (idx b_0 i_0).bind fun x2 =>
    bif !decide (x1 = x2) then (some false)
    else ((iZ a_0 b_0 k0) (w64 (i_0 + 1))))
    else (nW)

def iQ (a_0 : List Int) (b_1 : List Int) : Option Bool :=
    bif !decide ((a_0.length : Int) = (b_1.length : Int)) then (some false)
    else (iZ a_0 b_1 BIG 0)

def iT : Option Bool :=
    (gW).bind fun r1 =>
    (lB r1.1 r1.2 12).bind fun r3 =>
    (oA r1.1 r1.2 10 4).bind fun r5 =>
    (nP r1.1 r1.2 4).bind fun r6 =>
    (bif decide (r3.2 = 0) then (some (decide (r5.2 = 0))) else (some false)).bind fun b7 =>
    (bif b7 then (some (decide (r6.2 = 0))) else (some false)).bind fun b8 =>
    (bif b8 then (some (decide (r5.1 = 2))) else (some false)).bind fun b9 =>
    (bif b9 then (some (decide (r6.1 = 15))) else (some false)).bind fun b10 =>
    (bif b10 then ((iQ r3.1.Main ([9, 8, 5])).bind fun r11 =>
    some r11) else (some false)).bind fun b12 =>
    (bif b12 then ((iQ r3.1.Wilds ([7])).bind fun r13 =>
    some r13) else (some false)).bind fun b14 =>
    (bif b14 then ((iQ r3.1.Out ([6, 4])).bind fun r15 =>
    some r15) else (some false)).bind fun b16 =>
    some b16

def nT : Option Bool :=
    some false

def gD (l_0 : List Int) (n_0 : Int) : Nat → Int → Option Bool
  | 0, _ => none
  | k0 + 1, i_0 =>
    bif decide (i_0 < (l_0.length : Int)) then ((idx l_0 i_0).bind fun x1 =>
    bif decide (x1 = n_0) then (some true)
    else ((gD l_0 n_0 k0) (w64 (i_0 + 1))))
    else (nT)

def kG (l_0 : List Int) (n_1 : Int) : Option Bool :=
    gD l_0 n_1 BIG 0

def hU (again0 : Int → Option Bool) (l_101 : List aK) (i_101 : Int) (x_101 : eI) (a_101 : dE) (b_101 : dE) : Option Bool :=
    again0 (w64 (i_101 + 1))

def fS (again0 : Int → Option Bool) (l_102 : List aK) (i_102 : Int) (gone_102 : Bool) (x_102 : eI) (a_102 : dE) (b_102 : dE) : Option Bool :=
    (idx a_102.Main i_102).bind fun x27 =>
    (kG b_102.Main x27).bind fun r28 =>
    bif decide (gone_102 = r28) then (some false)
    else (hU again0 l_102 i_102 x_102 a_102 b_102)

def dL (again0 : Int → Option Bool) (l_2 : List aK) (i_2 : Int) (x_2 : eI) (a_2 : dE) (b_2 : dE) : Nat → Bool → Int → Option Bool
  | 0, _, _ => none
  | k2 + 1, gone_2, k_2 =>
    bif decide (k_2 < (l_2.length : Int)) then ((bif gone_2 then (some true) else ((idx l_2 k_2).bind fun x18 =>
    (idx a_2.Main i_2).bind fun x19 =>
    (bif decide (x18.Player = x19) then ((idx l_2 k_2).bind fun x20 =>
    some (decide (x20.Kind = 4))) else (some false)).bind fun b21 =>
    (bif b21 then ((idx l_2 k_2).bind fun x22 =>
    some (decide (x_2.First < x22.Hour))) else (some false)).bind fun b23 =>
    (bif b23 then ((idx l_2 k_2).bind fun x24 =>
    some (decide (x24.Hour ≤ x_2.Second))) else (some false)).bind fun b25 =>
    some b25)).bind fun b26 =>
    (dL again0 l_2 i_2 x_2 a_2 b_2 k2) b26 (w64 (k_2 + 1)))
    else (fS again0 l_2 i_2 gone_2 x_2 a_2 b_2)

def kJ : Option Bool :=
    (iT).bind fun r29 =>
    some r29

def cL (l_0 : List aK) (x_0 : eI) (a_0 : dE) (b_0 : dE) : Nat → Int → Option Bool
  | 0, _ => none
  | k0 + 1, i_0 =>
    bif decide (i_0 < (a_0.Main.length : Int)) then ((idx a_0.Main i_0).bind fun x16 =>
    (kG b_0.Wilds x16).bind fun r17 =>
    dL (cL l_0 x_0 a_0 b_0 k0) l_0 i_0 x_0 a_0 b_0 BIG r17 0)
    else (kJ)

def jL (f_0 : aT) (l_1 : List aK) (x_2 : eI) : Option Bool :=
    (kK f_0 l_1).bind fun r3 =>
    (bif !r3 then (some true) else ((iJ x_2.First).bind fun r4 =>
    some (!r4))).bind fun b5 =>
    (bif b5 then (some true) else ((iJ x_2.Second).bind fun r6 =>
    some (!r6))).bind fun b7 =>
    (bif b7 then (some true) else (some (decide (x_2.First < f_0.Close)))).bind fun b8 =>
    (bif b8 then (some true) else (some (decide (x_2.Second < x_2.First)))).bind fun b9 =>
    bif b9 then ((iT).bind fun r10 =>
    some r10)
    else ((lB f_0 l_1 x_2.First).bind fun r11 =>
    (lB f_0 l_1 x_2.Second).bind fun r13 =>
    (bif !decide (r11.2 = 0) then (some true) else (some (!decide (r13.2 = 0)))).bind fun b15 =>
    bif b15 then (some false)
    else (cL l_1 x_2 r11.1 r13.1 BIG 0))

end Go.Am
