/- Shallow functions, printed by program. -/
import Derived.Test.YtfdappeickbpeaaGreatAmFull
import Derived.Test.YtfdappeickbpeaaGreatAmNd
import Derived.Test.YtfdappeickbpeaaGreatAmSort
import Derived.Test.YtfdappeickbpeaaGreatAmSortF
namespace Go.Am

structure aK where
  Id : Int
  Hour : Int
  Kind : Int
  Player : Int
  Rank : Int
  deriving DecidableEq, Inhabited
def aH (x : aK) : List D := [.lit (.int .i64 x.Id), .lit (.int .i64 x.Hour), .lit (.int .i64 x.Kind), .lit (.int .i64 x.Player), .lit (.int .i64 x.Rank)]

def xW (x : List aK) : List D := [.sl 5 (x.map aH)]

structure aT where
  Places : Int
  Wilds : Int
  Guards : Int
  Close : Int
  Freeze : Int
  deriving DecidableEq, Inhabited
def aW (x : aT) : List D := [.lit (.int .i64 x.Places), .lit (.int .i64 x.Wilds), .lit (.int .i64 x.Guards), .lit (.int .i64 x.Close), .lit (.int .i64 x.Freeze)]

def jD (x : List Int) : List D := [.sl 1 (x.map aG)]

structure aA where
  entered : Bool
  guard : Bool
  rank : Int
  turn : Int
  quit : Bool
  signed : Bool
  wild : Bool
  had : Bool
  deriving DecidableEq, Inhabited
def aB (x : aA) : List D := [.lit (.bool x.entered), .lit (.bool x.guard), .lit (.int .i64 x.rank), .lit (.int .i64 x.turn), .lit (.bool x.quit), .lit (.bool x.signed), .lit (.bool x.wild), .lit (.bool x.had)]

structure aJ where
  Field : aT
  players : List (Int × aA)
  wilds : List Int
  frozen : Bool
  first : List Int
  late : List Int
  more : Int
  entered : Int
  deriving DecidableEq, Inhabited
def aU (x : aJ) : List D := [.lit (.int .i64 x.Field.Places), .lit (.int .i64 x.Field.Wilds), .lit (.int .i64 x.Field.Guards), .lit (.int .i64 x.Field.Close), .lit (.int .i64 x.Field.Freeze), .mp true (x.players.map fun p : Int × aA => ((fun n : Int => Value.int .i64 n) p.1, aB p.2)), .sl 1 (x.wilds.map aG), .lit (.bool x.frozen), .sl 1 (x.first.map aG), .sl 1 (x.late.map aG), .lit (.int .i64 x.more), .lit (.int .i64 x.entered)]

structure fP where
  Main : List Int
  Wilds : List Int
  Out : List Int
  Open : Int
  deriving DecidableEq, Inhabited
def gM (x : fP) : List D := [.sl 1 (x.Main.map aG), .sl 1 (x.Wilds.map aG), .sl 1 (x.Out.map aG), .lit (.int .i64 x.Open)]

structure aO where
  free : Int
  guarded : Int
  moved : Int
  covered : Int
  deriving DecidableEq, Inhabited
def aM (x : aO) : List D := [.lit (.int .i64 x.free), .lit (.int .i64 x.guarded), .lit (.int .i64 x.moved), .lit (.int .i64 x.covered)]

structure gA where
  Hour : Int
  Player : Int
  deriving DecidableEq, Inhabited
def kT (x : gA) : List D := [.lit (.int .i64 x.Hour), .lit (.int .i64 x.Player)]

def yP (x : aT) : Prop := okI x.Places ∧ okI x.Wilds ∧ okI x.Guards ∧ okI x.Close ∧ okI x.Freeze

def tD (x : aK) : Prop := okI x.Id ∧ okI x.Hour ∧ okI x.Kind ∧ okI x.Player ∧ okI x.Rank

def rB (x : gA) : Prop := okI x.Hour ∧ okI x.Player

def lD (l_0 : List aK) : Option Bool :=
    (bif decide (20 < (l_0.length : Int)) then (some (decide ((l_0.length : Int) ≤ 60))) else (some false)).bind fun b1 =>
    (bif b1 then (some true) else (some (decide (100 < (l_0.length : Int))))).bind fun b2 =>
    some b2

def bT (n_0 : Int) (low_1 : Int) (high_2 : Int) : Option Bool :=
    (bif decide (low_1 ≤ n_0) then (some (decide (n_0 ≤ high_2))) else (some false)).bind fun b1 =>
    some b1

def iK (x_0 : aK) : Option Bool :=
    (bT x_0.Id 0 999).bind fun r2 =>
    (bif !r2 then (some true) else ((bT x_0.Player 0 999).bind fun r3 =>
    some (!r3))).bind fun b4 =>
    (bif b4 then (some true) else ((bT x_0.Hour 0 9999).bind fun r5 =>
    some (!r5))).bind fun b6 =>
    bif b6 then (some false)
    else (bif decide (x_0.Kind = 1) then ((bT x_0.Rank 0 9999).bind fun r7 =>
    some r7)
    else (bif decide (x_0.Kind = 2) then ((bT x_0.Rank 1 9999).bind fun r8 =>
    some r8)
    else (bif decide (x_0.Kind = 3) then (bif decide (x_0.Kind = 3) then (some (decide (x_0.Rank = 0)))
    else (some false))
    else (bif decide (x_0.Kind = 4) then (bif decide (x_0.Kind = 4) then (some (decide (x_0.Rank = 0)))
    else (some false))
    else (bif decide (x_0.Kind = 5) then (some (decide (x_0.Rank = 0)))
    else (some false))))))

def mM (again0 : Int → Option Int) (l_101 : List aK) (i_101 : Int) : Option Int :=
    again0 (w64 (i_101 + 1))

def mN (again0 : Int → Option Int) (l_102 : List aK) (i_102 : Int) : Option Int :=
    mM again0 l_102 i_102

def eL (again0 : Int → Option Int) (l_2 : List aK) (i_2 : Int) : Nat → Int → Option Int
  | 0, _ => none
  | k2 + 1, k_2 =>
    bif decide (k_2 < i_2) then ((idx l_2 k_2).bind fun x13 =>
    (idx l_2 i_2).bind fun x14 =>
    (bif decide (x13.Id = x14.Id) then ((idx l_2 k_2).bind fun x15 =>
    (idx l_2 i_2).bind fun x16 =>
    some (!decide (x15 = x16))) else (some false)).bind fun b17 =>
    bif b17 then (some 51)
    else ((eL again0 l_2 i_2 k2) (w64 (k_2 + 1))))
    else (mN again0 l_2 i_2)

def mL : Option Int :=
    some 0

def eK (l_0 : List aK) : Nat → Int → Option Int
  | 0, _ => none
  | k0 + 1, i_0 =>
    bif decide (i_0 < (l_0.length : Int)) then ((idx l_0 i_0).bind fun x11 =>
    (iK x11).bind fun r12 =>
    bif !r12 then (some 51)
    else (eL (eK l_0 k0) l_0 i_0 BIG 0))
    else (mL)

def kC (f_0 : aT) (l_1 : List aK) : Option Int :=
    (bT f_0.Places 1 32).bind fun r2 =>
    (bif !r2 then (some true) else ((bT f_0.Wilds 0 32).bind fun r3 =>
    some (!r3))).bind fun b4 =>
    (bif b4 then (some true) else ((bT f_0.Guards 0 32).bind fun r5 =>
    some (!r5))).bind fun b6 =>
    (bif b6 then (some true) else ((bT f_0.Close 0 9999).bind fun r7 =>
    some (!r7))).bind fun b8 =>
    (bif b8 then (some true) else ((bT f_0.Freeze f_0.Close 9999).bind fun r9 =>
    some (!r9))).bind fun b10 =>
    bif b10 then (some 50)
    else (bif decide (60 < (l_1.length : Int)) then (some 51)
    else (eK l_1 BIG 0))

def kB (f_0 : aT) (l_1 : List aK) : Option Bool :=
    (lD l_1).bind fun r2 =>
    (bif !r2 then ((kC f_0 l_1).bind fun r3 =>
    some (decide (r3 = 0))) else (some false)).bind fun b4 =>
    some b4

def jM (n_0 : Int) : Option Bool :=
    (bif decide (0 ≤ n_0) then (some (decide (n_0 ≤ 9999))) else (some false)).bind fun b1 =>
    some b1

def cR (id_0 : Int) (hour_1 : Int) (kind_2 : Int) (player_3 : Int) (rank_4 : Int) : Option aK :=
    some (aK.mk id_0 hour_1 kind_2 player_3 rank_4)

def gQ : Option (aT × (List aK)) :=
    (cR 0 1 1 7 50).bind fun r3 =>
    (cR 1 2 1 8 20).bind fun r4 =>
    (cR 2 3 2 9 10).bind fun r5 =>
    (cR 3 4 2 6 30).bind fun r6 =>
    (cR 4 5 1 5 70).bind fun r7 =>
    (cR 5 6 1 4 0).bind fun r8 =>
    (cR 6 11 1 3 1).bind fun r9 =>
    (cR 7 12 3 7 0).bind fun r10 =>
    (cR 8 15 4 8 0).bind fun r11 =>
    (cR 9 21 5 4 0).bind fun r12 =>
    (cR 10 22 4 5 0).bind fun r13 =>
    some ((aT.mk 3 1 1 10 20), [r3, r4, r5, r6, r7, r8, r9, r10, r11, r12, r13])

def bP (n_0 : Int) (low_1 : Int) (high_2 : Int) : Option Bool :=
    (bif decide (low_1 ≤ n_0) then (some (decide (n_0 ≤ high_2))) else (some false)).bind fun b1 =>
    some b1

def mC (f_0 : aT) : Option Bool :=
    (bP f_0.Places 1 32).bind fun r2 =>
    (bif r2 then ((bP f_0.Wilds 0 32).bind fun r3 =>
    some r3) else (some false)).bind fun b4 =>
    (bif b4 then ((bP f_0.Guards 0 32).bind fun r5 =>
    some r5) else (some false)).bind fun b6 =>
    (bif b6 then ((bP f_0.Close 0 9999).bind fun r7 =>
    some r7) else (some false)).bind fun b8 =>
    (bif b8 then ((bP f_0.Freeze f_0.Close 9999).bind fun r9 =>
    some r9) else (some false)).bind fun b10 =>
    some b10

def lF (n_0 : aK) : Option Bool :=
    bif decide (n_0.Kind = 1) then ((bP n_0.Id 0 999).bind fun r2 =>
    (bif r2 then ((bP n_0.Player 0 999).bind fun r3 =>
    some r3) else (some false)).bind fun b4 =>
    (bif b4 then ((bP n_0.Hour 0 9999).bind fun r5 =>
    some r5) else (some false)).bind fun b6 =>
    (bif b6 then ((bP n_0.Rank 0 9999).bind fun r7 =>
    some r7) else (some false)).bind fun b8 =>
    some b8)
    else (bif decide (n_0.Kind = 2) then ((bP n_0.Id 0 999).bind fun r9 =>
    (bif r9 then ((bP n_0.Player 0 999).bind fun r10 =>
    some r10) else (some false)).bind fun b11 =>
    (bif b11 then ((bP n_0.Hour 0 9999).bind fun r12 =>
    some r12) else (some false)).bind fun b13 =>
    (bif b13 then ((bP n_0.Rank 1 9999).bind fun r14 =>
    some r14) else (some false)).bind fun b15 =>
    some b15)
    else (bif decide (n_0.Kind = 3) then (bif decide (n_0.Kind = 3) then ((bP n_0.Id 0 999).bind fun r16 =>
    (bif r16 then ((bP n_0.Player 0 999).bind fun r17 =>
    some r17) else (some false)).bind fun b18 =>
    (bif b18 then ((bP n_0.Hour 0 9999).bind fun r19 =>
    some r19) else (some false)).bind fun b20 =>
    (bif b20 then ((bP n_0.Rank 0 0).bind fun r21 =>
    some r21) else (some false)).bind fun b22 =>
    some b22)
    else (some false))
    else (bif decide (n_0.Kind = 4) then (bif decide (n_0.Kind = 4) then ((bP n_0.Id 0 999).bind fun r23 =>
    (bif r23 then ((bP n_0.Player 0 999).bind fun r24 =>
    some r24) else (some false)).bind fun b25 =>
    (bif b25 then ((bP n_0.Hour 0 9999).bind fun r26 =>
    some r26) else (some false)).bind fun b27 =>
    (bif b27 then ((bP n_0.Rank 0 0).bind fun r28 =>
    some r28) else (some false)).bind fun b29 =>
    some b29)
    else (some false))
    else (bif decide (n_0.Kind = 5) then ((bP n_0.Id 0 999).bind fun r30 =>
    (bif r30 then ((bP n_0.Player 0 999).bind fun r31 =>
    some r31) else (some false)).bind fun b32 =>
    (bif b32 then ((bP n_0.Hour 0 9999).bind fun r33 =>
    some r33) else (some false)).bind fun b34 =>
    (bif b34 then ((bP n_0.Rank 0 0).bind fun r35 =>
    some r35) else (some false)).bind fun b36 =>
    some b36)
    else (some false)))))

def pK : Option Int :=
    some 0

def gR (t17_0 : List aK) (t18_0 : Int) : Nat → Int → (List (Int × aK)) → Option Int
  | 0, _, _ => none
  | k0 + 1, t19_0, o16_0 =>
    bif decide (t19_0 < t18_0) then ((idx t17_0 t19_0).bind fun x4 =>
    (lF x4).bind fun r7 =>
    (bif !r7 then (some true) else ((bif eR x4.Id o16_0 then (some (!decide ((aE x4.Id (aK.mk 0 0 0 0 0) o16_0) = x4))) else (some false)).bind fun b8 =>
    some b8)).bind fun b9 =>
    bif b9 then (some 51)
    else ((gR t17_0 t18_0 k0) (w64 (t19_0 + 1)) (bU x4.Id x4 o16_0)))
    else (pK)

def nQ (f_0 : aT) (l_1 : List aK) : Option Int :=
    (mC f_0).bind fun r2 =>
    bif !r2 then (some 50)
    else (bif decide (60 < (l_1.length : Int)) then (some 51)
    else (gR l_1 (l_1.length : Int) BIG 0 ([] : List (Int × aK))))

def iB (s_0 : List aK) : Option Unit :=
    some ()

def fA {S : Type} (againY : S → aK → Option (S × Bool)) (sy_100 : S) : Option (S × Bool) :=
    some (sy_100, true)

def bY {S : Type} (againY : S → aK → Option (S × Bool)) (t5_0 : List aK) (t6_0 : Int) : Nat → Int → S → Option (S × Bool)
  | 0, _, _ => none
  | k0 + 1, t7_0, sy_0 =>
    bif decide (t7_0 < t6_0) then ((idx t5_0 t7_0).bind fun x1 =>
    (againY sy_0 x1).bind fun y3 =>
    bif !y3.2 then (some y3)
    else ((bY againY t5_0 t6_0 k0) (w64 (t7_0 + 1)) y3.1))
    else (fA againY sy_0)

def dW {S : Type} (yield_0 : S → aK → Option (S × Bool)) (c_1 : List aK) (sy : S) : Option (S × Bool) :=
    bY yield_0 c_1 (c_1.length : Int) BIG 0 sy

def gE (seq_1 : List aK) : Option ((List aK)) :=
    (dW (S := (List aK)) (fun s3 x4 =>
    (app 40 s3 ([x4])).bind fun x6 =>
    some (x6, true)) seq_1 ([] : List aK)).bind fun s8 =>
    bif s8.2 then (some s8.1)
    else (none)

def fK (seq_0 : List aK) : Option ((List aK)) :=
    (gE seq_0).bind fun r2 =>
    some r2

def jL (x : List aK) (cmp : aK → aK → Option Int) : Option (List aK) := oD x cmp

def eP (seq_0 : List aK) (cmp_1 : aK → aK → Option Int) : Option ((List aK)) :=
    (fK seq_0).bind fun r2 =>
    (jL r2 cmp_1).bind fun r4 =>
    some r4

def nW (zero_100 : Int) : Option Int :=
    some zero_100

def kQ (zero_0 : Int) (t6_0 : List Int) (t7_0 : Int) : Nat → Int → Option Int
  | 0, _ => none
  | k0 + 1, t8_0 =>
    bif decide (t8_0 < t7_0) then ((idx t6_0 t8_0).bind fun x1 =>
    bif !decide (x1 = zero_0) then (some x1)
    else ((kQ zero_0 t6_0 t7_0 k0) (w64 (t8_0 + 1))))
    else (nW zero_0)

def kR (vals_0 : List Int) : Option Int :=
    kQ 0 vals_0 (vals_0.length : Int) BIG 0

def dA (a_0 : aK) (b_1 : aK) : Option Int :=
    (kR ([w64 (a_0.Hour - b_1.Hour), w64 (a_0.Id - b_1.Id)])).bind fun r3 =>
    some r3

def iP (again0 : Int → (List aK) → Option ((List aK))) (k_102 : Int) (s_102 : List aK) : Option ((List aK)) :=
    (chk (decide (0 ≤ k_102) && decide (k_102 ≤ (s_102.length : Int)))).bind fun u9 =>
    (chk (decide (k_102.toNat ≤ s_102.length))).bind fun u10 =>
    (chk (decide (0 ≤ k_102))).bind fun u11 =>
    some (s_102.take k_102.toNat)

def cO (again0 : Int → (List aK) → Option ((List aK))) (s2_2 : Int) : Nat → Int → Int → (List aK) → Option ((List aK))
  | 0, _, _, _ => none
  | k2 + 1, k_2, k2_2, s_2 =>
    bif decide (k2_2 < ((s_2.drop s2_2.toNat).length : Int)) then ((idx (s_2.drop s2_2.toNat) k2_2).bind fun x5 =>
    (idx (s_2.drop s2_2.toNat) (w64 (k2_2 - 1))).bind fun x6 =>
    bif !decide (x5 = x6) then ((idx (s_2.drop s2_2.toNat) k2_2).bind fun x7 =>
    (idx s_2 k_2).bind fun x8 =>
    (cO again0 s2_2 k2) (w64 (k_2 + 1)) (w64 (k2_2 + 1)) (s_2.set k_2.toNat x7))
    else ((cO again0 s2_2 k2) k_2 (w64 (k2_2 + 1)) s_2))
    else (iP again0 k_2 s_2)

def iO (again0 : Int → (List aK) → Option ((List aK))) (k_101 : Int) (s_101 : List aK) : Option ((List aK)) :=
    again0 (w64 (k_101 + 1)) s_101

def iN (s_100 : List aK) : Option ((List aK)) :=
    some s_100

def cC : Nat → Int → (List aK) → Option ((List aK))
  | 0, _, _ => none
  | k0 + 1, k_0, s_0 =>
    bif decide (k_0 < (s_0.length : Int)) then ((idx s_0 k_0).bind fun x2 =>
    (idx s_0 (w64 (k_0 - 1))).bind fun x3 =>
    bif decide (x2 = x3) then ((chk (decide (0 ≤ k_0) && decide (k_0 ≤ (s_0.length : Int)))).bind fun u4 =>
    cO (cC k0) k_0 BIG k_0 1 s_0)
    else (iO (cC k0) k_0 s_0))
    else (iN s_0)

def eH (s_0 : List aK) : Option ((List aK)) :=
    bif decide ((s_0.length : Int) < 2) then (some s_0)
    else (cC BIG 1 s_0)

def dJ (l_0 : aJ) : Option Int :=
    some (w64 (l_0.Field.Places + l_0.more))

def lS (many_100 : Int) : Option Int :=
    some many_100

def eD (l_0 : aJ) (t7_0 : List Int) (t8_0 : Int) : Nat → Int → Int → Option Int
  | 0, _, _ => none
  | k0 + 1, many_0, t9_0 =>
    bif decide (t9_0 < t8_0) then ((idx t7_0 t9_0).bind fun x1 =>
    bif (aE x1 (aA.mk false false 0 0 false false false false) l_0.players).guard then ((eD l_0 t7_0 t8_0 k0) (w64 (many_0 + 1)) (w64 (t9_0 + 1)))
    else ((eD l_0 t7_0 t8_0 k0) many_0 (w64 (t9_0 + 1))))
    else (lS many_0)

def fX (l_0 : aJ) (in_1 : List Int) : Option Int :=
    eD l_0 in_1 (in_1.length : Int) BIG 0 0

def eE (l_0_players : List (Int × aA)) (n_1 : Int) : Option Bool :=
    (bif (aE n_1 (aA.mk false false 0 0 false false false false) l_0_players).entered then (some (!((aE n_1 (aA.mk false false 0 0 false false false false) l_0_players).quit))) else (some false)).bind fun b2 =>
    (bif b2 then (some (!((aE n_1 (aA.mk false false 0 0 false false false false) l_0_players).had))) else (some false)).bind fun b3 =>
    some b3

def mT (x : List Int) (cmp : Int → Int → Option Int) : Option (List Int) := oD x cmp

def fG (p_0 : aA) : Option Int :=
    bif decide (p_0.rank = 0) then (some 1)
    else (some 0)

def dB (a_0 : Int) (b_1 : Int) (c_2 : aJ) : Option Int :=
    (fG (aE a_0 (aA.mk false false 0 0 false false false false) c_2.players)).bind fun r3 =>
    (fG (aE b_1 (aA.mk false false 0 0 false false false false) c_2.players)).bind fun r4 =>
    (kR ([w64 (r3 - r4), w64 (((aE a_0 (aA.mk false false 0 0 false false false false) c_2.players).rank) - ((aE b_1 (aA.mk false false 0 0 false false false false) c_2.players).rank)), w64 (((aE a_0 (aA.mk false false 0 0 false false false false) c_2.players).turn) - ((aE b_1 (aA.mk false false 0 0 false false false false) c_2.players).turn))])).bind fun r5 =>
    some r5

def jE (againQ : ((List Int)) → Prop) (l_100 : aJ) (out_100 : List Int) : Prop :=
    nb (mT out_100 (fun y12 y13 => dB y12 y13 l_100)) fun r14 =>
    againQ r14

def eO (againQ : ((List Int)) → Prop) (l_0 : aJ) : Nat → (List Int) → (List (Int × aA)) → Prop
  | 0, _, _ => False
  | k0 + 1, out_0, left_0 =>
    aGa left_0 (jE againQ l_0 out_0)
    (fun p10 left11 =>
    nb (eE l_0.players p10.1) fun r15 =>
    bif r15 then (nb (app 8 out_0 ([p10.1])) fun x16 =>
    (eO againQ l_0 k0) x16 left11)
    else ((eO againQ l_0 k0) out_0 left11))

def kV (l_0 : aJ) (Q : ((List Int)) → Prop) : Prop :=
    zN l_0.players fun left9 =>
    eO Q l_0 BIG ([] : List Int) left9

def dQ (l : aJ) : Option (List Int) := if l.players.length < 4294967296 then oD ((l.players.filter fun p => (eE l.players p.1).getD false).map Prod.fst) (fun a b => dB a b l) else none

def lT (inv_100 : List Int) : Option ((List Int)) :=
    some inv_100

def eF (l_0 : aJ) (t7_0 : List Int) (t8_0 : Int) : Nat → Int → (List Int) → Option ((List Int))
  | 0, _, _ => none
  | k0 + 1, t9_0, inv_0 =>
    bif decide (t9_0 < t8_0) then ((idx t7_0 t9_0).bind fun x4 =>
    (dJ l_0).bind fun r5 =>
    (bif decide ((inv_0.length : Int) < r5) then ((bif !((aE x4 (aA.mk false false 0 0 false false false false) l_0.players).guard) then (some true) else ((fX l_0 inv_0).bind fun r6 =>
    some (decide (r6 < l_0.Field.Guards)))).bind fun b7 =>
    some b7) else (some false)).bind fun b8 =>
    bif b8 then ((app 8 inv_0 ([x4])).bind fun x9 =>
    (eF l_0 t7_0 t8_0 k0) (w64 (t9_0 + 1)) x9)
    else ((eF l_0 t7_0 t8_0 k0) (w64 (t9_0 + 1)) inv_0))
    else (lT inv_0)

def iF (l_0 : aJ) : Option ((List Int)) :=
    (dQ l_0).bind fun r3 =>
    eF l_0 r3 (r3.length : Int) BIG 0 ([] : List Int)

def iE (l_0 : aJ) : Option aJ :=
    bif !l_0.frozen then ((iF l_0).bind fun r1 =>
    some (aJ.mk l_0.Field l_0.players l_0.wilds true r1 l_0.late l_0.more l_0.entered))
    else (some l_0)

def kO : Option Int :=
    some (-1)

def dY (s_0 : List Int) (f_0 : Int → Option Bool) (t7_0 : Int) : Nat → Int → Option Int
  | 0, _ => none
  | k0 + 1, t8_0 =>
    bif decide (t8_0 < t7_0) then ((idx s_0 t8_0).bind fun x1 =>
    (f_0 x1).bind fun r2 =>
    bif r2 then (some t8_0)
    else ((dY s_0 f_0 t7_0 k0) (w64 (t8_0 + 1))))
    else (kO)

def eZ (s_0 : List Int) (f_1 : Int → Option Bool) : Option Int :=
    dY s_0 f_1 (s_0.length : Int) BIG 0

def kI (i_100 : Int) (s_100 : List Int) : Option ((List Int)) :=
    (chk (decide (0 ≤ i_100) && decide (i_100 ≤ (s_100.length : Int)))).bind fun u6 =>
    (chk (decide (i_100.toNat ≤ s_100.length))).bind fun u7 =>
    (chk (decide (0 ≤ i_100))).bind fun u8 =>
    some (s_100.take i_100.toNat)

def dE (del_0 : Int → Option Bool) : Nat → Int → Int → (List Int) → Option ((List Int))
  | 0, _, _, _ => none
  | k0 + 1, i_0, j_0, s_0 =>
    bif decide (j_0 < (s_0.length : Int)) then ((idx s_0 j_0).bind fun x3 =>
    (del_0 x3).bind fun r4 =>
    bif !r4 then ((idx s_0 i_0).bind fun x5 =>
    (dE del_0 k0) (w64 (i_0 + 1)) (w64 (j_0 + 1)) (s_0.set i_0.toNat x3))
    else ((dE del_0 k0) i_0 (w64 (j_0 + 1)) s_0))
    else (kI i_0 s_0)

def bV (s_0 : List Int) (del_1 : Int → Option Bool) : Option ((List Int)) :=
    (eZ s_0 del_1).bind fun r2 =>
    bif decide (r2 = (-1)) then (some s_0)
    else (dE del_1 BIG r2 (w64 (r2 + 1)) s_0)

def dK (m_0 : Int) (c_1 : aK) : Option Bool :=
    some (decide (m_0 = c_1.Player))

def hM (l_0 : aJ) (n_1 : aK) : Option aJ :=
    bif decide (n_1.Kind = 1) then (bif decide (n_1.Kind = 1) then ((bif decide (n_1.Hour ≤ l_0.Field.Close) then (some (!((aE n_1.Player (aA.mk false false 0 0 false false false false) l_0.players).entered))) else (some false)).bind fun b3 =>
    bif b3 then (some (aJ.mk l_0.Field (bU n_1.Player (aA.mk true (decide (n_1.Kind = 2)) n_1.Rank (w64 (l_0.entered + 1)) ((aE n_1.Player (aA.mk false false 0 0 false false false false) l_0.players).quit) ((aE n_1.Player (aA.mk false false 0 0 false false false false) l_0.players).signed) ((aE n_1.Player (aA.mk false false 0 0 false false false false) l_0.players).wild) ((aE n_1.Player (aA.mk false false 0 0 false false false false) l_0.players).had)) l_0.players) l_0.wilds l_0.frozen l_0.first l_0.late l_0.more (w64 (l_0.entered + 1))))
    else (some (aJ.mk l_0.Field (bU n_1.Player (aE n_1.Player (aA.mk false false 0 0 false false false false) l_0.players) l_0.players) l_0.wilds l_0.frozen l_0.first l_0.late l_0.more l_0.entered)))
    else (bif decide (n_1.Kind = 3) then ((bif decide (n_1.Hour ≤ l_0.Field.Freeze) then (some (!((aE n_1.Player (aA.mk false false 0 0 false false false false) l_0.players).wild))) else (some false)).bind fun b4 =>
    (bif b4 then (some (!((aE n_1.Player (aA.mk false false 0 0 false false false false) l_0.players).quit))) else (some false)).bind fun b5 =>
    (bif b5 then (some (decide ((l_0.wilds.length : Int) < l_0.Field.Wilds))) else (some false)).bind fun b6 =>
    bif b6 then ((app 8 l_0.wilds ([n_1.Player])).bind fun x7 =>
    some (aJ.mk l_0.Field (bU n_1.Player (aA.mk ((aE n_1.Player (aA.mk false false 0 0 false false false false) l_0.players).entered) ((aE n_1.Player (aA.mk false false 0 0 false false false false) l_0.players).guard) ((aE n_1.Player (aA.mk false false 0 0 false false false false) l_0.players).rank) ((aE n_1.Player (aA.mk false false 0 0 false false false false) l_0.players).turn) ((aE n_1.Player (aA.mk false false 0 0 false false false false) l_0.players).quit) ((aE n_1.Player (aA.mk false false 0 0 false false false false) l_0.players).signed) true true) l_0.players) x7 l_0.frozen l_0.first l_0.late l_0.more l_0.entered))
    else (some (aJ.mk l_0.Field (bU n_1.Player (aE n_1.Player (aA.mk false false 0 0 false false false false) l_0.players) l_0.players) l_0.wilds l_0.frozen l_0.first l_0.late l_0.more l_0.entered)))
    else (bif decide (n_1.Kind = 4) then ((bif (aE n_1.Player (aA.mk false false 0 0 false false false false) l_0.players).wild then (some (decide (l_0.Field.Freeze < n_1.Hour))) else (some false)).bind fun b9 =>
    bif b9 then ((bV l_0.wilds (fun y10 => dK y10 n_1)).bind fun r11 =>
    some (aJ.mk l_0.Field (bU n_1.Player (aA.mk ((aE n_1.Player (aA.mk false false 0 0 false false false false) l_0.players).entered) ((aE n_1.Player (aA.mk false false 0 0 false false false false) l_0.players).guard) ((aE n_1.Player (aA.mk false false 0 0 false false false false) l_0.players).rank) ((aE n_1.Player (aA.mk false false 0 0 false false false false) l_0.players).turn) true ((aE n_1.Player (aA.mk false false 0 0 false false false false) l_0.players).signed) false ((aE n_1.Player (aA.mk false false 0 0 false false false false) l_0.players).had)) l_0.players) r11 l_0.frozen l_0.first l_0.late (w64 (l_0.more + 1)) l_0.entered))
    else ((bV l_0.wilds (fun y13 => dK y13 n_1)).bind fun r14 =>
    some (aJ.mk l_0.Field (bU n_1.Player (aA.mk ((aE n_1.Player (aA.mk false false 0 0 false false false false) l_0.players).entered) ((aE n_1.Player (aA.mk false false 0 0 false false false false) l_0.players).guard) ((aE n_1.Player (aA.mk false false 0 0 false false false false) l_0.players).rank) ((aE n_1.Player (aA.mk false false 0 0 false false false false) l_0.players).turn) true ((aE n_1.Player (aA.mk false false 0 0 false false false false) l_0.players).signed) false ((aE n_1.Player (aA.mk false false 0 0 false false false false) l_0.players).had)) l_0.players) r14 l_0.frozen l_0.first l_0.late l_0.more l_0.entered)))
    else (bif decide (n_1.Kind = 5) then (some (aJ.mk l_0.Field (bU n_1.Player (aA.mk ((aE n_1.Player (aA.mk false false 0 0 false false false false) l_0.players).entered) ((aE n_1.Player (aA.mk false false 0 0 false false false false) l_0.players).guard) ((aE n_1.Player (aA.mk false false 0 0 false false false false) l_0.players).rank) ((aE n_1.Player (aA.mk false false 0 0 false false false false) l_0.players).turn) ((aE n_1.Player (aA.mk false false 0 0 false false false false) l_0.players).quit) true ((aE n_1.Player (aA.mk false false 0 0 false false false false) l_0.players).wild) ((aE n_1.Player (aA.mk false false 0 0 false false false false) l_0.players).had)) l_0.players) l_0.wilds l_0.frozen l_0.first l_0.late l_0.more l_0.entered))
    else (some (aJ.mk l_0.Field (bU n_1.Player (aE n_1.Player (aA.mk false false 0 0 false false false false) l_0.players) l_0.players) l_0.wilds l_0.frozen l_0.first l_0.late l_0.more l_0.entered))))))
    else (bif decide (n_1.Kind = 2) then ((bif decide (n_1.Hour ≤ l_0.Field.Close) then (some (!((aE n_1.Player (aA.mk false false 0 0 false false false false) l_0.players).entered))) else (some false)).bind fun b16 =>
    bif b16 then (some (aJ.mk l_0.Field (bU n_1.Player (aA.mk true (decide (n_1.Kind = 2)) n_1.Rank (w64 (l_0.entered + 1)) ((aE n_1.Player (aA.mk false false 0 0 false false false false) l_0.players).quit) ((aE n_1.Player (aA.mk false false 0 0 false false false false) l_0.players).signed) ((aE n_1.Player (aA.mk false false 0 0 false false false false) l_0.players).wild) ((aE n_1.Player (aA.mk false false 0 0 false false false false) l_0.players).had)) l_0.players) l_0.wilds l_0.frozen l_0.first l_0.late l_0.more (w64 (l_0.entered + 1))))
    else (some (aJ.mk l_0.Field (bU n_1.Player (aE n_1.Player (aA.mk false false 0 0 false false false false) l_0.players) l_0.players) l_0.wilds l_0.frozen l_0.first l_0.late l_0.more l_0.entered)))
    else (bif decide (n_1.Kind = 3) then ((bif decide (n_1.Hour ≤ l_0.Field.Freeze) then (some (!((aE n_1.Player (aA.mk false false 0 0 false false false false) l_0.players).wild))) else (some false)).bind fun b17 =>
    (bif b17 then (some (!((aE n_1.Player (aA.mk false false 0 0 false false false false) l_0.players).quit))) else (some false)).bind fun b18 =>
    (bif b18 then (some (decide ((l_0.wilds.length : Int) < l_0.Field.Wilds))) else (some false)).bind fun b19 =>
    bif b19 then ((app 8 l_0.wilds ([n_1.Player])).bind fun x20 =>
    some (aJ.mk l_0.Field (bU n_1.Player (aA.mk ((aE n_1.Player (aA.mk false false 0 0 false false false false) l_0.players).entered) ((aE n_1.Player (aA.mk false false 0 0 false false false false) l_0.players).guard) ((aE n_1.Player (aA.mk false false 0 0 false false false false) l_0.players).rank) ((aE n_1.Player (aA.mk false false 0 0 false false false false) l_0.players).turn) ((aE n_1.Player (aA.mk false false 0 0 false false false false) l_0.players).quit) ((aE n_1.Player (aA.mk false false 0 0 false false false false) l_0.players).signed) true true) l_0.players) x20 l_0.frozen l_0.first l_0.late l_0.more l_0.entered))
    else (some (aJ.mk l_0.Field (bU n_1.Player (aE n_1.Player (aA.mk false false 0 0 false false false false) l_0.players) l_0.players) l_0.wilds l_0.frozen l_0.first l_0.late l_0.more l_0.entered)))
    else (bif decide (n_1.Kind = 4) then ((bif (aE n_1.Player (aA.mk false false 0 0 false false false false) l_0.players).wild then (some (decide (l_0.Field.Freeze < n_1.Hour))) else (some false)).bind fun b22 =>
    bif b22 then ((bV l_0.wilds (fun y23 => dK y23 n_1)).bind fun r24 =>
    some (aJ.mk l_0.Field (bU n_1.Player (aA.mk ((aE n_1.Player (aA.mk false false 0 0 false false false false) l_0.players).entered) ((aE n_1.Player (aA.mk false false 0 0 false false false false) l_0.players).guard) ((aE n_1.Player (aA.mk false false 0 0 false false false false) l_0.players).rank) ((aE n_1.Player (aA.mk false false 0 0 false false false false) l_0.players).turn) true ((aE n_1.Player (aA.mk false false 0 0 false false false false) l_0.players).signed) false ((aE n_1.Player (aA.mk false false 0 0 false false false false) l_0.players).had)) l_0.players) r24 l_0.frozen l_0.first l_0.late (w64 (l_0.more + 1)) l_0.entered))
    else ((bV l_0.wilds (fun y26 => dK y26 n_1)).bind fun r27 =>
    some (aJ.mk l_0.Field (bU n_1.Player (aA.mk ((aE n_1.Player (aA.mk false false 0 0 false false false false) l_0.players).entered) ((aE n_1.Player (aA.mk false false 0 0 false false false false) l_0.players).guard) ((aE n_1.Player (aA.mk false false 0 0 false false false false) l_0.players).rank) ((aE n_1.Player (aA.mk false false 0 0 false false false false) l_0.players).turn) true ((aE n_1.Player (aA.mk false false 0 0 false false false false) l_0.players).signed) false ((aE n_1.Player (aA.mk false false 0 0 false false false false) l_0.players).had)) l_0.players) r27 l_0.frozen l_0.first l_0.late l_0.more l_0.entered)))
    else (bif decide (n_1.Kind = 5) then (some (aJ.mk l_0.Field (bU n_1.Player (aA.mk ((aE n_1.Player (aA.mk false false 0 0 false false false false) l_0.players).entered) ((aE n_1.Player (aA.mk false false 0 0 false false false false) l_0.players).guard) ((aE n_1.Player (aA.mk false false 0 0 false false false false) l_0.players).rank) ((aE n_1.Player (aA.mk false false 0 0 false false false false) l_0.players).turn) ((aE n_1.Player (aA.mk false false 0 0 false false false false) l_0.players).quit) true ((aE n_1.Player (aA.mk false false 0 0 false false false false) l_0.players).wild) ((aE n_1.Player (aA.mk false false 0 0 false false false false) l_0.players).had)) l_0.players) l_0.wilds l_0.frozen l_0.first l_0.late l_0.more l_0.entered))
    else (some (aJ.mk l_0.Field (bU n_1.Player (aE n_1.Player (aA.mk false false 0 0 false false false false) l_0.players) l_0.players) l_0.wilds l_0.frozen l_0.first l_0.late l_0.more l_0.entered))))))

def dU (n_0 : Int) (c_1_players : List (Int × aA)) : Option Bool :=
    (eE c_1_players n_0).bind fun r1 =>
    some (!r1)

def kY (n_1 : Int) : Option ((List Int)) :=
    bif decide (n_1 < 0) then (none)
    else (bif decide (0 < (w64 (n_1 - (w64 (0 - 0))))) then ((chk (decide (0 ≤ 0))).bind fun u2 =>
    (chk (decide (0 < (w64 (n_1 - (w64 (0 - 0))))) && decide ((w64 (n_1 - (w64 (0 - 0)))) * ((8 : Nat) : Int) ≤ 140737488355328))).bind fun u3 =>
    (chk (decide (0 ≤ 0))).bind fun u5 =>
    some ([] : List Int))
    else (some ([] : List Int)))

def pD (o24_102 : List Int) : Option ((List Int)) :=
    some o24_102

def eG (t25_2 : List (List Int)) (t26_2 : Int) : Nat → Int → (List Int) → Option ((List Int))
  | 0, _, _ => none
  | k2 + 1, t27_2, o24_2 =>
    bif decide (t27_2 < t26_2) then ((idx t25_2 t27_2).bind fun x5 =>
    (app 8 o24_2 x5).bind fun x6 =>
    (eG t25_2 t26_2 k2) (w64 (t27_2 + 1)) x6)
    else (pD o24_2)

def lY (slices_100 : List (List Int)) (size_100 : Int) : Option ((List Int)) :=
    (kY size_100).bind fun r3 =>
    eG slices_100 (slices_100.length : Int) BIG 0 r3

def eY (slices_0 : List (List Int)) (t9_0 : List (List Int)) (t10_0 : Int) : Nat → Int → Int → Option ((List Int))
  | 0, _, _ => none
  | k0 + 1, size_0, t11_0 =>
    bif decide (t11_0 < t10_0) then ((idx t9_0 t11_0).bind fun x2 =>
    bif decide ((w64 (size_0 + (x2.length : Int))) < 0) then (none)
    else ((eY slices_0 t9_0 t10_0 k0) (w64 (size_0 + (x2.length : Int))) (w64 (t11_0 + 1))))
    else (lY slices_0 size_0)

def jP (slices_0 : List (List Int)) : Option ((List Int)) :=
    eY slices_0 slices_0 (slices_0.length : Int) BIG 0 0

def cX (l_0 : aJ) : Option ((List Int)) :=
    bif !l_0.frozen then ((iF l_0).bind fun r2 =>
    some r2)
    else ((jP ([l_0.first, l_0.late])).bind fun r4 =>
    some r4)

def kM : Option Int :=
    some (-1)

def dG (s_0 : List Int) (v_0 : Int) (t7_0 : Int) : Nat → Int → Option Int
  | 0, _ => none
  | k0 + 1, t8_0 =>
    bif decide (t8_0 < t7_0) then ((idx s_0 t8_0).bind fun x1 =>
    bif decide (v_0 = x1) then (some t8_0)
    else ((dG s_0 v_0 t7_0 k0) (w64 (t8_0 + 1))))
    else (kM)

def fN (s_0 : List Int) (v_1 : Int) : Option Int :=
    dG s_0 v_1 (s_0.length : Int) BIG 0

def gH (s_0 : List Int) (v_1 : Int) : Option Bool :=
    (fN s_0 v_1).bind fun r1 =>
    some (decide (0 ≤ r1))

def iD (n_0 : Int) (c_1 : aJ) (c_2 : List Int) : Option Bool :=
    (bif (aE n_0 (aA.mk false false 0 0 false false false false) c_1.players).signed then ((gH c_2 n_0).bind fun r2 =>
    some (!r2)) else (some false)).bind fun b3 =>
    (bif b3 then ((bif !((aE n_0 (aA.mk false false 0 0 false false false false) c_1.players).guard) then (some true) else ((fX c_1 c_2).bind fun r4 =>
    some (decide (r4 < c_1.Field.Guards)))).bind fun b5 =>
    some b5) else (some false)).bind fun b6 =>
    some b6

def kW (l_100 : List (Int × aA)) (l_100_2 : List Int) (l_100_3 : List Int) (l_100_4 : List Int) (l_100_5 : aT) (l_100_6 : Bool) (l_100_7 : Int) (l_100_8 : Int) : Option aJ :=
    some (aJ.mk l_100_5 l_100 l_100_2 l_100_6 l_100_3 l_100_4 l_100_7 l_100_8)

def fM (l_0 : List (Int × aA)) (l_0_2 : List Int) (l_0_3 : List Int) : Nat → (List Int) → aT → Bool → Int → Int → (List Int) → Option aJ
  | 0, _, _, _, _, _, _ => none
  | k0 + 1, l_0_4, l_0_5, l_0_6, l_0_7, l_0_8, o25_0 =>
    (dJ (aJ.mk l_0_5 l_0 l_0_2 l_0_6 l_0_3 l_0_4 l_0_7 l_0_8)).bind fun r11 =>
    bif decide ((o25_0.length : Int) < r11) then ((dQ (aJ.mk l_0_5 l_0 l_0_2 l_0_6 l_0_3 l_0_4 l_0_7 l_0_8)).bind fun r12 =>
    (eZ r12 (fun y14 => iD y14 (aJ.mk l_0_5 l_0 l_0_2 l_0_6 l_0_3 l_0_4 l_0_7 l_0_8) o25_0)).bind fun r15 =>
    bif decide (r15 < 0) then (some (aJ.mk l_0_5 l_0 l_0_2 l_0_6 l_0_3 l_0_4 l_0_7 l_0_8))
    else ((dQ (aJ.mk l_0_5 l_0 l_0_2 l_0_6 l_0_3 l_0_4 l_0_7 l_0_8)).bind fun r16 =>
    (idx r16 r15).bind fun x18 =>
    (app 8 l_0_4 ([x18])).bind fun x19 =>
    (cX (aJ.mk l_0_5 l_0 l_0_2 l_0_6 l_0_3 x19 l_0_7 l_0_8)).bind fun r22 =>
    (fM l_0 l_0_2 l_0_3 k0) x19 l_0_5 l_0_6 l_0_7 l_0_8 r22))
    else (kW l_0 l_0_2 l_0_3 l_0_4 l_0_5 l_0_6 l_0_7 l_0_8)

def hG (l_0 : aJ) : Option aJ :=
    (bV l_0.first (fun y2 => dU y2 l_0.players)).bind fun r3 =>
    (bV l_0.late (fun y5 => dU y5 l_0.players)).bind fun r6 =>
    (cX (aJ.mk l_0.Field l_0.players l_0.wilds l_0.frozen r3 r6 l_0.more l_0.entered)).bind fun r8 =>
    fM l_0.players l_0.wilds r3 BIG r6 l_0.Field l_0.frozen l_0.more l_0.entered r8

def jZ (hour_100 : Int) (f_100 : aT) (o12_100 : List (Int × aA)) (o14_100 : List Int) (o14_100_2 : List Int) (o14_100_3 : List Int) (o14_100_4 : aT) (o14_100_5 : Bool) (o14_100_6 : Int) (o14_100_7 : Int) : Option ((Option aJ)) :=
    bif decide (f_100.Freeze < hour_100) then ((iE (aJ.mk o14_100_4 o12_100 o14_100 o14_100_5 o14_100_2 o14_100_3 o14_100_6 o14_100_7)).bind fun r13 =>
    some (some r13))
    else (some (some (aJ.mk o14_100_4 o12_100 o14_100 o14_100_5 o14_100_2 o14_100_3 o14_100_6 o14_100_7)))

def eA (hour_0 : Int) (t20_0 : Int) (f_0 : aT) (o17_0 : List aK) : Nat → Int → (List (Int × aA)) → (List Int) → (List Int) → (List Int) → aT → Bool → Int → Int → Option ((Option aJ))
  | 0, _, _, _, _, _, _, _, _, _ => none
  | k0 + 1, t21_0, o12_0, o14_0, o14_0_2, o14_0_3, o14_0_4, o14_0_5, o14_0_6, o14_0_7 =>
    bif decide (t21_0 < t20_0) then ((idx o17_0 t21_0).bind fun x11 =>
    bif decide (hour_0 < x11.Hour) then (jZ hour_0 f_0 o12_0 o14_0 o14_0_2 o14_0_3 o14_0_4 o14_0_5 o14_0_6 o14_0_7)
    else (bif decide (f_0.Freeze < x11.Hour) then ((iE (aJ.mk o14_0_4 o12_0 o14_0 o14_0_5 o14_0_2 o14_0_3 o14_0_6 o14_0_7)).bind fun r19 =>
    (hM r19 x11).bind fun r25 =>
    bif r25.frozen then ((hG r25).bind fun r31 =>
    (eA hour_0 t20_0 f_0 o17_0 k0) (w64 (t21_0 + 1)) r31.players r31.wilds r31.first r31.late r31.Field r31.frozen r31.more r31.entered)
    else ((eA hour_0 t20_0 f_0 o17_0 k0) (w64 (t21_0 + 1)) r25.players r25.wilds r25.first r25.late r25.Field r25.frozen r25.more r25.entered))
    else ((hM (aJ.mk o14_0_4 o12_0 o14_0 o14_0_5 o14_0_2 o14_0_3 o14_0_6 o14_0_7) x11).bind fun r37 =>
    bif r37.frozen then ((hG r37).bind fun r43 =>
    (eA hour_0 t20_0 f_0 o17_0 k0) (w64 (t21_0 + 1)) r43.players r43.wilds r43.first r43.late r43.Field r43.frozen r43.more r43.entered)
    else ((eA hour_0 t20_0 f_0 o17_0 k0) (w64 (t21_0 + 1)) r37.players r37.wilds r37.first r37.late r37.Field r37.frozen r37.more r37.entered))))
    else (jZ hour_0 f_0 o12_0 o14_0 o14_0_2 o14_0_3 o14_0_4 o14_0_5 o14_0_6 o14_0_7)

def mJ (f_0 : aT) (notices_1 : List aK) (hour_2 : Int) : Option ((Option aJ)) :=
    (iB notices_1).bind fun x4 =>
    (eP notices_1 (fun y5 y6 => dA y5 y6)).bind fun r7 =>
    (eH r7).bind fun r9 =>
    eA hour_2 (r9.length : Int) f_0 r9 BIG 0 ([] : List (Int × aA)) ([] : List Int) ([] : List Int) ([] : List Int) f_0 false 0 0

def kX (f_0 : aT) (notices_1 : List aK) (hour_2 : Int) (player_3 : Int) : Option ((Option aJ) × Int) :=
    (nQ f_0 notices_1).bind fun r2 =>
    bif !decide (r2 = 0) then (some ((none : Option aJ), r2))
    else ((bP hour_2 0 9999).bind fun r3 =>
    (bif !r3 then (some true) else ((bP player_3 0 999).bind fun r4 =>
    some (!r4))).bind fun b5 =>
    bif b5 then (some ((none : Option aJ), 1))
    else ((mJ f_0 notices_1 hour_2).bind fun r6 =>
    some (r6, 0)))

def iL (n_0 : Int) (c_1 : List Int) : Option Bool :=
    (gH c_1 n_0).bind fun r1 =>
    some r1

def fR (l_0 : aJ) : Option ((List Int)) :=
    (cX l_0).bind fun r1 =>
    (dQ l_0).bind fun r3 =>
    (bV r3 (fun y5 => iL y5 r1)).bind fun r6 =>
    some r6

def nH (f_0 : aT) (notices_1 : List aK) (hour_2 : Int) : Option (fP × Int) :=
    (kX f_0 notices_1 hour_2 0).bind fun r3 =>
    bif !decide (r3.2 = 0) then (some ((fP.mk ([] : List Int) ([] : List Int) ([] : List Int) 0), r3.2))
    else ((r3.1).bind fun x4 =>
    (cX x4).bind fun r5 =>
    (r3.1).bind fun x6 =>
    (fR x6).bind fun r7 =>
    (dJ x6).bind fun r8 =>
    some ((fP.mk r5 x6.wilds r7 (w64 (r8 - (r5.length : Int)))), 0))

def mQ : Option (Int × Int) :=
    some (0, 0)

def gF (player_0 : Int) (t17_0 : List (List Int)) (t18_0 : Int) : Nat → Int → Option (Int × Int)
  | 0, _ => none
  | k0 + 1, t19_0 =>
    bif decide (t19_0 < t18_0) then ((idx t17_0 t19_0).bind fun x3 =>
    (fN x3 player_0).bind fun r4 =>
    bif decide (0 ≤ r4) then (some (w64 (t19_0 + 1), w64 (r4 + 1)))
    else ((gF player_0 t17_0 t18_0 k0) (w64 (t19_0 + 1))))
    else (mQ)

def gO (l_0 : aJ) (player_1 : Int) : Option (Int × Int) :=
    (cX l_0).bind fun r1 =>
    (fR l_0).bind fun r2 =>
    gF player_1 ([r1, l_0.wilds, r2]) (([r1, l_0.wilds, r2]).length : Int) BIG 0

def kJ (n_0 : Int) (c_1 : aJ) : Option Bool :=
    some (!((aE n_0 (aA.mk false false 0 0 false false false false) c_1.players).signed))

def iR (again0 : aO → aO → Option (aO × Bool)) (t1_101 : aJ) (t2_101 : List Int) (t3_101 : Int) (s_101 : aO) (nextv_101 : aO) : Option (aO × Bool) :=
    again0 s_101 nextv_101

def fE (again0 : aO → aO → Option (aO × Bool)) (t1_102 : aJ) (t2_102 : List Int) (t3_102 : Int) (got_102 : Bool) (s_102 : aO) (nextv_102 : aO) : Option (aO × Bool) :=
    bif !got_102 then (some (s_102, false))
    else (iR again0 t1_102 t2_102 t3_102 s_102 nextv_102)

def fF (again0 : aO → aO → Option (aO × Bool)) (t1_2 : aJ) (t2_2 : List Int) (t3_2 : Int) (t21_2 : List Int) (t22_2 : Int) : Nat → Int → Int → Bool → Int → aO → aO → Option (aO × Bool)
  | 0, _, _, _, _, _, _ => none
  | k2 + 1, moved_2, covered_2, got_2, t23_2, s_2, nextv_2 =>
    bif decide (t23_2 < t22_2) then ((idx t21_2 t23_2).bind fun x4 =>
    (bif (aE x4 (aA.mk false false 0 0 false false false false) t1_2.players).guard then (some (decide (covered_2 < s_2.covered))) else (some false)).bind fun b5 =>
    bif b5 then ((fF again0 t1_2 t2_2 t3_2 t21_2 t22_2 k2) moved_2 (w64 (covered_2 + 1)) got_2 (w64 (t23_2 + 1)) s_2 nextv_2)
    else ((bif !((aE x4 (aA.mk false false 0 0 false false false false) t1_2.players).guard) then (some (decide (moved_2 < s_2.moved))) else (some false)).bind fun b6 =>
    bif b6 then ((fF again0 t1_2 t2_2 t3_2 t21_2 t22_2 k2) (w64 (moved_2 + 1)) covered_2 got_2 (w64 (t23_2 + 1)) s_2 nextv_2)
    else ((bif (aE x4 (aA.mk false false 0 0 false false false false) t1_2.players).guard then (some (decide (t1_2.Field.Guards ≤ s_2.guarded))) else (some false)).bind fun b7 =>
    bif b7 then ((fF again0 t1_2 t2_2 t3_2 t21_2 t22_2 k2) moved_2 covered_2 got_2 (w64 (t23_2 + 1)) s_2 nextv_2)
    else (bif decide (x4 = t3_2) then (some (s_2, true))
    else (bif (aE x4 (aA.mk false false 0 0 false false false false) t1_2.players).guard then (fE again0 t1_2 t2_2 t3_2 true (aO.mk s_2.free (w64 (s_2.guarded + 1)) s_2.moved (w64 (s_2.covered + 1))) nextv_2)
    else (fE again0 t1_2 t2_2 t3_2 true (aO.mk (w64 (s_2.free + 1)) s_2.guarded (w64 (s_2.moved + 1)) s_2.covered) nextv_2))))))
    else (fE again0 t1_2 t2_2 t3_2 got_2 s_2 nextv_2)

def nS (s_100 : aO) (nextv_100 : aO) : Option (aO × Bool) :=
    some (s_100, false)

def gJ (t1_0 : aJ) (t2_0 : List Int) (t3_0 : Int) : Nat → aO → aO → Option (aO × Bool)
  | 0, _, _ => none
  | k0 + 1, s_0, nextv_0 =>
    (dJ t1_0).bind fun r3 =>
    bif decide ((w64 (s_0.free + s_0.guarded)) < r3) then (fF (gJ t1_0 t2_0 t3_0 k0) t1_0 t2_0 t3_0 t2_0 (t2_0.length : Int) BIG 0 0 false 0 s_0 nextv_0)
    else (nS s_0 nextv_0)

def kK (s_0 : aO) (c_1 : aJ) (c_2 : List Int) (c_3 : Int) : Option (aO × Bool) :=
    gJ c_1 c_2 c_3 BIG s_0 (aO.mk 0 0 0 0)

def oS (again0 : (List aO) → Int → (List (aO × Int)) → Option Int) (again2 : Int → (List aO) → (List (aO × Int)) → Option Int) (fill_103 : aJ) (fill_103_2 : List Int) (fill_103_3 : Int) (many_103 : Int) (t41_103 : List aO) (t42_103 : Int) (t43_103 : Int) (nextv_103 : List aO) (o35_103 : List (aO × Int)) : Option Int :=
    again2 (w64 (t43_103 + 1)) nextv_103 o35_103

def oT (again0 : (List aO) → Int → (List (aO × Int)) → Option Int) (again2 : Int → (List aO) → (List (aO × Int)) → Option Int) (fill_104 : aJ) (fill_104_2 : List Int) (fill_104_3 : Int) (many_104 : Int) (t41_104 : List aO) (t42_104 : Int) (t43_104 : Int) (nextv_104 : List aO) (o35_104 : List (aO × Int)) : Option Int :=
    oS again0 again2 fill_104 fill_104_2 fill_104_3 many_104 t41_104 t42_104 t43_104 nextv_104 o35_104

def dL (again0 : (List aO) → Int → (List (aO × Int)) → Option Int) (again2 : Int → (List aO) → (List (aO × Int)) → Option Int) (fill_4 : aJ) (fill_4_2 : List Int) (fill_4_3 : Int) (many_4 : Int) (t41_4 : List aO) (t42_4 : Int) (t43_4 : Int) (s_4 : aO) : Nat → Int → (List aO) → (List (aO × Int)) → Option Int
  | 0, _, _, _ => none
  | k4 + 1, t47_4, nextv_4, o35_4 =>
    bif decide (t47_4 < 2) then (bif decide (t47_4 = 1) then ((bif decide ((w64 (s_4.guarded - 1)) < 0) then (some true) else (some (decide (s_4.free < 0)))).bind fun b16 =>
    bif b16 then ((dL again0 again2 fill_4 fill_4_2 fill_4_3 many_4 t41_4 t42_4 t43_4 s_4 k4) (w64 (t47_4 + 1)) nextv_4 o35_4)
    else ((kK (aO.mk s_4.free (w64 (s_4.guarded - 1)) s_4.moved s_4.covered) fill_4 fill_4_2 fill_4_3).bind fun r17 =>
    bif r17.2 then (some many_4)
    else (bif decide ((aE r17.1 0 (bU r17.1 (w64 ((aE r17.1 0 o35_4) + 1)) o35_4)) = 1) then ((app 32 nextv_4 ([r17.1])).bind fun x18 =>
    (dL again0 again2 fill_4 fill_4_2 fill_4_3 many_4 t41_4 t42_4 t43_4 s_4 k4) (w64 (t47_4 + 1)) x18 (bU r17.1 (w64 ((aE r17.1 0 o35_4) + 1)) o35_4))
    else ((dL again0 again2 fill_4 fill_4_2 fill_4_3 many_4 t41_4 t42_4 t43_4 s_4 k4) (w64 (t47_4 + 1)) nextv_4 (bU r17.1 (w64 ((aE r17.1 0 o35_4) + 1)) o35_4)))))
    else ((bif decide (s_4.guarded < 0) then (some true) else (some (decide ((w64 (s_4.free - 1)) < 0)))).bind fun b20 =>
    bif b20 then ((dL again0 again2 fill_4 fill_4_2 fill_4_3 many_4 t41_4 t42_4 t43_4 s_4 k4) (w64 (t47_4 + 1)) nextv_4 o35_4)
    else ((kK (aO.mk (w64 (s_4.free - 1)) s_4.guarded s_4.moved s_4.covered) fill_4 fill_4_2 fill_4_3).bind fun r21 =>
    bif r21.2 then (some many_4)
    else (bif decide ((aE r21.1 0 (bU r21.1 (w64 ((aE r21.1 0 o35_4) + 1)) o35_4)) = 1) then ((app 32 nextv_4 ([r21.1])).bind fun x22 =>
    (dL again0 again2 fill_4 fill_4_2 fill_4_3 many_4 t41_4 t42_4 t43_4 s_4 k4) (w64 (t47_4 + 1)) x22 (bU r21.1 (w64 ((aE r21.1 0 o35_4) + 1)) o35_4))
    else ((dL again0 again2 fill_4 fill_4_2 fill_4_3 many_4 t41_4 t42_4 t43_4 s_4 k4) (w64 (t47_4 + 1)) nextv_4 (bU r21.1 (w64 ((aE r21.1 0 o35_4) + 1)) o35_4))))))
    else (oT again0 again2 fill_4 fill_4_2 fill_4_3 many_4 t41_4 t42_4 t43_4 nextv_4 o35_4)

def oQ (again0 : (List aO) → Int → (List (aO × Int)) → Option Int) (fill_101 : aJ) (fill_101_2 : List Int) (fill_101_3 : Int) (many_101 : Int) (nextv_101 : List aO) (o35_101 : List (aO × Int)) : Option Int :=
    again0 nextv_101 (w64 (many_101 + 1)) o35_101

def oR (again0 : (List aO) → Int → (List (aO × Int)) → Option Int) (fill_102 : aJ) (fill_102_2 : List Int) (fill_102_3 : Int) (many_102 : Int) (nextv_102 : List aO) (o35_102 : List (aO × Int)) : Option Int :=
    oQ again0 fill_102 fill_102_2 fill_102_3 many_102 nextv_102 o35_102

def hC (again0 : (List aO) → Int → (List (aO × Int)) → Option Int) (fill_2 : aJ) (fill_2_2 : List Int) (fill_2_3 : Int) (many_2 : Int) (t41_2 : List aO) (t42_2 : Int) : Nat → Int → (List aO) → (List (aO × Int)) → Option Int
  | 0, _, _, _ => none
  | k2 + 1, t43_2, nextv_2, o35_2 =>
    bif decide (t43_2 < t42_2) then ((idx t41_2 t43_2).bind fun x13 =>
    dL again0 (hC again0 fill_2 fill_2_2 fill_2_3 many_2 t41_2 t42_2 k2) fill_2 fill_2_2 fill_2_3 many_2 t41_2 t42_2 t43_2 x13 BIG 0 nextv_2 o35_2)
    else (oR again0 fill_2 fill_2_2 fill_2_3 many_2 nextv_2 o35_2)

def oP : Option Int :=
    some 61

def eV (fill_0 : aJ) (fill_0_2 : List Int) (fill_0_3 : Int) : Nat → (List aO) → Int → (List (aO × Int)) → Option Int
  | 0, _, _, _ => none
  | k0 + 1, now_0, many_0, o35_0 =>
    bif decide (0 < (now_0.length : Int)) then (hC (eV fill_0 fill_0_2 fill_0_3 k0) fill_0 fill_0_2 fill_0_3 many_0 now_0 (now_0.length : Int) BIG 0 ([] : List aO) o35_0)
    else (oP)

def nL (l_0 : aJ) (player_1 : Int) : Option Int :=
    (cX l_0).bind fun r3 =>
    (fX l_0 r3).bind fun r4 =>
    (fR l_0).bind fun r5 =>
    (bV r5 (fun y7 => kJ y7 l_0)).bind fun r8 =>
    eV l_0 r8 player_1 BIG ([(aO.mk (w64 ((r3.length : Int) - r4)) r4 0 0)]) 1 ([] : List (aO × Int))

def lQ (again2 : Int → Int → Option Int) (l_103 : aJ) (player_103 : Int) (free_103 : Int) (guarded_103 : Int) (best_103 : Int) (t36_103 : Int) (t37_103 : Int) : Option Int :=
    again2 best_103 (w64 (t37_103 + 1))

def lR (again2 : Int → Int → Option Int) (l_104 : aJ) (player_104 : Int) (free_104 : Int) (guarded_104 : Int) (best_104 : Int) (t36_104 : Int) (t37_104 : Int) : Option Int :=
    lQ again2 l_104 player_104 free_104 guarded_104 best_104 t36_104 t37_104

def eU (again2 : Int → Int → Option Int) (l_4 : aJ) (player_4 : Int) (free_4 : Int) (guarded_4 : Int) (x_4 : Int) (t36_4 : Int) (t37_4 : Int) (t41_4 : Int) : Nat → Int → Int → Option Int
  | 0, _, _ => none
  | k4 + 1, best_4, t42_4 =>
    bif decide (t42_4 < t41_4) then ((dJ l_4).bind fun r3 =>
    (bif decide ((w64 ((w64 (free_4 - x_4)) + (min (w64 (guarded_4 - t42_4)) l_4.Field.Guards))) < r3) then ((bif !((aE player_4 (aA.mk false false 0 0 false false false false) l_4.players).guard) then (some true) else (some (decide ((min (w64 (guarded_4 - t42_4)) l_4.Field.Guards) < l_4.Field.Guards)))).bind fun b4 =>
    some b4) else (some false)).bind fun b5 =>
    bif b5 then ((eU again2 l_4 player_4 free_4 guarded_4 x_4 t36_4 t37_4 t41_4 k4) (min best_4 (w64 (x_4 + t42_4))) (w64 (t42_4 + 1)))
    else ((eU again2 l_4 player_4 free_4 guarded_4 x_4 t36_4 t37_4 t41_4 k4) best_4 (w64 (t42_4 + 1))))
    else (lR again2 l_4 player_4 free_4 guarded_4 best_4 t36_4 t37_4)

def lP (best_102 : Int) : Option Int :=
    some best_102

def eC (l_2 : aJ) (player_2 : Int) (free_2 : Int) (guarded_2 : Int) (t36_2 : Int) : Nat → Int → Int → Option Int
  | 0, _, _ => none
  | k2 + 1, best_2, t37_2 =>
    bif decide (t37_2 < t36_2) then (eU (eC l_2 player_2 free_2 guarded_2 t36_2 k2) l_2 player_2 free_2 guarded_2 t37_2 t36_2 t37_2 (w64 (guarded_2 + 1)) BIG best_2 0)
    else (lP best_2)

def jS (l_100 : aJ) (player_100 : Int) (free_100 : Int) (guarded_100 : Int) : Option Int :=
    eC l_100 player_100 free_100 guarded_100 (w64 (free_100 + 1)) BIG 61 0

def gZ (l_0 : aJ) (player_0 : Int) (t14_0 : List Int) (t15_0 : Int) : Nat → Int → Int → Int → Option Int
  | 0, _, _, _ => none
  | k0 + 1, free_0, guarded_0, t16_0 =>
    bif decide (t16_0 < t15_0) then ((idx t14_0 t16_0).bind fun x2 =>
    bif decide (x2 = player_0) then (jS l_0 player_0 free_0 guarded_0)
    else (bif (aE x2 (aA.mk false false 0 0 false false false false) l_0.players).guard then ((gZ l_0 player_0 t14_0 t15_0 k0) free_0 (w64 (guarded_0 + 1)) (w64 (t16_0 + 1)))
    else ((gZ l_0 player_0 t14_0 t15_0 k0) (w64 (free_0 + 1)) guarded_0 (w64 (t16_0 + 1)))))
    else (jS l_0 player_0 free_0 guarded_0)

def jN (l_0 : aJ) (player_1 : Int) : Option Int :=
    (dQ l_0).bind fun r1 =>
    gZ l_0 player_1 r1 (r1.length : Int) BIG 0 0 0

def nR (f_0 : aT) (notices_1 : List aK) (hour_2 : Int) (player_3 : Int) : Option (Int × Int) :=
    (kX f_0 notices_1 hour_2 player_3).bind fun r2 =>
    bif !decide (r2.2 = 0) then (some (0, r2.2))
    else ((r2.1).bind fun x3 =>
    (gO x3 player_3).bind fun r4 =>
    bif decide (r4.1 = 1) then (bif decide (0 = 61) then (some (0, 3))
    else (some (0, 0)))
    else ((bif decide (r4.1 = 3) then ((r2.1).bind fun x5 =>
    some x5.frozen) else (some false)).bind fun b6 =>
    bif b6 then ((r2.1).bind fun x7 =>
    (nL x7 player_3).bind fun r8 =>
    bif decide (r8 = 61) then (some (0, 3))
    else (some (r8, 0)))
    else (bif decide (r4.1 = 3) then ((r2.1).bind fun x9 =>
    (jN x9 player_3).bind fun r10 =>
    bif decide (r10 = 61) then (some (0, 3))
    else (some (r10, 0)))
    else (bif decide (61 = 61) then (some (0, 3))
    else (some (61, 0))))))

def slices_Sort_int (x : List Int) : Option (List Int) := if x.length < 4611686018427387904 then some (lZ x) else none

def lI (again0 : Int → (List Int) → Option ((List Int))) (k_102 : Int) (s_102 : List Int) : Option ((List Int)) :=
    (chk (decide (0 ≤ k_102) && decide (k_102 ≤ (s_102.length : Int)))).bind fun u9 =>
    (chk (decide (k_102.toNat ≤ s_102.length))).bind fun u10 =>
    (chk (decide (0 ≤ k_102))).bind fun u11 =>
    some (s_102.take k_102.toNat)

def dT (again0 : Int → (List Int) → Option ((List Int))) (s2_2 : Int) : Nat → Int → Int → (List Int) → Option ((List Int))
  | 0, _, _, _ => none
  | k2 + 1, k_2, k2_2, s_2 =>
    bif decide (k2_2 < ((s_2.drop s2_2.toNat).length : Int)) then ((idx (s_2.drop s2_2.toNat) k2_2).bind fun x5 =>
    (idx (s_2.drop s2_2.toNat) (w64 (k2_2 - 1))).bind fun x6 =>
    bif !decide (x5 = x6) then ((idx (s_2.drop s2_2.toNat) k2_2).bind fun x7 =>
    (idx s_2 k_2).bind fun x8 =>
    (dT again0 s2_2 k2) (w64 (k_2 + 1)) (w64 (k2_2 + 1)) (s_2.set k_2.toNat x7))
    else ((dT again0 s2_2 k2) k_2 (w64 (k2_2 + 1)) s_2))
    else (lI again0 k_2 s_2)

def lH (again0 : Int → (List Int) → Option ((List Int))) (k_101 : Int) (s_101 : List Int) : Option ((List Int)) :=
    again0 (w64 (k_101 + 1)) s_101

def lG (s_100 : List Int) : Option ((List Int)) :=
    some s_100

def cU : Nat → Int → (List Int) → Option ((List Int))
  | 0, _, _ => none
  | k0 + 1, k_0, s_0 =>
    bif decide (k_0 < (s_0.length : Int)) then ((idx s_0 k_0).bind fun x2 =>
    (idx s_0 (w64 (k_0 - 1))).bind fun x3 =>
    bif decide (x2 = x3) then ((chk (decide (0 ≤ k_0) && decide (k_0 ≤ (s_0.length : Int)))).bind fun u4 =>
    dT (cU k0) k_0 BIG k_0 1 s_0)
    else (lH (cU k0) k_0 s_0))
    else (lG s_0)

def iY (s_0 : List Int) : Option ((List Int)) :=
    bif decide ((s_0.length : Int) < 2) then (some s_0)
    else (cU BIG 1 s_0)

def qV : Option (Int × Int) :=
    some (0, 3)

def jJ (notices_2 : List aK) (player_2 : Int) (t43_2 : Int) (f_2 : aT) (hours_2 : List Int) : Nat → Int → Option (Int × Int)
  | 0, _ => none
  | k2 + 1, t44_2 =>
    bif decide (t44_2 < t43_2) then ((idx hours_2 t44_2).bind fun x11 =>
    (mJ f_2 notices_2 x11).bind fun r12 =>
    (r12).bind fun x13 =>
    (gO x13 player_2).bind fun r14 =>
    (bif decide (r14.1 = 1) then (some true) else (some (decide (r14.1 = 2)))).bind fun b15 =>
    bif b15 then (some (x11, 0))
    else ((jJ notices_2 player_2 t43_2 f_2 hours_2 k2) (w64 (t44_2 + 1))))
    else (qV)

def nX (notices_100 : List aK) (player_100 : Int) (f_100 : aT) (hours_100 : List Int) : Option (Int × Int) :=
    (slices_Sort_int hours_100).bind fun r8 =>
    (iY r8).bind fun r9 =>
    jJ notices_100 player_100 (r9.length : Int) f_100 r9 BIG 0

def jI (notices_0 : List aK) (player_0 : Int) (t27_0 : List aK) (t28_0 : Int) (f_0 : aT) : Nat → Int → (List Int) → Option (Int × Int)
  | 0, _, _ => none
  | k0 + 1, t29_0, hours_0 =>
    bif decide (t29_0 < t28_0) then ((idx t27_0 t29_0).bind fun x4 =>
    (app 8 hours_0 ([x4.Hour])).bind fun x6 =>
    (jI notices_0 player_0 t27_0 t28_0 f_0 k0) (w64 (t29_0 + 1)) x6)
    else (nX notices_0 player_0 f_0 hours_0)

def lO (f_0 : aT) (notices_1 : List aK) (player_2 : Int) : Option (Int × Int) :=
    (kX f_0 notices_1 0 player_2).bind fun r2 =>
    bif !decide (r2.2 = 0) then (some (0, r2.2))
    else (jI notices_1 player_2 notices_1 (notices_1.length : Int) f_0 BIG 0 ([] : List Int))

def nN : Option Bool :=
    some true

def iQ (a_0 : List Int) (b_0 : List Int) : Nat → Int → Option Bool
  | 0, _ => none
  | k0 + 1, i_0 =>
    bif decide (i_0 < (a_0.length : Int)) then ((idx a_0 i_0).bind fun x1 =>
    (idx b_0 i_0).bind fun x2 =>
    bif !decide (x1 = x2) then (some false)
    else ((iQ a_0 b_0 k0) (w64 (i_0 + 1))))
    else (nN)

def iJ (a_0 : List Int) (b_1 : List Int) : Option Bool :=
    bif !decide ((a_0.length : Int) = (b_1.length : Int)) then (some false)
    else (iQ a_0 b_1 BIG 0)

def gN : Option Bool :=
    (gQ).bind fun r1 =>
    (nH r1.1 r1.2 12).bind fun r3 =>
    (nR r1.1 r1.2 10 4).bind fun r5 =>
    (lO r1.1 r1.2 4).bind fun r6 =>
    (bif decide (r3.2 = 0) then (some (decide (r5.2 = 0))) else (some false)).bind fun b7 =>
    (bif b7 then (some (decide (r6.2 = 0))) else (some false)).bind fun b8 =>
    (bif b8 then (some (decide (r5.1 = 2))) else (some false)).bind fun b9 =>
    (bif b9 then (some (decide (r6.1 = 15))) else (some false)).bind fun b10 =>
    (bif b10 then ((iJ r3.1.Main ([9, 8, 5])).bind fun r11 =>
    some r11) else (some false)).bind fun b12 =>
    (bif b12 then ((iJ r3.1.Wilds ([7])).bind fun r13 =>
    some r13) else (some false)).bind fun b14 =>
    (bif b14 then ((iJ r3.1.Out ([6, 4])).bind fun r15 =>
    some r15) else (some false)).bind fun b16 =>
    some b16

def mI (f_0 : aT) (notices_1 : List aK) (hour_2 : Int) (player_3 : Int) : Option (Int × Int × Int) :=
    (kX f_0 notices_1 hour_2 player_3).bind fun r2 =>
    bif !decide (r2.2 = 0) then (some (0, 0, r2.2))
    else ((r2.1).bind fun x3 =>
    (gO x3 player_3).bind fun r4 =>
    some (r4.1, r4.2, 0))

def gX (hour_100 : Int) (where_100 : Int) (first_100 : Int) (h_100 : Int) (found_100 : Bool) (x_100 : gA) : Option Bool :=
    (bif decide (h_100 = 0) then (some found_100) else (some false)).bind fun b19 =>
    (bif b19 then ((bif decide (first_100 = 1) then (some true) else (some (decide (first_100 = 2)))).bind fun b20 =>
    some b20) else (some false)).bind fun b21 =>
    (bif b21 then ((bif decide (hour_100 ≤ x_100.Hour) then (some true) else (some (decide (where_100 = 0)))).bind fun b22 =>
    (bif b22 then (some true) else (some (decide (where_100 = 3)))).bind fun b23 =>
    some b23) else (some false)).bind fun b24 =>
    (bif b24 then ((gN).bind fun r25 =>
    some r25) else (some false)).bind fun b26 =>
    some b26

def dC (l_0 : List aK) (hour_0 : Int) (where_0 : Int) (first_0 : Int) (h_0 : Int) (x_0 : gA) : Nat → Bool → Int → Option Bool
  | 0, _, _ => none
  | k0 + 1, found_0, i_0 =>
    bif decide (i_0 < (l_0.length : Int)) then ((bif found_0 then (some true) else ((idx l_0 i_0).bind fun x17 =>
    some (decide (x17.Hour = hour_0)))).bind fun b18 =>
    (dC l_0 hour_0 where_0 first_0 h_0 x_0 k0) b18 (w64 (i_0 + 1)))
    else (gX hour_0 where_0 first_0 h_0 found_0 x_0)

def jC (f_0 : aT) (l_1 : List aK) (x_2 : gA) : Option Bool :=
    (kB f_0 l_1).bind fun r3 =>
    (bif !r3 then (some true) else ((jM x_2.Hour).bind fun r4 =>
    some (!r4))).bind fun b5 =>
    (bif b5 then (some true) else (some (decide (x_2.Player < 0)))).bind fun b6 =>
    (bif b6 then (some true) else (some (decide (999 < x_2.Player)))).bind fun b7 =>
    bif b7 then ((gN).bind fun r8 =>
    some r8)
    else ((lO f_0 l_1 x_2.Player).bind fun r9 =>
    (mI f_0 l_1 x_2.Hour x_2.Player).bind fun r10 =>
    (bif !decide (r10.2.2 = 0) then (some true) else ((bif !decide (r9.2 = 0) then (some (!decide (r9.2 = 3))) else (some false)).bind fun b11 =>
    some b11)).bind fun b12 =>
    bif b12 then (some false)
    else (bif !decide (r9.2 = 0) then ((bif decide (r10.1 = 0) then (some true) else (some (decide (r10.1 = 3)))).bind fun b13 =>
    (bif b13 then ((gN).bind fun r14 =>
    some r14) else (some false)).bind fun b15 =>
    some b15)
    else ((mI f_0 l_1 r9.1 x_2.Player).bind fun r16 =>
    dC l_1 r9.1 r10.1 r16.1 r16.2.2 x_2 BIG false 0)))

end Go.Am
