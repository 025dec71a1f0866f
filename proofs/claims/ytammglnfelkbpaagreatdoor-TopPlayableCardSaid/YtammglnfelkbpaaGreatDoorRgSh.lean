/- Shallow functions, printed by program. -/
import Derived.Test.YtammglnfelkbpaaGreatDoorTaSh
import Derived.Test.YtammglnfelkbpaaGreatDoorAmByt
import Derived.Test.YtammglnfelkbpaaGreatDoorAmX3
namespace Go.Am
structure aB where
 round:Int
 place:Int
 deriving DecidableEq,Inhabited
def aN(x:aB):List D:=[.lit (.int .i64 x.round),.lit (.int .i64 x.place)]
structure bJ where
 Tree:aD
 players:List Int
 won:List (aB×Int)
 deriving DecidableEq,Inhabited
def dV(x:bJ):List D:=[.lit (.int .i64 x.Tree.Rounds),.sl 1 (x.Tree.Slots.map aP),.sl 1 (x.players.map aP),.mp false (x.won.map λp:aB×Int=>((λa:aB=>Value.agg ((aN a).map bD).toArray) p.1,aP p.2))]
structure bO where
 Low:Int
 High:Int
 deriving DecidableEq,Inhabited
def bS(x:bO):List D:=[.lit (.int .i64 x.Low),.lit (.int .i64 x.High)]
structure bR where
 Length:bO
 Due:Int
 deriving DecidableEq,Inhabited
def fR(x:bR):List D:=[.lit (.int .i64 x.Length.Low),.lit (.int .i64 x.Length.High),.lit (.int .i64 x.Due)]
def bBw(x:List bR):List D:=[.sl 3 (x.map fR)]
structure bK where
 Length:bO
 After:List Int
 With:List Int
 Due:Int
 Earliest:Int
 deriving DecidableEq,Inhabited
def aW(x:bK):List D:=[.lit (.int .i64 x.Length.Low),.lit (.int .i64 x.Length.High),.sl 1 (x.After.map aP),.sl 1 (x.With.map aP),.lit (.int .i64 x.Due),.lit (.int .i64 x.Earliest)]
structure oA where
 Places:Int
 Wilds:Int
 Guards:Int
 Close:Int
 Freeze:Int
 deriving DecidableEq,Inhabited
def aFa(x:oA):List D:=[.lit (.int .i64 x.Places),.lit (.int .i64 x.Wilds),.lit (.int .i64 x.Guards),.lit (.int .i64 x.Close),.lit (.int .i64 x.Freeze)]
structure mC where
 Id:Int
 Hour:Int
 Kind:Int
 Player:Int
 Rank:Int
 deriving DecidableEq,Inhabited
def cY(x:mC):List D:=[.lit (.int .i64 x.Id),.lit (.int .i64 x.Hour),.lit (.int .i64 x.Kind),.lit (.int .i64 x.Player),.lit (.int .i64 x.Rank)]
def aO(x:List bO):List D:=[.sl 2 (x.map bS)]
def aVy(x:List (List bO)):List D:=[.sl 1 (x.map aO)]
structure aH where
 Days:List (List bO)
 Rest:Int
 Jobs:List bK
 deriving DecidableEq,Inhabited
def cH(x:aH):List D:=[.sl 1 (x.Days.map aO),.lit (.int .i64 x.Rest),.sl 6 (x.Jobs.map aW)]
structure dC where
 Sets:Int
 Games:Int
 NoAd:Bool
 Tie:Int
 To:Int
 LastTie:Int
 LastTo:Int
 First:Int
 Then:Int
 Doubles:Bool
 deriving DecidableEq,Inhabited
def lL(x:dC):List D:=[.lit (.int .i64 x.Sets),.lit (.int .i64 x.Games),.lit (.bool x.NoAd),.lit (.int .i64 x.Tie),.lit (.int .i64 x.To),.lit (.int .i64 x.LastTie),.lit (.int .i64 x.LastTo),.lit (.int .i64 x.First),.lit (.int .i64 x.Then),.lit (.bool x.Doubles)]
structure dK where
 Field:oA
 Tree:aD
 Format:dC
 Days:List (List bO)
 Rest:Int
 Stages:List bR
 deriving DecidableEq,Inhabited
def fO(x:dK):List D:=[.lit (.int .i64 x.Field.Places),.lit (.int .i64 x.Field.Wilds),.lit (.int .i64 x.Field.Guards),.lit (.int .i64 x.Field.Close),.lit (.int .i64 x.Field.Freeze),.lit (.int .i64 x.Tree.Rounds),.sl 1 (x.Tree.Slots.map aP),.lit (.int .i64 x.Format.Sets),.lit (.int .i64 x.Format.Games),.lit (.bool x.Format.NoAd),.lit (.int .i64 x.Format.Tie),.lit (.int .i64 x.Format.To),.lit (.int .i64 x.Format.LastTie),.lit (.int .i64 x.Format.LastTo),.lit (.int .i64 x.Format.First),.lit (.int .i64 x.Format.Then),.lit (.bool x.Format.Doubles),.sl 1 (x.Days.map aO),.lit (.int .i64 x.Rest),.sl 3 (x.Stages.map fR)]
structure dJ where
 Hour:Int
 Notices:List mC
 Slips:List aA
 Round:Int
 Place:Int
 First:Int
 Points:List Int
 Days:List (List bO)
 deriving DecidableEq,Inhabited
def iD(x:dJ):List D:=[.lit (.int .i64 x.Hour),.sl 5 (x.Notices.map cY),.sl 5 (x.Slips.map aL),.lit (.int .i64 x.Round),.lit (.int .i64 x.Place),.lit (.int .i64 x.First),.sl 1 (x.Points.map aP),.sl 1 (x.Days.map aO)]
structure aJ where
 Desk:dK
 Register:dJ
 bout:aG
 deriving DecidableEq,Inhabited
def yO(x:aJ):List D:=[.lit (.int .i64 x.Desk.Field.Places),.lit (.int .i64 x.Desk.Field.Wilds),.lit (.int .i64 x.Desk.Field.Guards),.lit (.int .i64 x.Desk.Field.Close),.lit (.int .i64 x.Desk.Field.Freeze),.lit (.int .i64 x.Desk.Tree.Rounds),.sl 1 (x.Desk.Tree.Slots.map aP),.lit (.int .i64 x.Desk.Format.Sets),.lit (.int .i64 x.Desk.Format.Games),.lit (.bool x.Desk.Format.NoAd),.lit (.int .i64 x.Desk.Format.Tie),.lit (.int .i64 x.Desk.Format.To),.lit (.int .i64 x.Desk.Format.LastTie),.lit (.int .i64 x.Desk.Format.LastTo),.lit (.int .i64 x.Desk.Format.First),.lit (.int .i64 x.Desk.Format.Then),.lit (.bool x.Desk.Format.Doubles),.sl 1 (x.Desk.Days.map aO),.lit (.int .i64 x.Desk.Rest),.sl 3 (x.Desk.Stages.map fR),.lit (.int .i64 x.Register.Hour),.sl 5 (x.Register.Notices.map cY),.sl 5 (x.Register.Slips.map aL),.lit (.int .i64 x.Register.Round),.lit (.int .i64 x.Register.Place),.lit (.int .i64 x.Register.First),.sl 1 (x.Register.Points.map aP),.sl 1 (x.Register.Days.map aO),.lit (.int .i64 x.bout.Round),.lit (.int .i64 x.bout.Place),.lit (.int .i64 x.bout.One),.lit (.int .i64 x.bout.Two)]
structure iN where
 Format:dC
 deriving DecidableEq,Inhabited
def vV(x:iN):List D:=[.lit (.int .i64 x.Format.Sets),.lit (.int .i64 x.Format.Games),.lit (.bool x.Format.NoAd),.lit (.int .i64 x.Format.Tie),.lit (.int .i64 x.Format.To),.lit (.int .i64 x.Format.LastTie),.lit (.int .i64 x.Format.LastTo),.lit (.int .i64 x.Format.First),.lit (.int .i64 x.Format.Then),.lit (.bool x.Format.Doubles)]
structure aS where
 A:Int
 B:Int
 deriving DecidableEq,Inhabited
def cN(x:aS):List D:=[.lit (.int .i64 x.A),.lit (.int .i64 x.B)]
structure uU where
 tie:Int
 to:Int
 deriving DecidableEq,Inhabited
def aLk(x:uU):List D:=[.lit (.int .i64 x.tie),.lit (.int .i64 x.to)]
structure eL where
 Sets:List aS
 Games:aS
 Points:aS
 deriving DecidableEq,Inhabited
structure dN where
 Board:eL
 Server:Int
 Ends:Int
 Balls:Int
 Winner:Int
 deriving DecidableEq,Inhabited
def aUx(x:dN):List D:=[.sl 2 (x.Board.Sets.map cN),.lit (.int .i64 x.Board.Games.A),.lit (.int .i64 x.Board.Games.B),.lit (.int .i64 x.Board.Points.A),.lit (.int .i64 x.Board.Points.B),.lit (.int .i64 x.Server),.lit (.int .i64 x.Ends),.lit (.int .i64 x.Balls),.lit (.int .i64 x.Winner)]
structure yI where
 Set:Int
 Tie:Bool
 Server:Int
 Winner:Int
 Points:aS
 Fresh:Bool
 deriving DecidableEq,Inhabited
def fT(x:yI):List D:=[.lit (.int .i64 x.Set),.lit (.bool x.Tie),.lit (.int .i64 x.Server),.lit (.int .i64 x.Winner),.lit (.int .i64 x.Points.A),.lit (.int .i64 x.Points.B),.lit (.bool x.Fresh)]
structure bB where
 rules:iN
 Score:dN
 first:Int
 won:aS
 ties:List Bool
 games:List yI
 deriving DecidableEq,Inhabited
def vU(x:bB):List D:=[.lit (.int .i64 x.rules.Format.Sets),.lit (.int .i64 x.rules.Format.Games),.lit (.bool x.rules.Format.NoAd),.lit (.int .i64 x.rules.Format.Tie),.lit (.int .i64 x.rules.Format.To),.lit (.int .i64 x.rules.Format.LastTie),.lit (.int .i64 x.rules.Format.LastTo),.lit (.int .i64 x.rules.Format.First),.lit (.int .i64 x.rules.Format.Then),.lit (.bool x.rules.Format.Doubles),.sl 2 (x.Score.Board.Sets.map cN),.lit (.int .i64 x.Score.Board.Games.A),.lit (.int .i64 x.Score.Board.Games.B),.lit (.int .i64 x.Score.Board.Points.A),.lit (.int .i64 x.Score.Board.Points.B),.lit (.int .i64 x.Score.Server),.lit (.int .i64 x.Score.Ends),.lit (.int .i64 x.Score.Balls),.lit (.int .i64 x.Score.Winner),.lit (.int .i64 x.first),.lit (.int .i64 x.won.A),.lit (.int .i64 x.won.B),.sl 1 (x.ties.map tW),.sl 7 (x.games.map fT)]
structure A3(α:Type) where
 x0:α
 x1:α
 x2:α
 deriving DecidableEq,Inhabited
def A3.at{α:Type}(a:A3 α)(p:Int):α:=if p=0 then a.x0 else if p=1 then a.x1 else a.x2
def A3.set{α:Type}(a:A3 α)(p:Int)(v:α):A3 α:=if p=0 then{a with x0:=v} else if p=1 then{a with x1:=v} else{a with x2:=v}
theorem A3.cellI{a:A3 Int}{p:Int}{u:Unit}(h:inb 3 p=some u){ds:List D}{j:Nat}(h0:ds[j+0]?=some (.lit (.int .i64 a.x0)))(h1:ds[j+1]?=some (.lit (.int .i64 a.x1)))(h2:ds[j+2]?=some (.lit (.int .i64 a.x2))):ds[j+p.toNat*1]?=some (.lit (.int .i64 (a.at p))):=by
 obtain⟨a1,a2⟩:=iU h
 have:p=0\/p=1\/p=2:=by omega
 rcases this with rfl|rfl|rfl
 ·exact h0
 ·exact h1
 ·exact h2
theorem A3.celzI{a:A3 Int}{p:Int}{u:Unit}(h:inb 3 p=some u){ds:List D}(h0:ds[0]?=some (.lit (.int .i64 a.x0)))(h1:ds[1]?=some (.lit (.int .i64 a.x1)))(h2:ds[2]?=some (.lit (.int .i64 a.x2))):ds[p.toNat*1]?=some (.lit (.int .i64 (a.at p))):=by
 obtain⟨a1,a2⟩:=iU h
 have:p=0\/p=1\/p=2:=by omega
 rcases this with rfl|rfl|rfl
 ·exact h0
 ·exact h1
 ·exact h2
theorem A3.updI{a:A3 Int}{p:Int}{v:Int}{u:Unit}(h:inb 3 p=some u){ds:List D}{j:Nat}(f:A3 Int->List D)(h0:dO ds (j+0) [.lit (.int .i64 v)]=f {a with x0:=v})(h1:dO ds (j+1) [.lit (.int .i64 v)]=f {a with x1:=v})(h2:dO ds (j+2) [.lit (.int .i64 v)]=f {a with x2:=v}):dO ds (j+p.toNat*1) [.lit (.int .i64 v)]=f (a.set p v):=by
 obtain⟨a1,a2⟩:=iU h
 have:p=0\/p=1\/p=2:=by omega
 rcases this with rfl|rfl|rfl
 ·exact h0
 ·exact h1
 ·exact h2
structure A6(α:Type) where
 x0:α
 x1:α
 x2:α
 x3:α
 x4:α
 x5:α
 deriving DecidableEq,Inhabited
def A6.at{α:Type}(a:A6 α)(p:Int):α:=if p=0 then a.x0 else if p=1 then a.x1 else if p=2 then a.x2 else if p=3 then a.x3 else if p=4 then a.x4 else a.x5
def A6.set{α:Type}(a:A6 α)(p:Int)(v:α):A6 α:=if p=0 then{a with x0:=v} else if p=1 then{a with x1:=v} else if p=2 then{a with x2:=v} else if p=3 then{a with x3:=v} else if p=4 then{a with x4:=v} else{a with x5:=v}
theorem A6.cellI{a:A6 Int}{p:Int}{u:Unit}(h:inb 6 p=some u){ds:List D}{j:Nat}(h0:ds[j+0]?=some (.lit (.int .i64 a.x0)))(h1:ds[j+1]?=some (.lit (.int .i64 a.x1)))(h2:ds[j+2]?=some (.lit (.int .i64 a.x2)))(h3:ds[j+3]?=some (.lit (.int .i64 a.x3)))(h4:ds[j+4]?=some (.lit (.int .i64 a.x4)))(h5:ds[j+5]?=some (.lit (.int .i64 a.x5))):ds[j+p.toNat*1]?=some (.lit (.int .i64 (a.at p))):=by
 obtain⟨a1,a2⟩:=iU h
 have:p=0\/p=1\/p=2\/p=3\/p=4\/p=5:=by omega
 rcases this with rfl|rfl|rfl|rfl|rfl|rfl
 ·exact h0
 ·exact h1
 ·exact h2
 ·exact h3
 ·exact h4
 ·exact h5
theorem A6.celzI{a:A6 Int}{p:Int}{u:Unit}(h:inb 6 p=some u){ds:List D}(h0:ds[0]?=some (.lit (.int .i64 a.x0)))(h1:ds[1]?=some (.lit (.int .i64 a.x1)))(h2:ds[2]?=some (.lit (.int .i64 a.x2)))(h3:ds[3]?=some (.lit (.int .i64 a.x3)))(h4:ds[4]?=some (.lit (.int .i64 a.x4)))(h5:ds[5]?=some (.lit (.int .i64 a.x5))):ds[p.toNat*1]?=some (.lit (.int .i64 (a.at p))):=by
 obtain⟨a1,a2⟩:=iU h
 have:p=0\/p=1\/p=2\/p=3\/p=4\/p=5:=by omega
 rcases this with rfl|rfl|rfl|rfl|rfl|rfl
 ·exact h0
 ·exact h1
 ·exact h2
 ·exact h3
 ·exact h4
 ·exact h5
theorem A6.updI{a:A6 Int}{p:Int}{v:Int}{u:Unit}(h:inb 6 p=some u){ds:List D}{j:Nat}(f:A6 Int->List D)(h0:dO ds (j+0) [.lit (.int .i64 v)]=f {a with x0:=v})(h1:dO ds (j+1) [.lit (.int .i64 v)]=f {a with x1:=v})(h2:dO ds (j+2) [.lit (.int .i64 v)]=f {a with x2:=v})(h3:dO ds (j+3) [.lit (.int .i64 v)]=f {a with x3:=v})(h4:dO ds (j+4) [.lit (.int .i64 v)]=f {a with x4:=v})(h5:dO ds (j+5) [.lit (.int .i64 v)]=f {a with x5:=v}):dO ds (j+p.toNat*1) [.lit (.int .i64 v)]=f (a.set p v):=by
 obtain⟨a1,a2⟩:=iU h
 have:p=0\/p=1\/p=2\/p=3\/p=4\/p=5:=by omega
 rcases this with rfl|rfl|rfl|rfl|rfl|rfl
 ·exact h0
 ·exact h1
 ·exact h2
 ·exact h3
 ·exact h4
 ·exact h5
def cFz(x:A6 Int):List D:=[.lit (.int .i64 x.x0),.lit (.int .i64 x.x1),.lit (.int .i64 x.x2),.lit (.int .i64 x.x3),.lit (.int .i64 x.x4),.lit (.int .i64 x.x5)]
structure cE where
 number:Int
 free:A3 Int
 ends:A6 Int
 deriving DecidableEq,Inhabited
def bX(x:cE):List D:=[.lit (.int .i64 x.number),.lit (.int .i64 x.free.x0),.lit (.int .i64 x.free.x1),.lit (.int .i64 x.free.x2),.lit (.int .i64 x.ends.x0),.lit (.int .i64 x.ends.x1),.lit (.int .i64 x.ends.x2),.lit (.int .i64 x.ends.x3),.lit (.int .i64 x.ends.x4),.lit (.int .i64 x.ends.x5)]
structure aE where
 day:cE
 done:Int
 moves:Int
 deriving DecidableEq,Inhabited
def aM(x:aE):List D:=[.lit (.int .i64 x.day.number),.lit (.int .i64 x.day.free.x0),.lit (.int .i64 x.day.free.x1),.lit (.int .i64 x.day.free.x2),.lit (.int .i64 x.day.ends.x0),.lit (.int .i64 x.day.ends.x1),.lit (.int .i64 x.day.ends.x2),.lit (.int .i64 x.day.ends.x3),.lit (.int .i64 x.day.ends.x4),.lit (.int .i64 x.day.ends.x5),.lit (.int .i64 x.done),.lit (.int .i64 x.moves)]
structure aF where
 Job:Int
 Day:Int
 Court:Int
 deriving DecidableEq,Inhabited
def aK(x:aF):List D:=[.lit (.int .i64 x.Job),.lit (.int .i64 x.Day),.lit (.int .i64 x.Court)]
structure dQ where
 Program:aH
 days:Int
 old:Option (List aF)
 deriving DecidableEq,Inhabited
structure dL where
 Kind:Int
 Side:Int
 Pair:aS
 deriving DecidableEq,Inhabited
def lQ(x:dL):List D:=[.lit (.int .i64 x.Kind),.lit (.int .i64 x.Side),.lit (.int .i64 x.Pair.A),.lit (.int .i64 x.Pair.B)]
structure yH where
 Format:dC
 First:Int
 Marks:List dL
 deriving DecidableEq,Inhabited
def aNx(x:yH):List D:=[.lit (.int .i64 x.Format.Sets),.lit (.int .i64 x.Format.Games),.lit (.bool x.Format.NoAd),.lit (.int .i64 x.Format.Tie),.lit (.int .i64 x.Format.To),.lit (.int .i64 x.Format.LastTie),.lit (.int .i64 x.Format.LastTo),.lit (.int .i64 x.Format.First),.lit (.int .i64 x.Format.Then),.lit (.bool x.Format.Doubles),.lit (.int .i64 x.First),.sl 4 (x.Marks.map lQ)]
structure aAt where
 Player:Int
 One:Int
 Two:Int
 deriving DecidableEq,Inhabited
def bQq(x:aAt):List D:=[.lit (.int .i64 x.Player),.lit (.int .i64 x.One),.lit (.int .i64 x.Two)]
structure rX where
 Person:Int
 Mille:Int
 deriving DecidableEq,Inhabited
def sO(x:rX):List D:=[.lit (.int .i64 x.Person),.lit (.int .i64 x.Mille)]
structure qS where
 Person:Int
 Num:Int
 Den:Int
 deriving DecidableEq,Inhabited
def sP(x:qS):List D:=[.lit (.int .i64 x.Person),.lit (.int .i64 x.Num),.lit (.int .i64 x.Den)]
structure aT where
 Id:Int
 Kind:Int
 Person:Int
 Amount:Int
 deriving DecidableEq,Inhabited
def bP(x:aT):List D:=[.lit (.int .i64 x.Id),.lit (.int .i64 x.Kind),.lit (.int .i64 x.Person),.lit (.int .i64 x.Amount)]
structure dX where
 Tree:aD
 Slips:List aA
 Prizes:List Int
 Daily:Int
 Teams:List aAt
 Levies:List rX
 Rates:List qS
 Items:List aT
 deriving DecidableEq,Inhabited
def oK(x:dX):List D:=[.lit (.int .i64 x.Tree.Rounds),.sl 1 (x.Tree.Slots.map aP),.sl 5 (x.Slips.map aL),.sl 1 (x.Prizes.map aP),.lit (.int .i64 x.Daily),.sl 3 (x.Teams.map bQq),.sl 2 (x.Levies.map sO),.sl 3 (x.Rates.map sP),.sl 4 (x.Items.map bP)]
structure gE where
 P:Int
 Q:Int
 Low:Int
 High:Int
 deriving DecidableEq,Inhabited
def mN(x:gE):List D:=[.lit (.int .i64 x.P),.lit (.int .i64 x.Q),.lit (.int .i64 x.Low),.lit (.int .i64 x.High)]
structure dS where
 Size:Int
 Strips:List gE
 Wrong:Int
 HalfX:bO
 HalfY:bO
 deriving DecidableEq,Inhabited
def eS(x:dS):List D:=[.lit (.int .i64 x.Size),.sl 4 (x.Strips.map mN),.lit (.int .i64 x.Wrong),.lit (.int .i64 x.HalfX.Low),.lit (.int .i64 x.HalfX.High),.lit (.int .i64 x.HalfY.Low),.lit (.int .i64 x.HalfY.High)]
structure mO where
 Left:Int
 Right:Int
 Bottom:Int
 Top:Int
 deriving DecidableEq,Inhabited
def uL(x:mO):List D:=[.lit (.int .i64 x.Left),.lit (.int .i64 x.Right),.lit (.int .i64 x.Bottom),.lit (.int .i64 x.Top)]
structure bZ where
 x:Int
 y:Int
 deriving DecidableEq,Inhabited
def dD(x:bZ):List D:=[.lit (.int .i64 x.x),.lit (.int .i64 x.y)]
structure yJ where
 X:Int
 Y:Int
 HalfX:Int
 HalfY:Int
 deriving DecidableEq,Inhabited
def aNy(x:yJ):List D:=[.lit (.int .i64 x.X),.lit (.int .i64 x.Y),.lit (.int .i64 x.HalfX),.lit (.int .i64 x.HalfY)]
def aZn(x:oA):Prop:=okI x.Places/\okI x.Wilds/\okI x.Guards/\okI x.Close/\okI x.Freeze
def aVk(x:dC):Prop:=okI x.Sets/\okI x.Games/\okB x.NoAd/\okI x.Tie/\okI x.To/\okI x.LastTie/\okI x.LastTo/\okI x.First/\okI x.Then/\okB x.Doubles
def aFw(x:bO):Prop:=okI x.Low/\okI x.High
def aOw(x:bR):Prop:=aFw x.Length/\okI x.Due
def aKr(x:dK):Prop:=aZn x.Field/\bEr x.Tree/\aVk x.Format/\(okL (okL aFw)) x.Days/\okI x.Rest/\(okL aOw) x.Stages
def iA(a:Int)(b:Int)(c:Int):Option Bool:=
  (bif decide (b<=a) then(some (decide (a<=c))) else(some false)).bind λd=>
  some d
def aGy:Option Bool:=
  some true
def lD(a:List Int)(b:Int)(c:aD):Nat->Int->(List (Int×Int))->Option Bool
 |0,_,_=>none
 | h+1,i,j=>
  bif decide (i<b) then((idx a i).bind λd=>
  bif decide (d=(-1)) then((idx c.Slots (bBk i 1)).bind λe=>
  bif decide (e=(-1)) then(some false)
  else((lD a b c h) (w64 (i+1)) j))
  else((bif decide (1<(bW d 0 (dE d (w64 ((bW d 0 j)+1)) j))) then(some true) else((iA d 0 999).bind λf=>
  some (!f))).bind λg=>
  bif g then(some false)
  else((lD a b c h) (w64 (i+1)) (dE d (w64 ((bW d 0 j)+1)) j))))
  else(aGy)
def tQ(a:aD):Option Bool:=
  (iA a.Rounds 1 5).bind λb=>
  (bif !b then(some true) else((chk (decide (0<=a.Rounds))).bind λ_=>
  some (!decide ((a.Slots.length:Int)=(w64 (1*2^(min a.Rounds.toNat 64))))))).bind λc=>
  bif c then(some false)
  else(lD a.Slots (a.Slots.length:Int) a BIG 0 ([]:List (Int×Int)))
def oH:Option Int:=
  some (-1)
def eN(a:List aA)(b:aA->Option Bool)(c:Int):Nat->Int->Option Int
 |0,_=>none
 | f+1,g=>
  bif decide (g<c) then((idx a g).bind λd=>
  (b d).bind λe=>
  bif e then(some g)
  else((eN a b c f) (w64 (g+1))))
  else(oH)
def jV(a:List aA)(b:aA->Option Bool):Option Int:=
  eN a b (a.length:Int) BIG 0
def iF(a:List aA)(b:aA->Option Bool):Option Bool:=
  (jV a b).bind λc=>
  some (decide (0<=c))
def qY(a:aB)(b:aD):Option Bool:=
  (iA a.round 0 (w64 (b.Rounds-1))).bind λc=>
  (bif c then((chk (decide (0<=(w64 (a.round+1))))).bind λ_=>
  (iA a.place 0 (w64 (((b.Slots.length:Int).fdiv (2^(min (w64 (a.round+1)).toNat 64)))-1))).bind λd=>
  some d) else(some false)).bind λe=>
  some e
def wL:Option Int:=
  some (-1)
def fX(a:List Int)(b:Int)(c:Int):Nat->Int->Option Int
 |0,_=>none
 | e+1,f=>
  bif decide (f<c) then((idx a f).bind λd=>
  bif decide (b=d) then(some f)
  else((fX a b c e) (w64 (f+1))))
  else(wL)
def iY(a:List Int)(b:Int):Option Int:=
  fX a b (a.length:Int) BIG 0
def cJ(a:List Int)(b:Int):Option Bool:=
  (iY a b).bind λc=>
  some (decide (0<=c))
def yK(a:aD)(b:aA):Option Bool:=
  (iA b.Player 0 999).bind λc=>
  bif !c then(some false)
  else(bif decide (b.Kind=5) then((bif decide (b.Round=0) then((iA b.Place 0 (w64 ((a.Slots.length:Int)-1))).bind λd=>
  some d) else(some false)).bind λe=>
  (bif e then((iA b.Old 0 999).bind λf=>
  some f) else(some false)).bind λg=>
  some g)
  else((iA b.Kind 1 4).bind λh=>
  (bif !h then(some true) else(some (!decide (b.Old=0)))).bind λi=>
  (bif i then(some true) else((qY (aB.mk b.Round b.Place) a).bind λj=>
  some (!j))).bind λk=>
  bif k then(some false)
  else((bif decide (0<b.Round) then(some true) else((sub a.Slots (w64 (2*b.Place)) (w64 ((w64 (2*b.Place))+2))).bind λl=>
  (cJ l (-1)).bind λm=>
  some (!m))).bind λn=>
  some n)))
def tR(a:aA)(b:aD):Option Bool:=
  (yK b a).bind λc=>
  some (!c)
def kQ(a:List Int):Option ((List Int)):=
  (app 8 ([]:List Int) a).bind λb=>
  some b
def qE(a:(aA×Bool)->Prop)(_:List Int)(_:aD)(_:List (aA×Int))(_:aA):Prop:=
  a ((aA.mk 0 0 0 0 0),false)
def iR(a:(aA×Bool)->Prop)(b:Int)(c:List Int)(d:aD)(e:List (aA×Int)):Nat->aA->(List (aA×Int))->Prop
 |0,_,_=>False
 | j+1,k,l=>
  bIy l (qE a c d e k)
  (λf g=>
  nb (bif decide (f.1.Place=b) then((idx c b).bind λh=>
  some (decide (f.1.Old=h))) else(some false)) λi=>
  bif i then(a (f.1,true))
  else((iR a b c d e j) k g))
def jJ(a:aD)(b:List Int)(c:List (aA×Int))(d:Int)(Q:(aA×Bool)->Prop):Prop:=
  aMp c λe=>
  iR Q d b a c BIG (aA.mk 0 0 0 0 0) e
def nU(_:(Bool×(List Int)×(List (aA×Int)))->Prop)(a:Int->(List Int)->(List (aA×Int))->(List Int)->Prop)(_:Int)(b:Int)(c:List Int)(_:aD)(d:List (aA×Int))(e:List Int):Prop:=
  a (w64 (b+1)) c d e
def nV(a:(Bool×(List Int)×(List (aA×Int)))->Prop)(b:Int->(List Int)->(List (aA×Int))->(List Int)->Prop)(c:Int)(d:Int)(e:List Int)(f:aD)(g:List (aA×Int))(h:List Int):Prop:=
  nU a b c d e f g h
def dT(a:(Bool×(List Int)×(List (aA×Int)))->Prop)(b:Int->(List Int)->(List (aA×Int))->(List Int)->Prop)(c:Int)(d:Int)(e:Int)(f:aD):Nat->Bool->(List Int)->(List (aA×Int))->aA->(List Int)->Prop
 |0,_,_,_,_,_=>False
 | j+1,k,l,m,n,o=>
  bif k then(nb (cJ o n.Player) λg=>
  bif g then(a (false,l,m))
  else(nb (idx l c) λ_=>
  nb (app 8 o ([n.Player])) λh=>
  jJ f (l.set c.toNat n.Player) (uA n m) c λi=>
  (dT a b c d e f j) i.2 (l.set c.toNat n.Player) (uA n m) i.1 h))
  else(nV a b d e l f m o)
def nT(a:(Bool×(List Int)×(List (aA×Int)))->Prop)(b:List Int)(_:aD)(c:List (aA×Int)):Prop:=
  a (decide ((c.length:Int)=0),b,c)
def cT(a:(Bool×(List Int)×(List (aA×Int)))->Prop)(b:Int)(c:aD):Nat->Int->(List Int)->(List (aA×Int))->(List Int)->Prop
 |0,_,_,_,_=>False
 | e+1,f,g,h,i=>
  bif decide (f<b) then(jJ c g h f λd=>
  dT a (cT a b c e) f b f c BIG d.2 g h d.1 i)
  else(nT a g c h)
def mR(a:aD)(b:List Int)(c:List (aA×Int))(Q:(Bool×(List Int)×(List (aA×Int)))->Prop):Prop:=
  nb (kQ a.Slots) λd=>
  cT Q (b.length:Int) a BIG 0 b c d
def yL(a:Int)(b:Int):Option aB:=
  (chk (decide (0<=(w64 (a+1))))).bind λ_=>
  some (aB.mk a (b.fdiv (2^(min (w64 (a+1)).toNat 64))))
def aBu(_:List Int)(a:List (aB×Int))(_:aD):Option (Bool×(List (aB×Int))):=
  some (true,a)
def kV(a:Int)(b:Int)(c:List Int)(d:aD):Nat->Int->(List (aB×Int))->Option (Bool×(List (aB×Int)))
 |0,_,_=>none
 | i+1,j,k=>
  bif decide (j<b) then((yL j a).bind λe=>
  (bif cR e k then((idx c a).bind λf=>
  some (!decide ((bW e 0 k)=f))) else(some false)).bind λg=>
  bif g then(some (false,k))
  else((idx c a).bind λh=>
  (kV a b c d i) (w64 (j+1)) (dE e h k)))
  else(aBu c k d)
def pZ(a:aD)(b:List Int)(c:List (aB×Int))(d:Int)(e:Int):Option (Bool×(List (aB×Int))):=
  kV d (w64 (e+1)) b a BIG 0 c
def aAf(a:((Option bJ)×Bool)->Prop)(b:List Int)(c:List (aB×Int))(d:aD):Prop:=
  a ((some (bJ.mk d b c)),true)
def lT(a:((Option bJ)×Bool)->Prop)(b:List Int)(c:aD)(d:List (aB×aA)):Nat->(List (aB×Int))->(List (aB×aA))->Prop
 |0,_,_=>False
 | k+1,l,m=>
  bIy m (aAf a b l c)
  (λe f=>
  nb (iY b e.2.Player) λg=>
  nb (bif decide (g<0) then(some true) else((yL e.1.round g).bind λh=>
  some (!decide (h=e.1)))) λi=>
  bif i then(a ((none:Option bJ),false))
  else(nb (pZ c b l g e.1.round) λj=>
  bif !j.1 then(a ((none:Option bJ),false))
  else((lT a b c d k) j.2 f)))
def uX(a:((Option bJ)×Bool)->Prop)(b:List Int)(c:List (aB×Int))(d:aD)(e:List (aB×aA)):Prop:=
  aMp e λf=>
  lT a b d e BIG c f
def iP(a:((Option bJ)×Bool)->Prop)(b:Int)(c:List Int)(d:aD)(e:List (aB×aA)):Nat->Int->(List (aB×Int))->Prop
 |0,_,_=>False
 | h+1,i,j=>
  bif decide (i<b) then(nb (idx c i) λf=>
  bif decide (f=(-1)) then(nb (pZ d c j (bBk i 1) 0) λg=>
  (iP a b c d e h) (w64 (i+1)) g.2)
  else((iP a b c d e h) (w64 (i+1)) j))
  else(uX a c j d e)
def uW(a:((Option bJ)×Bool)->Prop)(b:List Int)(c:List (aB×Int))(d:aD)(e:List (aA×Int))(f:List (aB×aA)):Prop:=
  mR d b e λg=>
  bif !g.1 then(a ((none:Option bJ),false))
  else(iP a (g.2.1.length:Int) g.2.1 d f BIG 0 c)
def iO(a:((Option bJ)×Bool)->Prop)(b:List aA)(c:Int)(d:List Int)(e:List (aB×Int))(f:aD):Nat->Int->(List (aA×Int))->(List (aB×aA))->Prop
 |0,_,_,_=>False
 | i+1,j,k,l=>
  bif decide (j<c) then(nb (idx b j) λg=>
  bif decide (g.Kind=5) then((iO a b c d e f i) (w64 (j+1)) (dE g (w64 ((bW g 0 k)+1)) k) l)
  else(nb (bif cR (aB.mk g.Round g.Place) l then(some (!decide ((bW (aB.mk g.Round g.Place) (aA.mk 0 0 0 0 0) l)=g))) else(some false)) λh=>
  bif h then(a ((none:Option bJ),false))
  else((iO a b c d e f i) (w64 (j+1)) k (dE (aB.mk g.Round g.Place) g l))))
  else(uW a d e f k l)
def vP(a:aD)(b:List aA)(Q:((Option bJ)×Bool)->Prop):Prop:=
  nb (kQ a.Slots) λc=>
  iO Q b (b.length:Int) c ([]:List (aB×Int)) a BIG 0 ([]:List (aA×Int)) ([]:List (aB×aA))
def kG(a:aD)(b:List aA)(Q:((Option bJ)×Int)->Prop):Prop:=
  nb (tQ a) λc=>
  bif !c then(Q ((none:Option bJ),70))
  else(nb (bif decide (60<(b.length:Int)) then(some true) else((iF b (λd=>tR d a)).bind λe=>
  some e)) λf=>
  bif f then(Q ((none:Option bJ),71))
  else(vP a b λg=>
  bif !g.2 then(Q ((none:Option bJ),72))
  else(Q (g.1,0))))
def pY(a:bJ)(b:aB)(c:Int):Option Int:=
  bif decide (b.round=0) then((idx a.players (w64 ((w64 (2*b.place))+c))).bind λd=>
  some d)
  else(bif cR (aB.mk (w64 (b.round-1)) (w64 ((w64 (2*b.place))+c))) a.won then(some (bW (aB.mk (w64 (b.round-1)) (w64 ((w64 (2*b.place))+c))) 0 a.won))
  else(some (-2)))
def rV{S:Type}(_:S->aB->aG->Option S)(a:Int->S->Option S)(_:bJ)(_:Int)(b:Int)(c:S):Option S:=
  a (w64 (b+1)) c
def kZ{S:Type}(a:S->aB->aG->Option S)(b:Int->S->Option S)(c:bJ)(d:Int)(e:Int)(f:S):Option S:=
  rV a b c d e f
def fE{S:Type}(a:S->aB->aG->Option S)(b:Int->S->Option S)(c:bJ)(d:Int)(e:Int)(f:Int)(g:Int):Nat->Int->S->Option S
 |0,_,_=>none
 | k+1,l,m=>
  bif decide (l<g) then((pY c (aB.mk d l) 0).bind λh=>
  (pY c (aB.mk d l) 1).bind λi=>
  (a m (aB.mk d l) (aG.mk d l h i)).bind λj=>
  (fE a b c d e f g k) (w64 (l+1)) j)
  else(kZ a b c e f m)
def rU{S:Type}(_:S->aB->aG->Option S)(a:S):Option S:=
  some a
def cZ{S:Type}(a:S->aB->aG->Option S)(b:bJ)(c:Int):Nat->Int->S->Option S
 |0,_,_=>none
 | d+1,e,f=>
  bif decide (e<c) then((chk (decide (0<=(w64 (e+1))))).bind λ_=>
  fE a (cZ a b c d) b e c e ((b.Tree.Slots.length:Int).fdiv (2^(min (w64 (e+1)).toNat 64))) BIG 0 f)
  else(rU a f)
def iQ{S:Type}(a:bJ)(b:S->aB->aG->Option S)(c:S):Option S:=
  cZ b a a.Tree.Rounds BIG 0 c
def vM(a:aD)(b:List aA)(Q:((List aG)×Int)->Prop):Prop:=
  kG a b λc=>
  bif !decide (c.2=0) then(Q (([]:List aG),c.2))
  else(nb (c.1) λd=>
  nb (iQ (S:=(List aG)) d (λe _ f=>
  (app 32 e ([f])).bind λg=>
  some g) ([]:List aG)) λh=>
  Q (h,0))
def nR:Option Int:=
  some (-1)
def eG(a:List bR)(b:bR->Option Bool)(c:Int):Nat->Int->Option Int
 |0,_=>none
 | f+1,g=>
  bif decide (g<c) then((idx a g).bind λd=>
  (b d).bind λe=>
  bif e then(some g)
  else((eG a b c f) (w64 (g+1))))
  else(nR)
def jC(a:List bR)(b:bR->Option Bool):Option Int:=
  eG a b (a.length:Int) BIG 0
def gT(a:List bR)(b:bR->Option Bool):Option Bool:=
  (jC a b).bind λc=>
  some (decide (0<=c))
def jH(a:Int)(b:Int)(c:Int):Option Bool:=
  (bif decide (b<=a) then(some (decide (a<=c))) else(some false)).bind λd=>
  some d
def wD(a:bO)(b:Int)(c:Int):Option Bool:=
  (bif decide (a.Low<=a.High) then((jH a.Low b c).bind λd=>
  some d) else(some false)).bind λe=>
  (bif e then((jH a.High b c).bind λf=>
  some f) else(some false)).bind λg=>
  some g
def rC(a:bO)(b:Int):Option Bool:=
  (wD a 1 600).bind λc=>
  (bif c then((jH b 0 2).bind λd=>
  some d) else(some false)).bind λe=>
  some e
def aFf(a:bR):Option Bool:=
  (rC a.Length a.Due).bind λb=>
  some (!b)
def uY(a:aD)(b:List aA)(c:Int)(d:Int)(Q:((Option bJ)×aB×Int)->Prop):Prop:=
  kG a b λe=>
  nb (bif decide (e.2=0) then((qY (aB.mk c d) a).bind λf=>
  some (!f)) else(some false)) λg=>
  bif g then(Q (e.1,(aB.mk c d),1))
  else(Q (e.1,(aB.mk c d),e.2))
def tP(a:aD)(b:List aA)(c:Int)(d:Int)(Q:(Int×Int)->Prop):Prop:=
  uY a b c d λe=>
  bif !decide (e.2.2=0) then(Q (0,e.2.2))
  else(nb (e.1) λf=>
  bif !(cR e.2.1 f.won) then(Q (0,3))
  else(Q (bW e.2.1 0 f.won,0)))
def sE(a:aD)(b:List aA):Option ((List aG)×Int):=kH a b
def uZ(a:aD)(b:List aA)(c:Int)(d:Int):Option (Int×Int):=fH a b c d
def aCs(a:Int->(List bK)->(List aG)->Option ((List bK)×(List aG)×Int))(_:List aA)(_:List bR)(_:List aG)(_:Int)(b:Int)(_:aD)(c:List bK)(d:List aG):Option ((List bK)×(List aG)×Int):=
  a (w64 (b+1)) c d
def aJj(a:Int->(List bK)->(List aG)->Option ((List bK)×(List aG)×Int))(b:List aA)(c:List bR)(d:List aG)(e:Int)(f:Int)(g:aD)(h:List bK)(i:List aG)(j:aG)(k:List Int)(l:bO)(m:List Int)(n:Int)(o:Int):Option ((List bK)×(List aG)×Int):=
  (app 80 h ([(bK.mk l k m n o)])).bind λp=>
  (app 32 i ([j])).bind λq=>
  aCs a b c d e f g p q
def rB(a:Int->(List bK)->(List aG)->Option ((List bK)×(List aG)×Int))(b:List aA)(c:List bR)(d:List aG)(e:Int)(f:Int)(g:Int)(h:aD)(i:List bK)(j:List aG)(k:aG):Nat->Int->(List Int)->bO->(List Int)->Int->Int->Option ((List bK)×(List aG)×Int)
 |0,_,_,_,_,_,_=>none
 | o+1,p,q,r,s,t,u=>
  bif decide (p<g) then((idx j p).bind λl=>
  (bif decide (l.Round=(w64 (k.Round-1))) then(some (decide ((w64 (l.Place.tdiv 2))=k.Place))) else(some false)).bind λm=>
  bif m then((app 8 q ([p])).bind λn=>
  (rB a b c d e f g h i j k o) (w64 (p+1)) n r s t u)
  else((rB a b c d e f g h i j k o) (w64 (p+1)) q r s t u))
  else(aJj a b c d e f h i j k q r s t u)
def aCr(a:List bK)(b:List aG):Option ((List bK)×(List aG)×Int):=
  bif decide (6<(a.length:Int)) then(some (([]:List bK),([]:List aG),2))
  else(some (a,b,0))
def lM(a:List aA)(b:List bR)(c:List aG)(d:Int)(e:aD):Nat->Int->(List bK)->(List aG)->Option ((List bK)×(List aG)×Int)
 |0,_,_,_=>none
 | j+1,k,l,m=>
  bif decide (k<d) then((idx c k).bind λf=>
  (uZ e a f.Round f.Place).bind λg=>
  bif decide (g.2=0) then(aCs (lM a b c d e j) a b c d k e l m)
  else((idx b f.Round).bind λh=>
  (idx b f.Round).bind λi=>
  rB (lM a b c d e j) a b c d k (m.length:Int) e l m f BIG 0 ([]:List Int) h.Length ([]:List Int) i.Due 0))
  else(aCr l m)
def oW(a:aD)(b:List aA)(c:List bR):Option ((List bK)×(List aG)×Int):=
  (sE a b).bind λd=>
  bif !decide (d.2=0) then(some (([]:List bK),([]:List aG),d.2))
  else((bif !decide ((c.length:Int)=a.Rounds) then(some true) else((gT c (λe=>aFf e)).bind λf=>
  some f)).bind λg=>
  bif g then(some (([]:List bK),([]:List aG),82))
  else(lM b c d.1 (d.1.length:Int) a BIG 0 ([]:List bK) ([]:List aG)))
def oS(a:Int)(b:Int)(c:Int):Option Bool:=
  (bif decide (b<=a) then(some (decide (a<=c))) else(some false)).bind λd=>
  some d
def aGl(a:oA):Option Bool:=
  (oS a.Places 1 32).bind λb=>
  (bif b then((oS a.Wilds 0 32).bind λc=>
  some c) else(some false)).bind λd=>
  (bif d then((oS a.Guards 0 32).bind λe=>
  some e) else(some false)).bind λf=>
  (bif f then((oS a.Close 0 9999).bind λg=>
  some g) else(some false)).bind λh=>
  (bif h then((oS a.Freeze a.Close 9999).bind λi=>
  some i) else(some false)).bind λj=>
  some j
def bBy:Option Int:=
  some 0
def aEf(_:List mC)(a:Int)(_:List (Int×mC)):Nat->Int->Option Int
 |0,_=>none
 | _+1,b=>
  bif decide (b<a) then(none)
  else(bBy)
def aFb(a:oA)(b:List mC):Option Int:=
  (aGl a).bind λc=>
  bif !c then(some 50)
  else(bif decide (60<(b.length:Int)) then(none)
  else(aEf b (b.length:Int) ([]:List (Int×mC)) BIG 0))
def oI:Option Int:=
  some (-1)
def eO(a:List bO)(b:bO->Option Bool)(c:Int):Nat->Int->Option Int
 |0,_=>none
 | f+1,g=>
  bif decide (g<c) then((idx a g).bind λd=>
  (b d).bind λe=>
  bif e then(some g)
  else((eO a b c f) (w64 (g+1))))
  else(oI)
def jW(a:List bO)(b:bO->Option Bool):Option Int:=
  eO a b (a.length:Int) BIG 0
def iG(a:List bO)(b:bO->Option Bool):Option Bool:=
  (jW a b).bind λc=>
  some (decide (0<=c))
def aCq(a:bO):Option Bool:=
  (wD a 0 1440).bind λb=>
  some (!b)
def aKt:Option Bool:=
  some true
def pL(a:List Int)(b:Int)(c:List Int)(d:Int):Nat->Int->Option Bool
 |0,_=>none
 | j+1,k=>
  bif decide (k<d) then((idx c k).bind λe=>
  (jH e 0 (w64 (b-1))).bind λf=>
  (bif !f then(some true) else((bif decide (0<k) then((idx a (w64 (k-1))).bind λg=>
  some (decide (e<=g))) else(some false)).bind λh=>
  some h)).bind λi=>
  bif i then(some false)
  else((pL a b c d j) (w64 (k+1))))
  else(aKt)
def xU(a:List Int)(b:Int):Option Bool:=
  pL a b a (a.length:Int) BIG 0
def aQg:Option Int:=
  some 0
def sA(a:List bK)(b:Int)(c:aH):Nat->Int->Option Int
 |0,_=>none
 | n+1,o=>
  bif decide (o<b) then((idx a o).bind λd=>
  (rC d.Length d.Due).bind λe=>
  (bif !e then(some true) else((jH d.Earliest 0 1440).bind λf=>
  some (!f))).bind λg=>
  (bif g then(some true) else((xU d.After o).bind λh=>
  some (!h))).bind λi=>
  (bif i then(some true) else((xU d.With (c.Jobs.length:Int)).bind λj=>
  some (!j))).bind λk=>
  (bif k then(some true) else((cJ d.With o).bind λl=>
  some l)).bind λm=>
  bif m then(some 80)
  else((sA a b c n) (w64 (o+1))))
  else(aQg)
def zX(a:aH):Option Int:=
  sA a.Jobs (a.Jobs.length:Int) a BIG 0
def pS(a:List (List bO))(b:Int)(c:aH):Nat->Int->Option Int
 |0,_=>none
 | j+1,k=>
  bif decide (k<b) then((idx a k).bind λd=>
  (jH (d.length:Int) 1 3).bind λe=>
  (bif !e then(some true) else((idx c.Days 0).bind λf=>
  some (!decide ((d.length:Int)=(f.length:Int))))).bind λg=>
  bif g then(some 80)
  else((iG d (λh=>aCq h)).bind λi=>
  bif i then(some 80)
  else((pS a b c j) (w64 (k+1)))))
  else(zX c)
def sS(a:aH):Option Int:=
  (jH (a.Days.length:Int) 1 3).bind λb=>
  (bif !b then(some true) else((jH a.Rest 0 600).bind λc=>
  some (!c))).bind λd=>
  (bif d then(some true) else(some (decide (6<(a.Jobs.length:Int))))).bind λe=>
  bif e then(some 80)
  else(pS a.Days (a.Days.length:Int) a BIG 0)
def vN(a:aD)(b:List aA)(Q:Int->Prop):Prop:=
  kG a b λc=>
  Q c.2
def nA(a:Int)(b:Int)(c:Int):Option Bool:=
  (bif decide (b<=a) then(some (decide (a<=c))) else(some false)).bind λd=>
  some d
def vY(a:Int)(b:dC):Option Bool:=
  (bif decide (a=(-1)) then(some true) else(some (decide (a=0)))).bind λc=>
  (bif c then(some true) else(some (decide (a=(w64 (b.Games-1)))))).bind λd=>
  (bif d then(some true) else(some (decide (a=b.Games)))).bind λe=>
  some e
def wE(a:dC):Option Int:=
  (nA a.Sets 1 3).bind λb=>
  (bif b then((nA a.Games 1 8).bind λc=>
  some c) else(some false)).bind λd=>
  (bif d then((vY a.Tie a).bind λe=>
  some e) else(some false)).bind λf=>
  (bif f then((vY a.LastTie a).bind λg=>
  some g) else(some false)).bind λh=>
  (bif h then((nA a.To 1 15).bind λi=>
  some i) else(some false)).bind λj=>
  (bif j then((nA a.LastTo 1 15).bind λk=>
  some k) else(some false)).bind λl=>
  (bif l then((nA a.First 0 20).bind λm=>
  some m) else(some false)).bind λn=>
  (bif n then((nA a.Then 0 20).bind λo=>
  some o) else(some false)).bind λp=>
  bif p then(some 0)
  else(some 10)
def pD(a:aD)(b:List aA):Option Int:=eM a b
def sB(a:dK):Option Int:=
  (oW a.Tree ([]:List aA) a.Stages).bind λb=>
  (aFb a.Field ([]:List mC)).bind λc=>
  bif !decide (c=0) then(bif !decide (c=0) then(some 120)
  else((sS (aH.mk a.Days a.Rest ([]:List bK))).bind λd=>
  bif !decide (d=0) then(bif !decide (d=0) then(some 120)
  else(some 0))
  else((bif !decide (b.2.2=0) then(some (!decide (b.2.2=2))) else(some false)).bind λe=>
  bif e then(some 120)
  else(some 0))))
  else((pD a.Tree ([]:List aA)).bind λf=>
  bif !decide (f=0) then(bif !decide (f=0) then(some 120)
  else((sS (aH.mk a.Days a.Rest ([]:List bK))).bind λg=>
  bif !decide (g=0) then(bif !decide (g=0) then(some 120)
  else(some 0))
  else((bif !decide (b.2.2=0) then(some (!decide (b.2.2=2))) else(some false)).bind λh=>
  bif h then(some 120)
  else(some 0))))
  else((wE a.Format).bind λi=>
  bif !decide (i=0) then(some 120)
  else((sS (aH.mk a.Days a.Rest ([]:List bK))).bind λj=>
  bif !decide (j=0) then(bif !decide (j=0) then(some 120)
  else(some 0))
  else((bif !decide (b.2.2=0) then(some (!decide (b.2.2=2))) else(some false)).bind λk=>
  bif k then(some 120)
  else(some 0)))))
def vO(a:aD)(b:List aA)(Q:((List aG)×Int)->Prop):Prop:=
  kG a b λc=>
  bif !decide (c.2=0) then(Q (([]:List aG),c.2))
  else(nb (c.1) λd=>
  nb (iQ (S:=(List aG)) d (λe f g=>
  (c.1).bind λh=>
  (bif !(cR f h.won) then(some (decide (0<=(min g.One g.Two)))) else(some false)).bind λi=>
  bif i then((app 32 e ([g])).bind λj=>
  some j)
  else(some e)) ([]:List aG)) λk=>
  Q (k,0))
def uK:Option Int:=
  some (-1)
def fS(a:List aG)(b:aG->Option Bool)(c:Int):Nat->Int->Option Int
 |0,_=>none
 | f+1,g=>
  bif decide (g<c) then((idx a g).bind λd=>
  (b d).bind λe=>
  bif e then(some g)
  else((fS a b c f) (w64 (g+1))))
  else(uK)
def mL(a:List aG)(b:aG->Option Bool):Option Int:=
  fS a b (a.length:Int) BIG 0
def qI(a:aG)(b:Int)(c:Int):Option Bool:=
  (bif decide (a.Round=b) then(some (decide (a.Place=c))) else(some false)).bind λd=>
  some d
def pE(a:aD)(b:List aA):Option ((List aG)×Int):=oB a b
def oZ(a:aJ)(b:Int)(c:Int):Option (aG×Bool):=
  (pE a.Desk.Tree a.Register.Slips).bind λd=>
  (mL d.1 (λe=>qI e b c)).bind λf=>
  bif decide (f<0) then(some ((aG.mk 0 0 0 0),false))
  else((idx d.1 f).bind λg=>
  some (g,true))
def iX(a:aJ):Option Bool:=
  some (decide (0<=a.Register.Round))
def lG(a:aJ)(b:Int)(c:Int)(d:Int):Option (Str×aJ):=
  (oZ a b c).bind λe=>
  (iX a).bind λf=>
  (bif f then(some true) else(some (decide (1<d)))).bind λg=>
  (bif g then(some true) else(some (!e.2))).bind λh=>
  bif h then(some (([110,111]:Str),a))
  else(some (([111,107]:Str),(aJ.mk a.Desk (dJ.mk a.Register.Hour a.Register.Notices a.Register.Slips b c d a.Register.Points a.Register.Days) e.1)))
def strconv_Itoa(n:Int):Option Str:=aZb n
def lY(a:aJ)(b:Int)(c:Int):Option (Str×aJ):=
  bif decide (60<=(a.Register.Slips.length:Int)) then(some (([102,117,108,108]:Str),a))
  else(bif decide (b=1) then((app 40 a.Register.Slips ([(aA.mk c a.Register.Round a.Register.Place a.bout.Two 0)])).bind λd=>
  (strconv_Itoa a.bout.Two).bind λe=>
  some (e,(aJ.mk a.Desk (dJ.mk a.Register.Hour a.Register.Notices d (-1) (-1) 0 ([]:List Int) a.Register.Days) a.bout)))
  else((app 40 a.Register.Slips ([(aA.mk c a.Register.Round a.Register.Place a.bout.One 0)])).bind λf=>
  (strconv_Itoa a.bout.One).bind λg=>
  some (g,(aJ.mk a.Desk (dJ.mk a.Register.Hour a.Register.Notices f (-1) (-1) 0 ([]:List Int) a.Register.Days) a.bout))))
def fW(a:aJ)(b:Int)(c:Int):Option (Str×aJ):=
  (iX a).bind λd=>
  (bif !d then(some true) else(some (decide (1<b)))).bind λe=>
  bif e then(some (([110,111]:Str),a))
  else((lY a (w64 (1-b)) c).bind λf=>
  some (f.1,f.2))
def xB(b:aD)(c:List aA)(Q:(Int×Int)->Prop):Prop:=
  kG b c λd=>
  bif !decide (d.2=0) then(Q (0,d.2))
  else(nb (d.1) λe=>
  nb (d.1) λf=>
  Q (w64 ((w64 ((e.Tree.Slots.length:Int)-1))-(((f.won.map λp:aB×Int=>((λa:aB=>Value.agg ((aN a).map bD).toArray) p.1,aP p.2))).length:Int)),0))
def tT(a:aD)(b:List aA):Option (Int×Int):=pF a b
def nI(a:aJ):Option Str:=
  (tT a.Desk.Tree a.Register.Slips).bind λb=>
  (strconv_Itoa b.1).bind λc=>
  some c
def vG(a:aJ):Option (aH×Bool):=
  (oW a.Desk.Tree a.Register.Slips a.Desk.Stages).bind λb=>
  some ((aH.mk a.Register.Days a.Desk.Rest b.1),decide (b.2.2=0))
def qC(a:aJ):Option Str:=
  (vG a).bind λb=>
  bif !b.2 then(some ([102,117,108,108]:Str))
  else((strconv_Itoa (b.1.Jobs.length:Int)).bind λc=>
  some c)
def aDc(a:iN)(b:aS):Option uU:=
  (bif decide (b.A=(w64 (a.Format.Sets-1))) then(some (decide (b.B=(w64 (a.Format.Sets-1))))) else(some false)).bind λc=>
  bif c then(some (uU.mk a.Format.LastTie a.Format.LastTo))
  else(some (uU.mk a.Format.Tie a.Format.To))
def aJt(a:uU)(b:aS):Option Bool:=
  (bif decide (b.A=a.tie) then(some (decide (b.B=a.tie))) else(some false)).bind λc=>
  some c
def sW(a:bB):Option Int:=
  some (w64 ((a.ties.length:Int)-1))
def aDb(a:iN)(b:Int):Option Bool:=
  (bif decide (0<a.Format.First) then((bif decide ((w64 (b-a.Format.First))=0) then(some true) else((bif decide (0<(w64 (b-a.Format.First))) then(some (decide (0<a.Format.Then))) else(some false)).bind λc=>
  (bif c then((chk (!decide (a.Format.Then=0))).bind λ_=>
  some (decide (((w64 (b-a.Format.First)).tmod a.Format.Then)=0))) else(some false)).bind λd=>
  some d)).bind λe=>
  some e) else(some false)).bind λf=>
  some f
def zH(a:bB):Option Bool:=
  (sW a).bind λb=>
  (idx a.ties b).bind λc=>
  (bif !c then((aDb a.rules b).bind λd=>
  some d) else(some false)).bind λe=>
  (bif e then(some true) else((bif decide (2<=b) then((idx a.ties (w64 (b-2))).bind λf=>
  some f) else(some false)).bind λg=>
  (bif g then((aDb a.rules (w64 (b-2))).bind λh=>
  some h) else(some false)).bind λi=>
  some i)).bind λj=>
  some j
def mJ(a:bB)(b:Int):Option Int:=
  (sW a).bind λc=>
  (idx a.ties c).bind λd=>
  bif d then(bif !a.rules.Format.Doubles then(some ((w64 ((w64 (a.first+c))+(w64 ((w64 (b+1)).tdiv 2)))).tmod 2))
  else(some (w64 (((w64 ((w64 (a.first+c))+(w64 ((w64 (b+1)).tdiv 2)))).tmod 2)+(w64 (2*((w64 ((w64 ((w64 (c+((w64 ((w64 (b+1)).tdiv 2)).tmod 2))).tdiv 2))+(w64 ((w64 ((w64 (b+1)).tdiv 2)).tdiv 2)))).tmod 2)))))))
  else(bif !a.rules.Format.Doubles then(some ((w64 ((w64 (a.first+c))+0)).tmod 2))
  else(some (w64 (((w64 ((w64 (a.first+c))+0)).tmod 2)+(w64 (2*((w64 ((w64 ((w64 (c+((0:Int).tmod 2))).tdiv 2))+(w64 ((0:Int).tdiv 2)))).tmod 2)))))))
def kO(a:bB):Option bB:=
  bif decide (0<=a.Score.Winner) then(some (bB.mk a.rules (dN.mk a.Score.Board (-1) a.Score.Ends a.Score.Balls a.Score.Winner) a.first a.won a.ties a.games))
  else((aDc a.rules a.won).bind λb=>
  (aJt b a.Score.Board.Games).bind λc=>
  (app 1 a.ties ([c])).bind λd=>
  (zH (bB.mk a.rules a.Score a.first a.won d a.games)).bind λe=>
  bif e then((mJ (bB.mk a.rules (dN.mk a.Score.Board a.Score.Server a.Score.Ends (w64 (a.Score.Balls+1)) a.Score.Winner) a.first a.won d a.games) 0).bind λf=>
  some (bB.mk a.rules (dN.mk a.Score.Board f a.Score.Ends (w64 (a.Score.Balls+1)) a.Score.Winner) a.first a.won d a.games))
  else((mJ (bB.mk a.rules a.Score a.first a.won d a.games) 0).bind λg=>
  some (bB.mk a.rules (dN.mk a.Score.Board g a.Score.Ends a.Score.Balls a.Score.Winner) a.first a.won d a.games)))
def aLt(a:iN)(b:Int):Option bB:=
  (kO (bB.mk a (dN.mk (eL.mk ([]:List aS) (aS.mk 0 0) (aS.mk 0 0)) 0 0 0 (-1)) b (aS.mk 0 0) ([]:List Bool) ([]:List yI))).bind λc=>
  some c
def aKz(a:aS)(b:Int):Option aS:=
  bif decide (b=0) then(some (aS.mk (w64 (a.A+1)) a.B))
  else(some (aS.mk a.A (w64 (a.B+1))))
def aGc(a:aS):Option Int:=
  some (w64 (a.A+a.B))
def zR(a:aS)(b:Int)(c:Int):Option Int:=
  (bif decide (b<=a.A) then(some (decide (c<=(w64 (a.A-a.B))))) else(some false)).bind λd=>
  bif d then(some 0)
  else((bif decide (b<=a.B) then(some (decide (c<=(w64 (a.B-a.A))))) else(some false)).bind λe=>
  bif e then(some 1)
  else(some (-1)))
def aJs(a:iN)(b:uU)(c:Bool)(d:aS):Option Int:=
  bif c then((zR d b.to 2).bind λe=>
  some e)
  else(bif a.Format.NoAd then((zR d 4 1).bind λf=>
  some f)
  else((zR d 4 2).bind λg=>
  some g))
def zI(a:bB)(b:Int):Option bB:=
  (aDc a.rules a.won).bind λc=>
  (sW a).bind λd=>
  (idx a.ties d).bind λe=>
  (aKz a.Score.Board.Points b).bind λf=>
  (aGc f).bind λg=>
  (aJs a.rules c e f).bind λh=>
  bif decide (h<0) then((bif e then(some (decide ((g.tmod 6)=0))) else(some false)).bind λi=>
  bif i then((mJ (bB.mk a.rules (dN.mk (eL.mk a.Score.Board.Sets a.Score.Board.Games f) a.Score.Server (w64 (a.Score.Ends+1)) a.Score.Balls a.Score.Winner) a.first a.won a.ties a.games) g).bind λj=>
  some (bB.mk a.rules (dN.mk (eL.mk a.Score.Board.Sets a.Score.Board.Games f) j (w64 (a.Score.Ends+1)) a.Score.Balls a.Score.Winner) a.first a.won a.ties a.games))
  else((mJ (bB.mk a.rules (dN.mk (eL.mk a.Score.Board.Sets a.Score.Board.Games f) a.Score.Server a.Score.Ends a.Score.Balls a.Score.Winner) a.first a.won a.ties a.games) g).bind λk=>
  some (bB.mk a.rules (dN.mk (eL.mk a.Score.Board.Sets a.Score.Board.Games f) k a.Score.Ends a.Score.Balls a.Score.Winner) a.first a.won a.ties a.games)))
  else((mJ (bB.mk a.rules (dN.mk (eL.mk a.Score.Board.Sets a.Score.Board.Games f) a.Score.Server a.Score.Ends a.Score.Balls a.Score.Winner) a.first a.won a.ties a.games) 0).bind λl=>
  (zH (bB.mk a.rules (dN.mk (eL.mk a.Score.Board.Sets a.Score.Board.Games f) a.Score.Server a.Score.Ends a.Score.Balls a.Score.Winner) a.first a.won a.ties a.games)).bind λm=>
  (app 56 a.games ([(yI.mk (a.Score.Board.Sets.length:Int) e l h f m)])).bind λn=>
  (aKz a.Score.Board.Games h).bind λo=>
  (bif e then(some true) else((zR o a.rules.Format.Games 2).bind λp=>
  some (decide (0<=p)))).bind λq=>
  bif q then((app 16 a.Score.Board.Sets ([o])).bind λr=>
  (aKz a.won h).bind λs=>
  bif decide ((max s.A s.B)=a.rules.Format.Sets) then((aGc o).bind λt=>
  (bif decide ((t.tmod 2)=1) then(some (decide (h<0))) else(some false)).bind λu=>
  bif u then((kO (bB.mk a.rules (dN.mk (eL.mk r (aS.mk 0 0) (aS.mk 0 0)) a.Score.Server (w64 (a.Score.Ends+1)) a.Score.Balls h) a.first s a.ties n)).bind λv=>
  some v)
  else((kO (bB.mk a.rules (dN.mk (eL.mk r (aS.mk 0 0) (aS.mk 0 0)) a.Score.Server a.Score.Ends a.Score.Balls h) a.first s a.ties n)).bind λw=>
  some w))
  else((aGc o).bind λx=>
  (bif decide ((x.tmod 2)=1) then(some (decide (a.Score.Winner<0))) else(some false)).bind λy=>
  bif y then((kO (bB.mk a.rules (dN.mk (eL.mk r (aS.mk 0 0) (aS.mk 0 0)) a.Score.Server (w64 (a.Score.Ends+1)) a.Score.Balls a.Score.Winner) a.first s a.ties n)).bind λz=>
  some z)
  else((kO (bB.mk a.rules (dN.mk (eL.mk r (aS.mk 0 0) (aS.mk 0 0)) a.Score.Server a.Score.Ends a.Score.Balls a.Score.Winner) a.first s a.ties n)).bind λa0=>
  some a0)))
  else((aGc o).bind λa1=>
  (bif decide ((a1.tmod 2)=1) then(some (decide (a.Score.Winner<0))) else(some false)).bind λa2=>
  bif a2 then((kO (bB.mk a.rules (dN.mk (eL.mk a.Score.Board.Sets o (aS.mk 0 0)) a.Score.Server (w64 (a.Score.Ends+1)) a.Score.Balls a.Score.Winner) a.first a.won a.ties n)).bind λa3=>
  some a3)
  else((kO (bB.mk a.rules (dN.mk (eL.mk a.Score.Board.Sets o (aS.mk 0 0)) a.Score.Server a.Score.Ends a.Score.Balls a.Score.Winner) a.first a.won a.ties n)).bind λa4=>
  some a4)))
def aQm(a:List aS)(b:List Bool)(c:List yI)(d:iN)(e:aS)(f:aS)(g:Int)(h:Int)(i:Int)(j:Int)(k:Int)(l:aS):Option ((Option bB)×Int):=
  some ((some (bB.mk d (dN.mk (eL.mk a e f) g h i j) k l b c)),0)
def aAc(a:List Int)(b:Int):Nat->Int->(List aS)->(List Bool)->(List yI)->iN->aS->aS->Int->Int->Int->Int->Int->aS->Option ((Option bB)×Int)
 |0,_,_,_,_,_,_,_,_,_,_,_,_,_=>none
 | g+1,h,i,j,k,l,m,n,o,p,q,r,s,t=>
  bif decide (h<b) then((idx a h).bind λc=>
  (bif !decide (c=0) then(some (!decide (c=1))) else(some false)).bind λd=>
  (bif d then(some true) else(some (decide (0<=r)))).bind λe=>
  bif e then(some ((none:Option bB),11))
  else((zI (bB.mk l (dN.mk (eL.mk i m n) o p q r) s t j k) c).bind λf=>
  (aAc a b g) (w64 (h+1)) f.Score.Board.Sets f.ties f.games f.rules f.Score.Board.Games f.Score.Board.Points f.Score.Server f.Score.Ends f.Score.Balls f.Score.Winner f.first f.won))
  else(aQm i j k l m n o p q r s t)
def aHu(a:dC)(b:Int)(c:List Int):Option ((Option bB)×Int):=
  (wE a).bind λd=>
  bif !decide (d=0) then(some ((none:Option bB),d))
  else((bif !decide (b=0) then(some (!decide (b=1))) else(some false)).bind λe=>
  bif e then(some ((none:Option bB),1))
  else(bif decide (600<(c.length:Int)) then(some ((none:Option bB),2))
  else((aLt (iN.mk a) b).bind λf=>
  aAc c (c.length:Int) BIG 0 f.Score.Board.Sets f.ties f.games f.rules f.Score.Board.Games f.Score.Board.Points f.Score.Server f.Score.Ends f.Score.Balls f.Score.Winner f.first f.won)))
def aHt(a:dC)(b:Int)(c:List Int):Option (dN×Int):=
  (aHu a b c).bind λd=>
  bif !decide (d.2=0) then(some ((dN.mk (eL.mk ([]:List aS) (aS.mk 0 0) (aS.mk 0 0)) 0 0 0 0),d.2))
  else((d.1).bind λe=>
  some (e.Score,0))
def oY(a:aJ)(b:Int):Option (Str×aJ):=
  (iX a).bind λc=>
  (bif !c then(some true) else(some (decide (1<b)))).bind λd=>
  bif d then(some (([110,111]:Str),a))
  else(bif decide (600<=(a.Register.Points.length:Int)) then(some (([102,117,108,108]:Str),a))
  else((kQ a.Register.Points).bind λe=>
  (app 8 e ([b])).bind λf=>
  (aHt a.Desk.Format a.Register.First f).bind λg=>
  bif decide (0<=g.1.Winner) then((lY a g.1.Winner 1).bind λh=>
  some (h.1,h.2))
  else(some (([111,107]:Str),(aJ.mk a.Desk (dJ.mk a.Register.Hour a.Register.Notices a.Register.Slips a.Register.Round a.Register.Place a.Register.First f a.Register.Days) a.bout)))))
def strings_Split(s sep:Str):Option (List Str):=bKo s sep
def aUq(a:Int):Option (Int×Bool):=
  some (a,true)
def zG(a:List Int)(b:Int):Nat->Int->Int->Option (Int×Bool)
 |0,_,_=>none
 | e+1,f,g=>
  bif decide (g<b) then((idx a g).bind λc=>
  (bif decide (c<48) then(some true) else(some (decide (57<c)))).bind λd=>
  bif d then(some (0,false))
  else((zG a b e) (w64 ((w64 (10*f))+(w64 (IntKind.u8.wrap (c-48))))) (w64 (g+1))))
  else(aUq f)
def aMx(a:Str):Option (Int×Bool):=
  (bif decide (a=([]:Str)) then(some true) else(some (decide (6<(a.length:Int))))).bind λb=>
  (bif b then(some true) else((sat a 0).bind λc=>
  (bif decide (c=48) then(some (!decide (a=([48]:Str)))) else(some false)).bind λd=>
  some d)).bind λe=>
  bif e then(some (0,false))
  else((bPy a).bind λf=>
  zG f (f.length:Int) BIG 0 0)
def aWy(a:List Str)(b:List Int):Option (Str×(List Int)×Bool):=
  (idx a 0).bind λc=>
  some (c,b,true)
def aAo(a:List Str)(b:List Str)(c:Int):Nat->Int->(List Int)->Option (Str×(List Int)×Bool)
 |0,_,_=>none
 | g+1,h,i=>
  bif decide (h<c) then((idx b h).bind λd=>
  (aMx d).bind λe=>
  bif !e.2 then(some (([]:Str),([]:List Int),false))
  else((app 8 i ([e.1])).bind λf=>
  (aAo a b c g) (w64 (h+1)) f))
  else(aWy a i)
def sC(a:Str):Option (Str×(List Int)×Bool):=
  (strings_Split a ([32]:Str)).bind λb=>
  (sub b 1 (b.length:Int)).bind λc=>
  aAo b c (c.length:Int) BIG 0 ([]:List Int)
def jK(a:Int)(b:Int)(c:Int):Option Bool:=
  (bif decide (b<=a) then(some (decide (a<=c))) else(some false)).bind λd=>
  some d
def aQn:Option Int:=
  some 0
def wF(a:List mC):Nat->Int->Option Int
 |0,_=>none
 | _+1,b=>
  bif decide (b<(a.length:Int)) then(none)
  else(aQn)
def vC(a:oA)(b:List mC):Option Int:=
  (jK a.Places 1 32).bind λc=>
  (bif !c then(some true) else((jK a.Wilds 0 32).bind λd=>
  some (!d))).bind λe=>
  (bif e then(some true) else((jK a.Guards 0 32).bind λf=>
  some (!f))).bind λg=>
  (bif g then(some true) else((jK a.Close 0 9999).bind λh=>
  some (!h))).bind λi=>
  (bif i then(some true) else((jK a.Freeze a.Close 9999).bind λj=>
  some (!j))).bind λk=>
  bif k then(some 50)
  else(bif decide (60<(b.length:Int)) then(none)
  else(wF b BIG 0))
def gY(a:Int)(b:Int)(c:Int):Option Bool:=
  (bif decide (b<=a) then(some (decide (a<=c))) else(some false)).bind λd=>
  some d
def qZ(a:dC)(b:Int):Option Bool:=
  (bif decide (b=(-1)) then(some true) else(some (decide (b=0)))).bind λc=>
  (bif c then(some true) else(some (decide (b=(w64 (a.Games-1)))))).bind λd=>
  (bif d then(some true) else(some (decide (b=a.Games)))).bind λe=>
  some e
def vB(a:dC):Option Int:=
  (gY a.Sets 1 3).bind λb=>
  (bif !b then(some true) else((gY a.Games 1 8).bind λc=>
  some (!c))).bind λd=>
  (bif d then(some true) else((qZ a a.Tie).bind λe=>
  some (!e))).bind λf=>
  (bif f then(some true) else((qZ a a.LastTie).bind λg=>
  some (!g))).bind λh=>
  (bif h then(some true) else((gY a.To 1 15).bind λi=>
  some (!i))).bind λj=>
  (bif j then(some true) else((gY a.LastTo 1 15).bind λk=>
  some (!k))).bind λl=>
  (bif l then(some true) else((gY a.First 0 20).bind λm=>
  some (!m))).bind λn=>
  (bif n then(some true) else((gY a.Then 0 20).bind λo=>
  some (!o))).bind λp=>
  bif p then(some 10)
  else(some 0)
def cU(a:Int)(b:Int)(c:Int):Option Bool:=
  (bif decide (b<=a) then(some (decide (a<=c))) else(some false)).bind λd=>
  some d
def gW(a:bO):Option Bool:=
  (bif decide (1<=a.Low) then(some (decide (a.Low<=a.High))) else(some false)).bind λb=>
  (bif b then(some (decide (a.High<=600))) else(some false)).bind λc=>
  some c
def aDu:Option Bool:=
  some true
def lK(a:Int)(b:Int)(c:bK):Nat->Int->Option Bool
 |0,_=>none
 | l+1,m=>
  bif decide (m<(c.With.length:Int)) then((idx c.With m).bind λd=>
  (cU d 0 (w64 (b-1))).bind λe=>
  (bif !e then(some true) else((idx c.With m).bind λf=>
  some (decide (f=a)))).bind λg=>
  (bif g then(some true) else((bif decide (0<m) then((idx c.With m).bind λh=>
  (idx c.With (w64 (m-1))).bind λi=>
  some (decide (h<=i))) else(some false)).bind λj=>
  some j)).bind λk=>
  bif k then(some false)
  else((lK a b c l) (w64 (m+1))))
  else(aDu)
def rN(a:Int)(b:Int)(c:bK):Option Bool:=
  lK a b c BIG 0
def jQ(a:Int)(b:Int)(c:bK):Nat->Int->Option Bool
 |0,_=>none
 | j+1,k=>
  bif decide (k<(c.After.length:Int)) then((idx c.After k).bind λd=>
  (cU d 0 (w64 (a-1))).bind λe=>
  (bif !e then(some true) else((bif decide (0<k) then((idx c.After k).bind λf=>
  (idx c.After (w64 (k-1))).bind λg=>
  some (decide (f<=g))) else(some false)).bind λh=>
  some h)).bind λi=>
  bif i then(some false)
  else((jQ a b c j) (w64 (k+1))))
  else(rN a b c)
def vD(a:bK)(b:Int)(c:Int):Option Bool:=
  (gW a.Length).bind λd=>
  (bif !d then(some true) else((cU a.Due 0 2).bind λe=>
  some (!e))).bind λf=>
  (bif f then(some true) else((cU a.Earliest 0 1440).bind λg=>
  some (!g))).bind λh=>
  bif h then(some false)
  else(jQ b c a BIG 0)
def aDr(a:Int->Option Int)(b:Int)(_:aH):Option Int:=
  a (w64 (b+1))
def aDs(a:Int->Option Int)(b:Int)(c:aH):Option Int:=
  aDr a b c
def jP(a:Int->Option Int)(b:Int)(c:aH):Nat->Int->Option Int
 |0,_=>none
 | i+1,j=>
  (idx c.Days b).bind λd=>
  bif decide (j<(d.length:Int)) then((idx c.Days b).bind λe=>
  (idx e j).bind λf=>
  (bif decide (f.Low<0) then(some true) else(some (decide (f.High<f.Low)))).bind λg=>
  (bif g then(some true) else(some (decide (1440<f.High)))).bind λh=>
  bif h then(some 80)
  else((jP a b c i) (w64 (j+1))))
  else(aDs a b c)
def aDt:Option Int:=
  some 0
def lJ(a:aH):Nat->Int->Option Int
 |0,_=>none
 | d+1,e=>
  bif decide (e<(a.Jobs.length:Int)) then((idx a.Jobs e).bind λb=>
  (vD b e (a.Jobs.length:Int)).bind λc=>
  bif !c then(some 80)
  else((lJ a d) (w64 (e+1))))
  else(aDt)
def rM(a:aH):Option Int:=
  lJ a BIG 0
def eI(a:aH):Nat->Int->Option Int
 |0,_=>none
 | d+1,e=>
  bif decide (e<(a.Days.length:Int)) then((idx a.Days e).bind λb=>
  (idx a.Days 0).bind λc=>
  bif !decide ((b.length:Int)=(c.length:Int)) then(some 80)
  else(jP (eI a d) e a BIG 0))
  else(rM a)
def oE(a:aH):Option Int:=
  (cU (a.Days.length:Int) 1 3).bind λb=>
  (bif !b then(some true) else((idx a.Days 0).bind λc=>
  (cU (c.length:Int) 1 3).bind λd=>
  some (!d))).bind λe=>
  (bif e then(some true) else((cU a.Rest 0 600).bind λf=>
  some (!f))).bind λg=>
  (bif g then(some true) else(some (decide (6<(a.Jobs.length:Int))))).bind λh=>
  bif h then(some 80)
  else(eI a BIG 0)
def aFr(a:Int->(List bK)->Option ((List bK)×(List aG)×Int))(_:List bR)(b:Int)(_:List aG)(c:List bK):Option ((List bK)×(List aG)×Int):=
  a (w64 (b+1)) c
def xI(a:Int->(List bK)->Option ((List bK)×(List aG)×Int))(b:List bR)(c:Int)(d:List aG)(e:List bK)(f:List Int)(g:bO)(h:List Int)(i:Int)(j:Int):Option ((List bK)×(List aG)×Int):=
  (app 80 e ([(bK.mk g f h i j)])).bind λk=>
  aFr a b c d k
def kK(a:Int->(List bK)->Option ((List bK)×(List aG)×Int))(b:List bR)(c:Int)(d:List aG)(e:List bK):Nat->Int->(List Int)->bO->(List Int)->Int->Int->Option ((List bK)×(List aG)×Int)
 |0,_,_,_,_,_,_=>none
 | l+1,m,n,o,p,q,r=>
  bif decide (m<c) then((idx d m).bind λf=>
  (idx d c).bind λg=>
  (bif decide (f.Round=(w64 (g.Round-1))) then((idx d m).bind λh=>
  (idx d c).bind λi=>
  some (decide ((w64 (h.Place.tdiv 2))=i.Place))) else(some false)).bind λj=>
  bif j then((app 8 n ([m])).bind λk=>
  (kK a b c d e l) (w64 (m+1)) k o p q r)
  else((kK a b c d e l) (w64 (m+1)) n o p q r))
  else(xI a b c d e n o p q r)
def xH(a:List aG)(b:List bK):Option ((List bK)×(List aG)×Int):=
  some (b,a,0)
def fQ(a:List bR)(b:List aG):Nat->Int->(List bK)->Option ((List bK)×(List aG)×Int)
 |0,_,_=>none
 | g+1,h,i=>
  bif decide (h<(b.length:Int)) then((idx b h).bind λc=>
  (idx a c.Round).bind λd=>
  (idx b h).bind λe=>
  (idx a e.Round).bind λf=>
  kK (fQ a b g) a h b i BIG 0 ([]:List Int) d.Length ([]:List Int) f.Due 0)
  else(xH b i)
def oR(a:List bR)(b:List aG):Option ((List bK)×(List aG)×Int):=
  bif decide (6<(b.length:Int)) then(some (([]:List bK),([]:List aG),2))
  else(fQ a b BIG 0 ([]:List bK))
def iL(a:List aA)(b:List bR)(c:List aG)(d:aD):Nat->Int->(List aG)->Option ((List bK)×(List aG)×Int)
 |0,_,_=>none
 | j+1,k,l=>
  bif decide (k<(c.length:Int)) then((idx c k).bind λe=>
  (idx c k).bind λf=>
  (fH d a e.Round f.Place).bind λg=>
  bif decide (g.2=3) then((idx c k).bind λh=>
  (app 32 l ([h])).bind λi=>
  (iL a b c d j) (w64 (k+1)) i)
  else((iL a b c d j) (w64 (k+1)) l))
  else(oR b l)
def mI(a:List aA)(b:List bR)(c:aD):Option ((List bK)×(List aG)×Int):=
  (kH c a).bind λd=>
  iL a b d.1 c BIG 0 ([]:List aG)
def iK(a:List aA)(b:List bR)(c:aD):Nat->Int->Option ((List bK)×(List aG)×Int)
 |0,_=>none
 | i+1,j=>
  bif decide (j<(b.length:Int)) then((idx b j).bind λd=>
  (gW d.Length).bind λe=>
  (bif !e then(some true) else((idx b j).bind λf=>
  (cU f.Due 0 2).bind λg=>
  some (!g))).bind λh=>
  bif h then(some (([]:List bK),([]:List aG),82))
  else((iK a b c i) (w64 (j+1))))
  else(mI a b c)
def mS(a:aD)(b:List aA)(c:List bR):Option ((List bK)×(List aG)×Int):=
  (eM a b).bind λd=>
  bif !decide (d=0) then(some (([]:List bK),([]:List aG),d))
  else(bif !decide ((c.length:Int)=a.Rounds) then(some (([]:List bK),([]:List aG),82))
  else(iK b c a BIG 0))
def oF(a:dK):Option Int:=
  (vC a.Field ([]:List mC)).bind λb=>
  (bif !decide (b=0) then(some true) else((eM a.Tree ([]:List aA)).bind λc=>
  some (!decide (c=0)))).bind λd=>
  (bif d then(some true) else((vB a.Format).bind λe=>
  some (!decide (e=0)))).bind λf=>
  (bif f then(some true) else((oE (aH.mk a.Days a.Rest ([]:List bK))).bind λg=>
  some (!decide (g=0)))).bind λh=>
  bif h then(some 120)
  else((mS a.Tree ([]:List aA) a.Stages).bind λi=>
  (bif !decide (i.2.2=0) then(some (!decide (i.2.2=2))) else(some false)).bind λj=>
  bif j then(some 120)
  else(some 0))
def aUl:Option Bool:=
  some false
def zF(a:List Str):Nat->Int->Option Bool
 |0,_=>none
 | c+1,d=>
  bif decide (d<(a.length:Int)) then((idx a d).bind λb=>
  bif decide (60<(b.length:Int)) then(some true)
  else((zF a c) (w64 (d+1))))
  else(aUl)
def aGz(a:List Str):Option Bool:=
  zF a BIG 0
def nF(a:List Str)(b:dK):Nat->Int->Option Bool
 |0,_=>none
 | d+1,e=>
  bif decide (e<(b.Days.length:Int)) then((idx b.Days e).bind λc=>
  bif decide (2<(c.length:Int)) then(some true)
  else((nF a b d) (w64 (e+1))))
  else(aGz a)
def yM(a:dK)(b:List Str):Option Bool:=
  (bif decide (8<(a.Tree.Slots.length:Int)) then(some true) else(some (decide (2<(a.Days.length:Int))))).bind λc=>
  (bif c then(some true) else(some (decide (10<(a.Stages.length:Int))))).bind λd=>
  (bif d then(some true) else(some (decide (100<(b.length:Int))))).bind λe=>
  (bif e then(some true) else((bif decide (20<(b.length:Int)) then(some (decide ((b.length:Int)<=80))) else(some false)).bind λf=>
  some f)).bind λg=>
  bif g then(some true)
  else(nF b a BIG 0)
def aJk(_:cE)(a:cE):Option cE:=
  some a
def oX(a:List bO)(b:Int)(c:cE):Nat->Int->cE->Option cE
 |0,_,_=>none
 | e+1,f,g=>
  bif decide (f<b) then((idx a f).bind λd=>
  (inb 3 f).bind λ_=>
  (oX a b c e) (w64 (f+1)) (cE.mk g.number (g.free.set f d.Low) g.ends))
  else(aJk c g)
def uP(a:aH)(b:Int):Option cE:=
  (idx a.Days b).bind λc=>
  oX c (c.length:Int) (cE.mk 0 (A3.mk 0 0 0) (A6.mk 0 0 0 0 0 0)) BIG 0 (cE.mk b (A3.mk 0 0 0) (A6.mk 0 0 0 0 0 0))
def uC(a:aE)(b:Int):Option Bool:=
  (chk (decide (0<=b))).bind λ_=>
  some (decide ((bYs (a.done.fdiv (2^(min b.toNat 64))) 1)=1))
def yC:Option Int:=
  some (-1)
def iH(a:List aF)(b:Int)(c:aF):Nat->Int->Option Int
 |0,_=>none
 | e+1,f=>
  bif decide (f<b) then((idx a f).bind λd=>
  bif decide (c=d) then(some f)
  else((iH a b c e) (w64 (f+1))))
  else(yC)
def pP(a:List aF)(b:aF):Option Int:=
  iH a (a.length:Int) b BIG 0
def nB(a:List aF)(b:aF):Option Bool:=
  (pP a b).bind λc=>
  some (decide (0<=c))
def oG(a:dQ)(b:aF):Option Int:=
  (bif a.old.isNone then(some true) else((nB (a.old.getD []) b).bind λc=>
  some c)).bind λd=>
  bif d then(some 0)
  else(some 1)
def aCu(a:Int)(b:Int)(c:aH):Option Bool:=
  (idx c.Jobs a).bind λd=>
  (cJ d.After b).bind λe=>
  (bif e then(some true) else((cJ d.With b).bind λf=>
  some f)).bind λg=>
  some g
def aHo(a:aH)(b:Int)(c:Int):Option Bool:=
  (aCu b c a).bind λd=>
  (bif d then(some true) else((aCu c b a).bind λe=>
  some e)).bind λf=>
  some f
def vF(a:Int)(b:Int)(c:cE)(d:aF):Option (Int×Int×cE):=
  (inb 3 d.Court).bind λ_=>
  (inb 6 d.Job).bind λ_=>
  some (b,w64 (b+a),(cE.mk c.number (c.free.set d.Court (w64 (b+a))) (c.ends.set d.Job (w64 (b+a)))))
def kN(a:Int)(b:A6 Int)(c:cE)(d:aH)(e:aF):Nat->Int->Int->Option (Int×Int×cE)
 |0,_,_=>none
 | h+1,i,j=>
  bif decide (j<6) then((inb 6 j).bind λ_=>
  (bif decide (0<(b.at j)) then((aHo d e.Job j).bind λf=>
  some f) else(some false)).bind λg=>
  bif g then((kN a b c d e h) (max i (w64 ((b.at j)+d.Rest))) (w64 (j+1)))
  else((kN a b c d e h) i (w64 (j+1))))
  else(vF a i c e)
def pT(a:cE)(b:aH)(c:aF)(d:Int):Option (Int×Int×cE):=
  (inb 3 c.Court).bind λ_=>
  (idx b.Jobs c.Job).bind λe=>
  kN d a.ends a b c BIG (max (a.free.at c.Court) e.Earliest) 0
def fV(_:dQ->(List (aE×Int))->aE->Option ((List aF)×Bool×(List (aE×Int))))(a:Int->(List (aE×Int))->Option ((List aF)×Bool×(List (aE×Int))))(_:aH)(_:Int)(_:Option (List aF))(_:List bK)(_:Int)(b:Int)(c:List (aE×Int))(_:aE):Option ((List aF)×Bool×(List (aE×Int))):=
  a (w64 (b+1)) c
def rP(_:dQ->(List (aE×Int))->aE->Option ((List aF)×Bool×(List (aE×Int))))(_:Int->(List (aE×Int))->Option ((List aF)×Bool×(List (aE×Int))))(a:Int->(List (aE×Int))->Option ((List aF)×Bool×(List (aE×Int))))(_:aH)(_:Int)(_:Option (List aF))(_:Int)(b:Int)(_:List bK)(_:Int)(_:Int)(c:List (aE×Int))(_:aE)(_:bK):Option ((List aF)×Bool×(List (aE×Int))):=
  a (w64 (b+1)) c
def rQ(a:dQ->(List (aE×Int))->aE->Option ((List aF)×Bool×(List (aE×Int))))(b:Int->(List (aE×Int))->Option ((List aF)×Bool×(List (aE×Int))))(c:Int->(List (aE×Int))->Option ((List aF)×Bool×(List (aE×Int))))(d:aH)(e:Int)(f:Option (List aF))(g:Int)(h:Int)(i:List bK)(j:Int)(k:Int)(l:List (aE×Int))(m:aE)(n:bK):Option ((List aF)×Bool×(List (aE×Int))):=
  rP a b c d e f g h i j k l m n
def dZ(a:dQ->(List (aE×Int))->aE->Option ((List aF)×Bool×(List (aE×Int))))(b:Int->(List (aE×Int))->Option ((List aF)×Bool×(List (aE×Int))))(c:Int->(List (aE×Int))->Option ((List aF)×Bool×(List (aE×Int))))(d:aH)(e:Int)(f:Option (List aF))(g:Int)(h:Int)(i:List bK)(j:Int)(k:Int)(l:List bO)(m:Int)(n:aE)(o:bK)(p:cE):Nat->Int->(List (aE×Int))->Option ((List aF)×Bool×(List (aE×Int)))
 |0,_,_=>none
 | w+1,x,y=>
  bif decide (x<m) then((idx l x).bind λq=>
  (chk (decide (0<=g))).bind λ_=>
  (oG (dQ.mk d e f) (aF.mk g h x)).bind λr=>
  (pT p d (aF.mk g h x) o.Length.High).bind λs=>
  (bif decide (q.High<s.2.1) then(some true) else(some (decide ((w64 (n.moves-r))<0)))).bind λt=>
  bif t then((dZ a b c d e f g h i j k l m n o p w) (w64 (x+1)) y)
  else((a (dQ.mk d e f) y (aE.mk s.2.2 (bOr n.done (w64 (1*2^(min g.toNat 64)))) (w64 (n.moves-r)))).bind λu=>
  bif u.2.1 then((app 24 ([(aF.mk g h x)]) u.1).bind λv=>
  some (v,true,u.2.2))
  else((dZ a b c d e f g h i j k l m n o p w) (w64 (x+1)) u.2.2)))
  else(rQ a b c d e f g h i j k y n o)
def wJ(a:dQ->(List (aE×Int))->aE->Option ((List aF)×Bool×(List (aE×Int))))(b:Int->(List (aE×Int))->Option ((List aF)×Bool×(List (aE×Int))))(c:aH)(d:Int)(e:Option (List aF))(f:List bK)(g:Int)(h:Int)(i:List (aE×Int))(j:aE):Option ((List aF)×Bool×(List (aE×Int))):=
  fV a b c d e f g h i j
def eJ(a:dQ->(List (aE×Int))->aE->Option ((List aF)×Bool×(List (aE×Int))))(b:Int->(List (aE×Int))->Option ((List aF)×Bool×(List (aE×Int))))(c:aH)(d:Int)(e:Option (List aF))(f:Int)(g:List bK)(h:Int)(i:Int)(j:aE)(k:bK):Nat->Int->(List (aE×Int))->Option ((List aF)×Bool×(List (aE×Int)))
 |0,_,_=>none
 | p+1,q,r=>
  (bif decide (q<d) then(some (decide (q<=k.Due))) else(some false)).bind λl=>
  bif l then(bif decide (j.day.number<q) then((uP c q).bind λm=>
  (idx c.Days q).bind λn=>
  dZ a b (eJ a b c d e f g h i j k p) c d e f q g h i n (n.length:Int) j k m BIG 0 r)
  else((idx c.Days q).bind λo=>
  dZ a b (eJ a b c d e f g h i j k p) c d e f q g h i o (o.length:Int) j k j.day BIG 0 r))
  else(wJ a b c d e g h i r j)
def rO(a:dQ->(List (aE×Int))->aE->Option ((List aF)×Bool×(List (aE×Int))))(b:Int->(List (aE×Int))->Option ((List aF)×Bool×(List (aE×Int))))(c:aH)(d:Int)(e:Option (List aF))(f:Int)(g:List bK)(h:Int)(i:Int)(j:List (aE×Int))(k:aE)(l:bK):Option ((List aF)×Bool×(List (aE×Int))):=
  eJ a b c d e f g h i k l BIG k.day.number j
def gX(a:dQ->(List (aE×Int))->aE->Option ((List aF)×Bool×(List (aE×Int))))(b:Int->(List (aE×Int))->Option ((List aF)×Bool×(List (aE×Int))))(c:aH)(d:Int)(e:Option (List aF))(f:Int)(g:List bK)(h:Int)(i:Int)(j:List Int)(k:Int)(l:List (aE×Int))(m:aE)(n:bK):Nat->Int->Option ((List aF)×Bool×(List (aE×Int)))
 |0,_=>none
 | q+1,r=>
  bif decide (r<k) then((idx j r).bind λo=>
  (uC m o).bind λp=>
  bif !p then(fV a b c d e g h i l m)
  else((gX a b c d e f g h i j k l m n q) (w64 (r+1))))
  else(rO a b c d e f g h i l m n)
def wI(_:dQ->(List (aE×Int))->aE->Option ((List aF)×Bool×(List (aE×Int))))(a:List (aE×Int)):Option ((List aF)×Bool×(List (aE×Int))):=
  some (([]:List aF),false,a)
def cP(a:dQ->(List (aE×Int))->aE->Option ((List aF)×Bool×(List (aE×Int))))(b:aH)(c:Int)(d:Option (List aF))(e:List bK)(f:Int)(g:aE):Nat->Int->(List (aE×Int))->Option ((List aF)×Bool×(List (aE×Int)))
 |0,_,_=>none
 | j+1,k,l=>
  bif decide (k<f) then((idx e k).bind λh=>
  (uC g k).bind λi=>
  bif i then(fV a (cP a b c d e f g j) b c d e f k l g)
  else(gX a (cP a b c d e f g j) b c d k e f k h.After (h.After.length:Int) l g h BIG 0))
  else(wI a l)
def cF:Nat->dQ->(List (aE×Int))->aE->Option ((List aF)×Bool×(List (aE×Int)))
 |0,_,_,_=>none
 | a+1,b,c,d=>
  (chk (decide (0<=(b.Program.Jobs.length:Int)))).bind λ_=>
  bif decide (d.done=(w64 ((w64 (1*2^(min (b.Program.Jobs.length:Int).toNat 64)))-1))) then(some (([]:List aF),true,c))
  else(bif decide (1<(bW d 0 (dE d (w64 ((bW d 0 c)+1)) c))) then(some (([]:List aF),false,(dE d (w64 ((bW d 0 c)+1)) c)))
  else(cP (cF a) b.Program b.days b.old b.Program.Jobs (b.Program.Jobs.length:Int) d BIG 0 (dE d (w64 ((bW d 0 c)+1)) c)))
def aAn:dQ->(List (aE×Int))->aE->Option ((List aF)×Bool×(List (aE×Int))):=cF BIG
def yV(a:aH)(b:Int)(c:Option (List aF))(d:Int):Option ((List aF)×Bool):=
  bif decide (b=0) then(some (([]:List aF),decide ((a.Jobs.length:Int)=0)))
  else((uP a 0).bind λe=>
  (aAn (dQ.mk a b c) ([]:List (aE×Int)) (aE.mk e 0 d)).bind λf=>
  some (f.1,f.2.1))
def aSq:Option (Int×(List aF)×Bool):=
  some (0,([]:List aF),false)
def uB(a:Int)(b:aH):Nat->Int->Option (Int×(List aF)×Bool)
 |0,_=>none
 | d+1,e=>
  bif decide (e<a) then((yV b e none 0).bind λc=>
  bif c.2 then(some (e,c.1,true))
  else((uB a b d) (w64 (e+1))))
  else(aSq)
def aKv(a:aH):Option (Int×(List aF)×Bool):=
  uB (w64 ((a.Days.length:Int)+1)) a BIG 0
def aKs(a:aH):Option ((List aF)×Int):=
  (sS a).bind λb=>
  bif !decide (b=0) then(some (([]:List aF),b))
  else((aKv a).bind λc=>
  bif !c.2.2 then(some (([]:List aF),3))
  else(some (c.2.1,0)))
def aHa:Option Bool:=
  some false
def nG(a:List aF)(b:Int):Nat->Int->Option Bool
 |0,_=>none
 | d+1,e=>
  bif decide (e<(a.length:Int)) then((idx a e).bind λc=>
  bif decide (c.Job=b) then(some true)
  else((nG a b d) (w64 (e+1))))
  else(aHa)
def tV(a:List aF)(b:Int):Option Bool:=
  nG a b BIG 0
def aBb:Option Bool:=
  some true
def kD(a:List aF)(b:aH)(c:aF):Nat->Int->Option Bool
 |0,_=>none
 | h+1,i=>
  (idx b.Jobs c.Job).bind λd=>
  bif decide (i<(d.After.length:Int)) then((idx b.Jobs c.Job).bind λe=>
  (idx e.After i).bind λf=>
  (tV a f).bind λg=>
  bif !g then(some false)
  else((kD a b c h) (w64 (i+1))))
  else(aBb)
def pJ(a:List aF)(b:aH)(c:aF):Option Bool:=
  kD a b c BIG 0
def iC(a:List aF)(b:aH)(c:aF):Nat->Int->Option Bool
 |0,_=>none
 | e+1,f=>
  bif decide (f<(a.length:Int)) then((idx a f).bind λd=>
  bif decide (c.Day<d.Day) then(some false)
  else((iC a b c e) (w64 (f+1))))
  else(pJ a b c)
def sM(a:aH)(b:List aF)(c:aF):Option Bool:=
  (cU c.Job 0 (w64 ((a.Jobs.length:Int)-1))).bind λd=>
  (bif !d then(some true) else((tV b c.Job).bind λe=>
  some e)).bind λf=>
  (bif f then(some true) else((idx a.Jobs c.Job).bind λg=>
  (cU c.Day 0 (min (w64 ((a.Days.length:Int)-1)) g.Due)).bind λh=>
  some (!h))).bind λi=>
  (bif i then(some true) else((idx a.Days 0).bind λj=>
  (cU c.Court 0 (w64 ((j.length:Int)-1))).bind λk=>
  some (!k))).bind λl=>
  bif l then(some false)
  else(iC b a c BIG 0)
def aBa(a:List aF)(b:aH):Option Bool:=
  some (decide ((a.length:Int)=(b.Jobs.length:Int)))
def kC(a:List aF)(b:aH):Nat->Int->Option Bool
 |0,_=>none
 | f+1,g=>
  bif decide (g<(a.length:Int)) then((sub a 0 g).bind λc=>
  (idx a g).bind λd=>
  (sM b c d).bind λe=>
  bif !e then(some false)
  else((kC a b f) (w64 (g+1))))
  else(aBa a b)
def oQ(a:aH)(b:List aF):Option Bool:=
  kC b a BIG 0
def qF:Nat->Int->Option Str
 |0,_=>none
 | e+1,f=>
  bif decide (f<10) then((sub ([48,49,50,51,52,53,54,55,56,57]:Str) f (w64 (f+1))).bind λa=>
  some a)
  else(((qF e) (w64 (f.tdiv 10))).bind λb=>
  (sub ([48,49,50,51,52,53,54,55,56,57]:Str) (f.tmod 10) (w64 ((f.tmod 10)+1))).bind λc=>
  (lZ b c).bind λd=>
  some d)
def bV:Int->Option Str:=qF BIG
def sH:Option dK:=
  some (dK.mk (oA.mk 3 1 1 10 20) (aD.mk 1 ([7,8])) (dC.mk 1 1 false (-1) 1 0 2 0 0 false) ([[(bO.mk 600 700)]]) 0 ([(bR.mk (bO.mk 30 60) 0)]))
def aFn:Option (dC×(List Int)):=
  some ((dC.mk 2 2 false 2 3 0 4 2 2 false),[0,0,0,0,1,1,1,1,0,0,0,0,0,0,0,0,1,1,1,1])
def xC:Option yH:=
  (aFn).bind λa=>
  some (yH.mk a.1 0 ([(dL.mk 1 0 (aS.mk 0 0)),(dL.mk 2 0 (aS.mk 2 4)),(dL.mk 3 0 (aS.mk 3 1)),(dL.mk 2 0 (aS.mk 1 1)),(dL.mk 4 0 (aS.mk 1 0))]))
def aGj(a:Int):Option Bool:=
  some (!decide (a=a))
def aRi(a:Int)(b:Int):Option Bool:=
  (aGj a).bind λc=>
  (bif c then((aGj b).bind λd=>
  some (!d)) else(some false)).bind λe=>
  (bif e then(some true) else(some (decide (a<b)))).bind λf=>
  some f
def aLu:Option Bool:=
  some true
def tD(a:List Int):Nat->Int->Option Bool
 |0,_=>none
 | e+1,f=>
  bif decide (0<f) then((idx a f).bind λb=>
  (idx a (w64 (f-1))).bind λc=>
  (aRi b c).bind λd=>
  bif d then(none)
  else((tD a e) (w64 (f-1))))
  else(aLu)
def aDv(a:List Int):Option Bool:=
  tD a BIG (w64 ((a.length:Int)-1))
def jB(a:Int)(b:Int)(c:Int):Option Bool:=
  (bif decide (b<=a) then(some (decide (a<=c))) else(some false)).bind λd=>
  some d
def aGs(a:dX):Option Bool:=
  (bif !decide ((a.Prizes.length:Int)=(w64 (a.Tree.Rounds+1))) then(some true) else((aDv a.Prizes).bind λb=>
  some (!b))).bind λc=>
  (bif c then(some true) else((jB a.Daily 0 100000).bind λd=>
  some (!d))).bind λe=>
  bif e then(none)
  else((idx a.Prizes 0).bind λf=>
  (bif decide (0<=f) then((idx a.Prizes (w64 ((a.Prizes.length:Int)-1))).bind λg=>
  some (decide (g<=10000000))) else(some false)).bind λh=>
  some h)
def slices_Sort_int(x:List Int):Option (List Int):=if x.length<4611686018427387904 then some (aHw x) else none
def aJp(a:List Int):Option ((List Int)):=
  (slices_Sort_int a).bind λb=>
  some b
def rD(a:List aAt)(b:Int):Nat->Int->(List Int)->Option ((List Int))
 |0,_,_=>none
 | f+1,g,h=>
  bif decide (g<b) then((idx a g).bind λc=>
  (app 8 h ([c.One])).bind λd=>
  bif !decide (c.Two=(-1)) then((app 8 d ([c.Two])).bind λe=>
  (rD a b f) (w64 (g+1)) e)
  else((rD a b f) (w64 (g+1)) d))
  else(aJp h)
def pU(a:dX):Option ((List Int)):=
  rD a.Teams (a.Teams.length:Int) BIG 0 ([]:List Int)
def aNc(a:Int->Option ((List Int)))(b:Int)(_:List Int):Option ((List Int)):=
  a (w64 (b+1))
def aNb(a:List Int):Option ((List Int)):=
  some a
def uJ(a:List Int):Nat->Int->Option ((List Int))
 |0,_=>none
 | d+1,e=>
  bif decide (e<(a.length:Int)) then((idx a e).bind λb=>
  (idx a (w64 (e-1))).bind λc=>
  bif decide (b=c) then(none)
  else(aNc (uJ a d) e a))
  else(aNb a)
def aGe(a:List Int):Option ((List Int)):=
  bif decide ((a.length:Int)<2) then(none)
  else(uJ a BIG 1)
def sT(a:List Int):Option Bool:=
  (kQ a).bind λb=>
  (aGe b).bind λc=>
  some (decide ((c.length:Int)=(a.length:Int)))
def xW:Option Bool:=
  some true
def mV(a:List Int)(b:rX->Option (Int×Bool))(c:List rX)(d:Int):Nat->Int->(List Int)->Option Bool
 |0,_,_=>none
 | l+1,m,n=>
  bif decide (m<d) then((idx c m).bind λe=>
  (b e).bind λf=>
  (bif !f.2 then(some true) else((cJ a f.1).bind λg=>
  some (!g))).bind λh=>
  (bif h then(some true) else((cJ n f.1).bind λi=>
  some i)).bind λj=>
  bif j then(none)
  else((app 8 n ([f.1])).bind λk=>
  (mV a b c d l) (w64 (m+1)) k))
  else(xW)
def uD(a:List Int)(b:List rX)(c:rX->Option (Int×Bool)):Option Bool:=
  mV a c b (b.length:Int) BIG 0 ([]:List Int)
def aJm(a:rX):Option (Int×Bool):=
  (jB a.Mille 0 500).bind λb=>
  some (a.Person,b)
def xX:Option Bool:=
  some true
def mW(a:List Int)(b:qS->Option (Int×Bool))(c:List qS)(d:Int):Nat->Int->(List Int)->Option Bool
 |0,_,_=>none
 | l+1,m,n=>
  bif decide (m<d) then((idx c m).bind λe=>
  (b e).bind λf=>
  (bif !f.2 then(some true) else((cJ a f.1).bind λg=>
  some (!g))).bind λh=>
  (bif h then(some true) else((cJ n f.1).bind λi=>
  some i)).bind λj=>
  bif j then(none)
  else((app 8 n ([f.1])).bind λk=>
  (mW a b c d l) (w64 (m+1)) k))
  else(xX)
def uE(a:List Int)(b:List qS)(c:qS->Option (Int×Bool)):Option Bool:=
  mW a c b (b.length:Int) BIG 0 ([]:List Int)
def aJn(a:qS):Option (Int×Bool):=
  (jB a.Num 1 10000).bind λb=>
  (bif b then((jB a.Den 1 10000).bind λc=>
  some c) else(some false)).bind λd=>
  some (a.Person,d)
def aHc(a:List Int)(b:dX):Option Bool:=
  (uD a b.Levies (λc=>aJm c)).bind λd=>
  (bif d then((uE a b.Rates (λe=>aJn e)).bind λf=>
  some f) else(some false)).bind λg=>
  some g
def tM(a:List Int)(b:List aA)(c:Int)(d:dX)(e:List Int):Nat->Int->Option Bool
 |0,_=>none
 | i+1,j=>
  bif decide (j<c) then((idx b j).bind λf=>
  (bif decide (f.Kind=5) then((cJ e f.Player).bind λg=>
  some (!g)) else(some false)).bind λh=>
  bif h then(none)
  else((tM a b c d e i) (w64 (j+1))))
  else(aHc a d)
def aHb(a:List Int)(b:dX)(c:List Int):Option Bool:=
  tM a b.Slips (b.Slips.length:Int) b c BIG 0
def tL(a:List Int)(b:List Int)(c:Int)(d:dX)(e:List Int):Nat->Int->Option Bool
 |0,_=>none
 | i+1,j=>
  bif decide (j<c) then((idx b j).bind λf=>
  (bif !decide (f=(-1)) then((cJ e f).bind λg=>
  some (!g)) else(some false)).bind λh=>
  bif h then(none)
  else((tL a b c d e i) (w64 (j+1))))
  else(aHb a d e)
def tJ(a:dX)(b:List Int):Option Bool:=
  (slices_Sort_int b).bind λc=>
  (pU a).bind λd=>
  (sT c).bind λe=>
  (bif !e then(some true) else((sT d).bind λf=>
  some (!f))).bind λg=>
  bif g then(none)
  else(tL d a.Tree.Slots (a.Tree.Slots.length:Int) a c BIG 0)
def tK(a:List aAt)(b:Int)(c:dX):Nat->Int->(List Int)->Option Bool
 |0,_,_=>none
 | k+1,l,m=>
  bif decide (l<b) then((idx a l).bind λd=>
  (jB d.Player 0 999).bind λe=>
  (bif !e then(some true) else((jB d.One 0 999).bind λf=>
  some (!f))).bind λg=>
  (bif g then(some true) else((jB d.Two (-1) 999).bind λh=>
  some (!h))).bind λi=>
  bif i then(none)
  else((app 8 m ([d.Player])).bind λj=>
  (tK a b c k) (w64 (l+1)) j))
  else(tJ c m)
def qV(a:dX):Option Bool:=
  bif decide (64<(a.Teams.length:Int)) then(none)
  else(tK a.Teams (a.Teams.length:Int) a BIG 0 ([]:List Int))
def uI(a:List aT):Option ((List aT)):=
  (app 32 ([]:List aT) a).bind λb=>
  some b
def nO(a:Int->Option ((List aT)))(_:Int)(_:Int)(_:aT->aT->Option Int)(b:Int)(_:List aT):Option ((List aT)):=
  a (w64 (b+1))
def nP(a:Int->Option ((List aT)))(b:Int)(c:Int)(d:aT->aT->Option Int)(e:Int)(f:List aT):Option ((List aT)):=
  nO a b c d e f
def jD(a:Int->Option ((List aT)))(b:Int)(c:Int)(d:aT->aT->Option Int)(e:Int)(f:List aT):Nat->Int->Option ((List aT))
 |0,_=>none
 | _+1,k=>
  (bif decide (b<k) then((idx f k).bind λg=>
  (idx f (w64 (k-1))).bind λh=>
  (d g h).bind λi=>
  some (decide (i<0))) else(some false)).bind λj=>
  bif j then(none)
  else(nP a b c d e f)
def nN(a:List aT):Option ((List aT)):=
  some a
def eF(a:Int)(b:Int)(c:aT->aT->Option Int)(d:List aT):Nat->Int->Option ((List aT))
 |0,_=>none
 | e+1,f=>
  bif decide (f<b) then(jD (eF a b c d e) a b c f d BIG f)
  else(nN d)
def kR(a:List aT)(b:Int)(c:Int)(d:aT->aT->Option Int):Option ((List aT)):=
  eF b c d a BIG (w64 (b+1))
def rI(a:List aT):Option ((List aT)):=
  some a
def mB(a:Int)(_:aT->aT->Option Int)(b:List aT):Nat->Int->Option ((List aT))
 |0,_=>none
 | _+1,c=>
  bif decide (c<a) then(none)
  else(rI b)
def rH(a:Int)(b:aT->aT->Option Int)(c:Int)(d:Int)(e:List aT):Option ((List aT)):=
  (kR e d a b).bind λf=>
  mB a b f BIG c
def mA(a:Int)(b:aT->aT->Option Int)(c:Int)(d:List aT):Nat->Int->Int->Option ((List aT))
 |0,_,_=>none
 | _+1,e,f=>
  bif decide (f<=a) then(none)
  else(rH a b c e d)
def nS(a:List aT)(b:Int)(c:aT->aT->Option Int):Option ((List aT)):=
  mA b c 20 a BIG 0 20
def nC(a:List aT)(b:aT->aT->Option Int):Option ((List aT)):=
  (nS a (a.length:Int) b).bind λc=>
  some c
def aJo(a:aT)(b:aT):Option Int:=
  some (w64 (a.Id-b.Id))
def aGv(a:Int->Option ((List aT)))(b:Int)(_:List aT):Option ((List aT)):=
  a (w64 (b+1))
def aGu(a:List aT):Option ((List aT)):=
  some a
def pW(a:List aT):Nat->Int->Option ((List aT))
 |0,_=>none
 | d+1,e=>
  bif decide (e<(a.length:Int)) then((idx a e).bind λb=>
  (idx a (w64 (e-1))).bind λc=>
  bif decide (b=c) then(none)
  else(aGv (pW a d) e a))
  else(aGu a)
def zD(a:List aT):Option ((List aT)):=
  bif decide ((a.length:Int)<2) then(none)
  else(pW a BIG 1)
def aQh(a:List aT):Option ((List aT)×Bool):=
  (zD a).bind λb=>
  some (b,true)
def zZ(a:List aT):Nat->Int->Option ((List aT)×Bool)
 |0,_=>none
 | g+1,h=>
  bif decide (h<(a.length:Int)) then((idx a h).bind λb=>
  (idx a (w64 (h-1))).bind λc=>
  (bif decide (b.Id=c.Id) then((idx a h).bind λd=>
  (idx a (w64 (h-1))).bind λe=>
  some (!decide (d=e))) else(some false)).bind λf=>
  bif f then(none)
  else((zZ a g) (w64 (h+1))))
  else(aQh a)
def aHq(a:List aT):Option ((List aT)×Bool):=
  (uI a).bind λb=>
  (nC b (λc d=>aJo c d)).bind λe=>
  zZ e BIG 1
def aUo(a:dX):Option Bool:=
  (aHq a.Items).bind λb=>
  (bif b.2 then(some (decide ((a.Items.length:Int)<=40))) else(some false)).bind λc=>
  some c
def tI(a:List Int)(b:List aT)(c:Int)(d:dX):Nat->Int->Option Bool
 |0,_=>none
 | t+1,u=>
  bif decide (u<c) then((idx b u).bind λe=>
  bif decide (e.Kind=2) then((bif !decide (e.Kind=1) then(some (!decide (e.Kind=2))) else(some false)).bind λf=>
  (bif f then(some true) else((jB e.Id 0 99).bind λg=>
  some (!g))).bind λh=>
  (bif h then(some true) else((cJ a e.Person).bind λi=>
  some (!i))).bind λj=>
  (bif j then(some true) else((jB e.Amount 0 30).bind λk=>
  some (!k))).bind λl=>
  bif l then(none)
  else((tI a b c d t) (w64 (u+1))))
  else((bif !decide (e.Kind=1) then(some (!decide (e.Kind=2))) else(some false)).bind λm=>
  (bif m then(some true) else((jB e.Id 0 99).bind λn=>
  some (!n))).bind λo=>
  (bif o then(some true) else((cJ a e.Person).bind λp=>
  some (!p))).bind λq=>
  (bif q then(some true) else((jB e.Amount 0 10000000).bind λr=>
  some (!r))).bind λs=>
  bif s then(none)
  else((tI a b c d t) (w64 (u+1)))))
  else(aUo d)
def yW(a:dX):Option Bool:=
  (pU a).bind λb=>
  tI b a.Items (a.Items.length:Int) a BIG 0
def aFg(a:dX):Option Int:=
  (pD a.Tree a.Slips).bind λb=>
  bif !decide (b=0) then(none)
  else((aGs a).bind λc=>
  bif !c then(none)
  else((qV a).bind λd=>
  bif !d then(none)
  else((yW a).bind λe=>
  bif !e then(none)
  else(some 0))))
def bFs(a:Int):Option (Int×Int):=
  some (a,0)
def aGr(a:List Int)(b:Int)(c:dX):Nat->Int->Int->Option (Int×Int)
 |0,_,_=>none
 | e+1,f,g=>
  bif decide (g<b) then((idx a g).bind λd=>
  bif decide (d=(-1)) then(none)
  else((aGr a b c e) f (w64 (g+1))))
  else(bFs f)
def bFr(a:Int)(b:dX):Option (Int×Int):=
  aGr b.Tree.Slots (b.Tree.Slots.length:Int) b BIG a 0
def aGq(a:Int)(b:dX):Nat->Int->Int->Option (Int×Int)
 |0,_,_=>none
 | d+1,e,f=>
  bif decide (f<a) then((idx b.Prizes f).bind λc=>
  (chk (decide (0<=(w64 ((w64 (b.Tree.Rounds-1))-f))))).bind λ_=>
  (aGq a b d) (w64 (e+(w64 (c*2^(min (w64 ((w64 (b.Tree.Rounds-1))-f)).toNat 64))))) (w64 (f+1)))
  else(bFr e b)
def aHp(a:dX):Option (Int×Int):=
  (aFg a).bind λb=>
  bif !decide (b=0) then(none)
  else((idx a.Prizes a.Tree.Rounds).bind λc=>
  aGq a.Tree.Rounds a BIG c 0)
def sG:Option dX:=
  some (dX.mk (aD.mk 2 ([1,2,3,4])) ([(aA.mk 1 0 0 1 0)]) ([100,300,1001]) 40 ([(aAt.mk 1 11 12),(aAt.mk 2 21 22),(aAt.mk 3 31 (-1)),(aAt.mk 4 41 (-1))]) ([(rX.mk 11 250)]) ([(qS.mk 21 3 2),(qS.mk 22 1 3)]) ([(aT.mk 1 1 21 30),(aT.mk 2 2 11 2),(aT.mk 3 1 31 160)]))
def tE:Option Int:=
  some (-1)
def kF(a:List gE)(b:gE->Option Bool)(c:Int):Nat->Int->Option Int
 |0,_=>none
 | f+1,g=>
  bif decide (g<c) then((idx a g).bind λd=>
  (b d).bind λe=>
  bif e then(some g)
  else((kF a b c f) (w64 (g+1))))
  else(tE)
def pX(a:List gE)(b:gE->Option Bool):Option Int:=
  kF a b (a.length:Int) BIG 0
def nQ(a:List gE)(b:gE->Option Bool):Option Bool:=
  (pX a b).bind λc=>
  some (decide (0<=c))
def oU(a:Int)(b:Int)(c:Int):Option Bool:=
  (bif decide (b<=a) then(some (decide (a<=c))) else(some false)).bind λd=>
  some d
def tZ(a:bO)(b:Int)(c:Int):Option Bool:=
  (bif decide (a.Low<=a.High) then((oU a.Low b c).bind λd=>
  some d) else(some false)).bind λe=>
  (bif e then((oU a.High b c).bind λf=>
  some f) else(some false)).bind λg=>
  some g
def aQe(a:gE):Option Bool:=
  (oU a.P (-3) 3).bind λb=>
  (bif b then((oU a.Q (-3) 3).bind λc=>
  some c) else(some false)).bind λd=>
  (bif d then((bif !decide (a.P=0) then(some true) else(some (!decide (a.Q=0)))).bind λe=>
  some e) else(some false)).bind λf=>
  (bif f then((tZ (bO.mk a.Low a.High) (-500) 500).bind λg=>
  some g) else(some false)).bind λh=>
  some h
def aQd(a:gE):Option Bool:=
  (aQe a).bind λb=>
  some (!b)
def aVa(a:dS):Option Int:=
  (nQ a.Strips (λb=>aQd b)).bind λc=>
  (bif c then(some true) else(some (decide (8<(a.Strips.length:Int))))).bind λd=>
  (bif d then(some true) else((oU a.Size 0 40).bind λe=>
  some (!e))).bind λf=>
  (bif f then(some true) else((oU a.Wrong 0 3).bind λg=>
  some (!g))).bind λh=>
  (bif h then(some true) else((tZ a.HalfX 1 9).bind λi=>
  some (!i))).bind λj=>
  (bif j then(some true) else((tZ a.HalfY 1 9).bind λk=>
  some (!k))).bind λl=>
  bif l then(some 20)
  else(some 0)
def aMo(a:mO):Option Int:=
  (tZ (bO.mk a.Left a.Right) 0 40).bind λb=>
  (bif !b then(some true) else((tZ (bO.mk a.Bottom a.Top) 0 40).bind λc=>
  some (!c))).bind λd=>
  bif d then(some 21)
  else(some 0)
def aVb(a:dS)(b:mO):Option Int:=
  (aVa a).bind λc=>
  bif !decide (c=0) then(some c)
  else((aMo b).bind λd=>
  some d)
def aRv(_:dS):Option Unit:=
  some ()
def bCh(a:List Int):Option ((List Int)):=
  some a
def yT(a:Int)(b:Int)(c:List gE)(d:Int):Nat->Int->(List Int)->Option ((List Int))
 |0,_,_=>none
 | h+1,i,j=>
  bif decide (i<d) then((idx c i).bind λe=>
  (oU (w64 ((w64 (e.P*a))+(w64 (e.Q*b)))) e.Low e.High).bind λf=>
  bif !f then((app 8 j ([i])).bind λg=>
  (yT a b c d h) (w64 (i+1)) g)
  else((yT a b c d h) (w64 (i+1)) j))
  else(bCh j)
def aVe(a:dS)(b:Int)(c:Int):Option ((List Int)):=
  yT b c a.Strips (a.Strips.length:Int) BIG 0 ([]:List Int)
def aMm{S:Type}(_:S->bZ->(List Int)->Option S)(a:Int->S->Option S)(_:dS)(_:Int)(b:Int)(c:S):Option S:=
  a (w64 (b+1)) c
def aMn{S:Type}(a:S->bZ->(List Int)->Option S)(b:Int->S->Option S)(c:dS)(d:Int)(e:Int)(f:S):Option S:=
  aMm a b c d e f
def yS{S:Type}(a:S->bZ->(List Int)->Option S)(b:Int->S->Option S)(c:dS)(d:Int)(e:Int)(f:Int)(g:Int):Nat->Int->S->Option S
 |0,_,_=>none
 | j+1,k,l=>
  bif decide (k<g) then((aVe c d k).bind λh=>
  (a l (bZ.mk d k) h).bind λi=>
  (yS a b c d e f g j) (w64 (k+1)) i)
  else(aMn a b c e f l)
def aMl{S:Type}(_:S->bZ->(List Int)->Option S)(a:S):Option S:=
  some a
def tY{S:Type}(a:S->bZ->(List Int)->Option S)(b:dS)(c:Int):Nat->Int->S->Option S
 |0,_,_=>none
 | d+1,e,f=>
  bif decide (e<c) then(yS a (tY a b c d) b e c e (w64 (b.Size+1)) BIG 0 f)
  else(aMl a f)
def aLl{S:Type}(a:S->bZ->(List Int)->Option S)(b:dS)(c:S):Option S:=
  tY a b (w64 (b.Size+1)) BIG 0 c
def aCh(a:dS):Option ((List bZ)):=
  (aRv a).bind λ_=>
  (aLl (S:=(List bZ)) (λb c d=>
  bif decide ((d.length:Int)<=a.Wrong) then((app 16 b ([c])).bind λe=>
  some e)
  else(some b)) a ([]:List bZ)).bind λf=>
  some f
def rS:Option Int:=
  some (-1)
def jF(a:List bZ)(b:bZ->Option Bool)(c:Int):Nat->Int->Option Int
 |0,_=>none
 | f+1,g=>
  bif decide (g<c) then((idx a g).bind λd=>
  (b d).bind λe=>
  bif e then(some g)
  else((jF a b c f) (w64 (g+1))))
  else(rS)
def oJ(a:List bZ)(b:bZ->Option Bool):Option Int:=
  jF a b (a.length:Int) BIG 0
def jE(a:List bZ)(b:bZ->Option Bool):Option Bool:=
  (oJ a b).bind λc=>
  some (decide (0<=c))
def aVd(a:dS)(b:bZ):Option yJ:=
  some (yJ.mk b.x b.y a.HalfX.Low a.HalfY.Low)
def xL(a:Int)(b:Int)(c:Int):Option Int:=
  some (max (max 0 (w64 (b-a))) (w64 (a-c)))
def aGo(a:yJ)(b:mO):Option Bool:=
  (xL a.X b.Left b.Right).bind λc=>
  (xL a.Y b.Bottom b.Top).bind λd=>
  some (decide ((w64 ((w64 ((w64 (c*a.HalfY))*(w64 (c*a.HalfY))))+(w64 ((w64 (d*a.HalfX))*(w64 (d*a.HalfX))))))<=(w64 ((w64 (a.HalfX*a.HalfY))*(w64 (a.HalfX*a.HalfY))))))
def aRw(a:bZ)(b:dS)(c:mO):Option Bool:=
  (aVd b a).bind λd=>
  (aGo d c).bind λe=>
  some (!e)
def aVc(a:dS)(b:bZ):Option yJ:=
  some (yJ.mk b.x b.y a.HalfX.High a.HalfY.High)
def aRx(a:bZ)(b:dS)(c:mO):Option Bool:=
  (aVc b a).bind λd=>
  (aGo d c).bind λe=>
  some e
def aZg(a:dS)(b:mO):Option Int:=
  (aCh a).bind λc=>
  bif decide ((c.length:Int)=0) then(some 0)
  else((jE c (λd=>aRw d a b)).bind λe=>
  bif !e then(some 1)
  else((jE c (λf=>aRx f a b)).bind λg=>
  bif !g then(some 2)
  else(some 3)))
def aOi(a:dS)(b:mO):Option (Int×Int):=
  (aVb a b).bind λc=>
  bif !decide (c=0) then(some (0,c))
  else((aZg a b).bind λd=>
  bif decide (d=0) then(some (0,3))
  else(some (d,0)))
def sF:Option (dS×mO):=
  some ((dS.mk 10 ([(gE.mk 1 0 4 5),(gE.mk 0 1 6 6),(gE.mk 1 1 9 12)]) 0 (bO.mk 2 2) (bO.mk 1 2)),(mO.mk 0 3 0 10))
def yN(a:dK)(b:List Str):Option Bool:=
  (yM a b).bind λc=>
  (bif !c then(some (decide ((a.Tree.Slots.length:Int)<=4))) else(some false)).bind λd=>
  (bif d then(some (decide ((b.length:Int)<=10))) else(some false)).bind λe=>
  (bif e then((oF a).bind λf=>
  some (decide (f=0))) else(some false)).bind λg=>
  some g
def zO(a:Int)(b:Int)(c:Int):Option Bool:=
  (bif decide (b<=a) then(some (decide (a<=c))) else(some false)).bind λd=>
  some d
def nK(a:Int)(b:dL):Option Bool:=
  (zO b.Side a 1).bind λc=>
  (bif c then(some (decide (b.Pair=(aS.mk 0 0)))) else(some false)).bind λd=>
  some d
def vR(a:Int)(b:dL):Option Bool:=
  (bif decide (b.Side=0) then((zO b.Pair.A 0 a).bind λc=>
  some c) else(some false)).bind λd=>
  (bif d then((zO b.Pair.B 0 a).bind λe=>
  some e) else(some false)).bind λf=>
  some f
def aUv(a:dL):Option Bool:=
  bif decide (a.Kind=1) then((nK (-1) a).bind λb=>
  some b)
  else(bif decide (a.Kind=2) then((vR 30 a).bind λc=>
  (bif c then(some (decide (a.Pair.A<=a.Pair.B))) else(some false)).bind λd=>
  some d)
  else(bif decide (a.Kind=3) then(bif decide (a.Kind=3) then((vR 40 a).bind λe=>
  some e)
  else(bif decide (a.Kind=6) then(bif decide (a.Kind=6) then((nK 0 a).bind λf=>
  some f)
  else(some false))
  else(bif decide (a.Kind=7) then((nK 0 a).bind λg=>
  some g)
  else(some false))))
  else(bif decide (a.Kind=4) then(bif decide (a.Kind=4) then((vR 40 a).bind λh=>
  some h)
  else(bif decide (a.Kind=6) then(bif decide (a.Kind=6) then((nK 0 a).bind λi=>
  some i)
  else(some false))
  else(bif decide (a.Kind=7) then((nK 0 a).bind λj=>
  some j)
  else(some false))))
  else(bif decide (a.Kind=5) then((vR 40 a).bind λk=>
  some k)
  else(bif decide (a.Kind=6) then(bif decide (a.Kind=6) then((nK 0 a).bind λl=>
  some l)
  else(some false))
  else(bif decide (a.Kind=7) then((nK 0 a).bind λm=>
  some m)
  else(some false)))))))
def bFl(a:Int):Option Int:=
  bif decide (600<a) then(some 30)
  else(some 0)
def vQ(a:List dL)(b:Int):Nat->Int->Int->Option Int
 |0,_,_=>none
 | e+1,f,g=>
  bif decide (g<b) then((idx a g).bind λc=>
  (aUv c).bind λd=>
  bif !d then(some 30)
  else(bif decide (c.Kind=1) then((vQ a b e) (w64 (f+1)) (w64 (g+1)))
  else(bif decide (c.Kind=2) then((vQ a b e) (w64 (f+c.Pair.B)) (w64 (g+1)))
  else((vQ a b e) f (w64 (g+1))))))
  else(bFl f)
def bQa(a:yH):Option Int:=
  (wE a.Format).bind λb=>
  (bif !decide (b=0) then(some true) else((zO a.First (-1) 1).bind λc=>
  some (!c))).bind λd=>
  (bif d then(some true) else(some (decide (30<(a.Marks.length:Int))))).bind λe=>
  bif e then(some 30)
  else(vQ a.Marks (a.Marks.length:Int) BIG 0 0)
def aRf(a:aS)(b:Int):Option aS:=
  bif decide (b=0) then(some (aS.mk (w64 (a.A+1)) a.B))
  else(some (aS.mk a.A (w64 (a.B+1))))
def aNr(a:aS)(b:Int)(c:Int)(d:Int):Option Bool:=
  bif decide (b=1) then((bif decide (c<=a.B) then(some (decide (d<=(w64 (a.B-a.A))))) else(some false)).bind λe=>
  some e)
  else((bif decide (c<=a.A) then(some (decide (d<=(w64 (a.A-a.B))))) else(some false)).bind λf=>
  some f)
end Go.Am
