/- Shallow functions, printed by program. -/
import Derived.Test.YtdebnakalmnnpaaGreatDoorTaSh
import Derived.Test.YtdebnakalmnnpaaGreatDoorAmByt
import Derived.Test.YtdebnakalmnnpaaGreatDoorAmVal
import Derived.Test.YtdebnakalmnnpaaGreatDoorAmEnt
namespace Go.Am
structure aB where
 round:Int
 place:Int
 deriving DecidableEq,Inhabited
def aH(x:aB):List D:=[.lit (.int .i64 x.round),.lit (.int .i64 x.place)]
structure aU where
 Tree:aD
 players:List Int
 won:List (aB×Int)
 deriving DecidableEq,Inhabited
def bY(x:aU):List D:=[.lit (.int .i64 x.Tree.Rounds),.sl 1 (x.Tree.Slots.map aI),.sl 1 (x.players.map aI),.mp false (x.won.map λp:aB×Int=>((λa:aB=>Value.agg ((aH a).map bA).toArray) p.1,aI p.2))]
structure bO where
 Low:Int
 High:Int
 deriving DecidableEq,Inhabited
def cF(x:bO):List D:=[.lit (.int .i64 x.Low),.lit (.int .i64 x.High)]
structure bP where
 Length:bO
 Due:Int
 deriving DecidableEq,Inhabited
def cU(x:bP):List D:=[.lit (.int .i64 x.Length.Low),.lit (.int .i64 x.Length.High),.lit (.int .i64 x.Due)]
def bBh(x:List bP):List D:=[.sl 3 (x.map cU)]
structure bS where
 Length:bO
 After:List Int
 With:List Int
 Due:Int
 Earliest:Int
 deriving DecidableEq,Inhabited
def aGb(x:bS):List D:=[.lit (.int .i64 x.Length.Low),.lit (.int .i64 x.Length.High),.sl 1 (x.After.map aI),.sl 1 (x.With.map aI),.lit (.int .i64 x.Due),.lit (.int .i64 x.Earliest)]
structure oO where
 Places:Int
 Wilds:Int
 Guards:Int
 Close:Int
 Freeze:Int
 deriving DecidableEq,Inhabited
def aFj(x:oO):List D:=[.lit (.int .i64 x.Places),.lit (.int .i64 x.Wilds),.lit (.int .i64 x.Guards),.lit (.int .i64 x.Close),.lit (.int .i64 x.Freeze)]
structure kY where
 Id:Int
 Hour:Int
 Kind:Int
 Player:Int
 Rank:Int
 deriving DecidableEq,Inhabited
def dW(x:kY):List D:=[.lit (.int .i64 x.Id),.lit (.int .i64 x.Hour),.lit (.int .i64 x.Kind),.lit (.int .i64 x.Player),.lit (.int .i64 x.Rank)]
def dD(x:List bO):List D:=[.sl 2 (x.map cF)]
def aVu(x:List (List bO)):List D:=[.sl 1 (x.map dD)]
structure cY where
 Days:List (List bO)
 Rest:Int
 Jobs:List bS
 deriving DecidableEq,Inhabited
def aPx(x:cY):List D:=[.sl 1 (x.Days.map dD),.lit (.int .i64 x.Rest),.sl 6 (x.Jobs.map aGb)]
structure bU where
 Sets:Int
 Games:Int
 NoAd:Bool
 Tie:Int
 To:Int
 LastTie:Int
 LastTo:Int
 First:Int
 Then:Int
 Doubles:Bool
 deriving DecidableEq,Inhabited
def pL(x:bU):List D:=[.lit (.int .i64 x.Sets),.lit (.int .i64 x.Games),.lit (.bool x.NoAd),.lit (.int .i64 x.Tie),.lit (.int .i64 x.To),.lit (.int .i64 x.LastTie),.lit (.int .i64 x.LastTo),.lit (.int .i64 x.First),.lit (.int .i64 x.Then),.lit (.bool x.Doubles)]
structure cT where
 Field:oO
 Tree:aD
 Format:bU
 Days:List (List bO)
 Rest:Int
 Stages:List bP
 deriving DecidableEq,Inhabited
def fI(x:cT):List D:=[.lit (.int .i64 x.Field.Places),.lit (.int .i64 x.Field.Wilds),.lit (.int .i64 x.Field.Guards),.lit (.int .i64 x.Field.Close),.lit (.int .i64 x.Field.Freeze),.lit (.int .i64 x.Tree.Rounds),.sl 1 (x.Tree.Slots.map aI),.lit (.int .i64 x.Format.Sets),.lit (.int .i64 x.Format.Games),.lit (.bool x.Format.NoAd),.lit (.int .i64 x.Format.Tie),.lit (.int .i64 x.Format.To),.lit (.int .i64 x.Format.LastTie),.lit (.int .i64 x.Format.LastTo),.lit (.int .i64 x.Format.First),.lit (.int .i64 x.Format.Then),.lit (.bool x.Format.Doubles),.sl 1 (x.Days.map dD),.lit (.int .i64 x.Rest),.sl 3 (x.Stages.map cU)]
structure bL where
 Hour:Int
 Notices:List kY
 Slips:List aA
 Round:Int
 Place:Int
 First:Int
 Points:List Int
 Days:List (List bO)
 deriving DecidableEq,Inhabited
def fM(x:bL):List D:=[.lit (.int .i64 x.Hour),.sl 5 (x.Notices.map dW),.sl 5 (x.Slips.map aG),.lit (.int .i64 x.Round),.lit (.int .i64 x.Place),.lit (.int .i64 x.First),.sl 1 (x.Points.map aI),.sl 1 (x.Days.map dD)]
structure aK where
 Desk:cT
 Register:bL
 bout:aE
 deriving DecidableEq,Inhabited
structure iB where
 Format:bU
 deriving DecidableEq,Inhabited
def wR(x:iB):List D:=[.lit (.int .i64 x.Format.Sets),.lit (.int .i64 x.Format.Games),.lit (.bool x.Format.NoAd),.lit (.int .i64 x.Format.Tie),.lit (.int .i64 x.Format.To),.lit (.int .i64 x.Format.LastTie),.lit (.int .i64 x.Format.LastTo),.lit (.int .i64 x.Format.First),.lit (.int .i64 x.Format.Then),.lit (.bool x.Format.Doubles)]
structure aJ where
 A:Int
 B:Int
 deriving DecidableEq,Inhabited
def cH(x:aJ):List D:=[.lit (.int .i64 x.A),.lit (.int .i64 x.B)]
structure vS where
 tie:Int
 to:Int
 deriving DecidableEq,Inhabited
def aLb(x:vS):List D:=[.lit (.int .i64 x.tie),.lit (.int .i64 x.to)]
structure cX where
 Sets:List aJ
 Games:aJ
 Points:aJ
 deriving DecidableEq,Inhabited
structure cP where
 Board:cX
 Server:Int
 Ends:Int
 Balls:Int
 Winner:Int
 deriving DecidableEq,Inhabited
def bLa(x:cP):List D:=[.sl 2 (x.Board.Sets.map cH),.lit (.int .i64 x.Board.Games.A),.lit (.int .i64 x.Board.Games.B),.lit (.int .i64 x.Board.Points.A),.lit (.int .i64 x.Board.Points.B),.lit (.int .i64 x.Server),.lit (.int .i64 x.Ends),.lit (.int .i64 x.Balls),.lit (.int .i64 x.Winner)]
structure uM where
 Set:Int
 Tie:Bool
 Server:Int
 Winner:Int
 Points:aJ
 Fresh:Bool
 deriving DecidableEq,Inhabited
def fQ(x:uM):List D:=[.lit (.int .i64 x.Set),.lit (.bool x.Tie),.lit (.int .i64 x.Server),.lit (.int .i64 x.Winner),.lit (.int .i64 x.Points.A),.lit (.int .i64 x.Points.B),.lit (.bool x.Fresh)]
structure aN where
 rules:iB
 Score:cP
 first:Int
 won:aJ
 ties:List Bool
 games:List uM
 deriving DecidableEq,Inhabited
def aAu(x:aN):List D:=[.lit (.int .i64 x.rules.Format.Sets),.lit (.int .i64 x.rules.Format.Games),.lit (.bool x.rules.Format.NoAd),.lit (.int .i64 x.rules.Format.Tie),.lit (.int .i64 x.rules.Format.To),.lit (.int .i64 x.rules.Format.LastTie),.lit (.int .i64 x.rules.Format.LastTo),.lit (.int .i64 x.rules.Format.First),.lit (.int .i64 x.rules.Format.Then),.lit (.bool x.rules.Format.Doubles),.sl 2 (x.Score.Board.Sets.map cH),.lit (.int .i64 x.Score.Board.Games.A),.lit (.int .i64 x.Score.Board.Games.B),.lit (.int .i64 x.Score.Board.Points.A),.lit (.int .i64 x.Score.Board.Points.B),.lit (.int .i64 x.Score.Server),.lit (.int .i64 x.Score.Ends),.lit (.int .i64 x.Score.Balls),.lit (.int .i64 x.Score.Winner),.lit (.int .i64 x.first),.lit (.int .i64 x.won.A),.lit (.int .i64 x.won.B),.sl 1 (x.ties.map uW),.sl 7 (x.games.map fQ)]
structure dT where
 P:Int
 Q:Int
 Low:Int
 High:Int
 deriving DecidableEq,Inhabited
def gN(x:dT):List D:=[.lit (.int .i64 x.P),.lit (.int .i64 x.Q),.lit (.int .i64 x.Low),.lit (.int .i64 x.High)]
def bBi(x:List dT):List D:=[.sl 4 (x.map gN)]
structure bQ where
 Size:Int
 Strips:List dT
 Wrong:Int
 HalfX:bO
 HalfY:bO
 deriving DecidableEq,Inhabited
def dF(x:bQ):List D:=[.lit (.int .i64 x.Size),.sl 4 (x.Strips.map gN),.lit (.int .i64 x.Wrong),.lit (.int .i64 x.HalfX.Low),.lit (.int .i64 x.HalfX.High),.lit (.int .i64 x.HalfY.Low),.lit (.int .i64 x.HalfY.High)]
structure dZ where
 Left:Int
 Right:Int
 Bottom:Int
 Top:Int
 deriving DecidableEq,Inhabited
def nV(x:dZ):List D:=[.lit (.int .i64 x.Left),.lit (.int .i64 x.Right),.lit (.int .i64 x.Bottom),.lit (.int .i64 x.Top)]
structure bF where
 x:Int
 y:Int
 deriving DecidableEq,Inhabited
def dC(x:bF):List D:=[.lit (.int .i64 x.x),.lit (.int .i64 x.y)]
structure iU where
 X:Int
 Y:Int
 HalfX:Int
 HalfY:Int
 deriving DecidableEq,Inhabited
def wC(x:iU):List D:=[.lit (.int .i64 x.X),.lit (.int .i64 x.Y),.lit (.int .i64 x.HalfX),.lit (.int .i64 x.HalfY)]
structure dB where
 Kind:Int
 Side:Int
 Pair:aJ
 deriving DecidableEq,Inhabited
def lN(x:dB):List D:=[.lit (.int .i64 x.Kind),.lit (.int .i64 x.Side),.lit (.int .i64 x.Pair.A),.lit (.int .i64 x.Pair.B)]
structure zO where
 Format:bU
 First:Int
 Marks:List dB
 deriving DecidableEq,Inhabited
def aNr(x:zO):List D:=[.lit (.int .i64 x.Format.Sets),.lit (.int .i64 x.Format.Games),.lit (.bool x.Format.NoAd),.lit (.int .i64 x.Format.Tie),.lit (.int .i64 x.Format.To),.lit (.int .i64 x.Format.LastTie),.lit (.int .i64 x.Format.LastTo),.lit (.int .i64 x.Format.First),.lit (.int .i64 x.Format.Then),.lit (.bool x.Format.Doubles),.lit (.int .i64 x.First),.sl 4 (x.Marks.map lN)]
structure aBv where
 Player:Int
 One:Int
 Two:Int
 deriving DecidableEq,Inhabited
def bOx(x:aBv):List D:=[.lit (.int .i64 x.Player),.lit (.int .i64 x.One),.lit (.int .i64 x.Two)]
structure sK where
 Person:Int
 Mille:Int
 deriving DecidableEq,Inhabited
def tE(x:sK):List D:=[.lit (.int .i64 x.Person),.lit (.int .i64 x.Mille)]
structure rE where
 Person:Int
 Num:Int
 Den:Int
 deriving DecidableEq,Inhabited
def tF(x:rE):List D:=[.lit (.int .i64 x.Person),.lit (.int .i64 x.Num),.lit (.int .i64 x.Den)]
structure aR where
 Id:Int
 Kind:Int
 Person:Int
 Amount:Int
 deriving DecidableEq,Inhabited
def bD(x:aR):List D:=[.lit (.int .i64 x.Id),.lit (.int .i64 x.Kind),.lit (.int .i64 x.Person),.lit (.int .i64 x.Amount)]
structure eF where
 Tree:aD
 Slips:List aA
 Prizes:List Int
 Daily:Int
 Teams:List aBv
 Levies:List sK
 Rates:List rE
 Items:List aR
 deriving DecidableEq,Inhabited
def tS(x:eF):List D:=[.lit (.int .i64 x.Tree.Rounds),.sl 1 (x.Tree.Slots.map aI),.sl 5 (x.Slips.map aG),.sl 1 (x.Prizes.map aI),.lit (.int .i64 x.Daily),.sl 3 (x.Teams.map bOx),.sl 2 (x.Levies.map tE),.sl 3 (x.Rates.map tF),.sl 4 (x.Items.map bD)]
def aZh(x:oO):Prop:=okI x.Places/\okI x.Wilds/\okI x.Guards/\okI x.Close/\okI x.Freeze
def aVa(x:bU):Prop:=okI x.Sets/\okI x.Games/\okB x.NoAd/\okI x.Tie/\okI x.To/\okI x.LastTie/\okI x.LastTo/\okI x.First/\okI x.Then/\okB x.Doubles
def yY(x:bO):Prop:=okI x.Low/\okI x.High
def aOm(x:bP):Prop:=yY x.Length/\okI x.Due
def aKg(x:cT):Prop:=aZh x.Field/\bEc x.Tree/\aVa x.Format/\(okL (okL yY)) x.Days/\okI x.Rest/\(okL aOm) x.Stages
def aOn(x:dT):Prop:=okI x.P/\okI x.Q/\okI x.Low/\okI x.High
def bEd(x:bQ):Prop:=okI x.Size/\(okL aOn) x.Strips/\okI x.Wrong/\yY x.HalfX/\yY x.HalfY
def bIm(x:dZ):Prop:=okI x.Left/\okI x.Right/\okI x.Bottom/\okI x.Top
def bEb(x:iU):Prop:=okI x.X/\okI x.Y/\okI x.HalfX/\okI x.HalfY
def fW(a:Int)(b:Int)(c:Int):Option Bool:=
  (bif decide (b<=a) then(some (decide (a<=c))) else(some false)).bind λd=>
  some d
def zY:Option Bool:=
  some true
def jR(a:List Int)(b:Int)(c:aD):Nat->Int->(List (Int×Int))->Option Bool
 |0,_,_=>none
 | h+1,i,j=>
  bif decide (i<b) then((idx a i).bind λd=>
  bif decide (d=(-1)) then((idx c.Slots (bAu i 1)).bind λe=>
  bif decide (e=(-1)) then(some false)
  else((jR a b c h) (w64 (i+1)) j))
  else((bif decide (1<(cE d 0 (eM d (w64 ((cE d 0 j)+1)) j))) then(some true) else((fW d 0 999).bind λf=>
  some (!f))).bind λg=>
  bif g then(some false)
  else((jR a b c h) (w64 (i+1)) (eM d (w64 ((cE d 0 j)+1)) j))))
  else(zY)
def rG(a:aD):Option Bool:=
  (fW a.Rounds 1 5).bind λb=>
  (bif !b then(some true) else((chk (decide (0<=a.Rounds))).bind λ_=>
  some (!decide ((a.Slots.length:Int)=(w64 (1*2^(min a.Rounds.toNat 64))))))).bind λc=>
  bif c then(some false)
  else(jR a.Slots (a.Slots.length:Int) a BIG 0 ([]:List (Int×Int)))
def oZ:Option Int:=
  some (-1)
def eO(a:List aA)(b:aA->Option Bool)(c:Int):Nat->Int->Option Int
 |0,_=>none
 | f+1,g=>
  bif decide (g<c) then((idx a g).bind λd=>
  (b d).bind λe=>
  bif e then(some g)
  else((eO a b c f) (w64 (g+1))))
  else(oZ)
def jX(a:List aA)(b:aA->Option Bool):Option Int:=
  eO a b (a.length:Int) BIG 0
def iK(a:List aA)(b:aA->Option Bool):Option Bool:=
  (jX a b).bind λc=>
  some (decide (0<=c))
def oQ(a:aB)(b:aD):Option Bool:=
  (fW a.round 0 (w64 (b.Rounds-1))).bind λc=>
  (bif c then((chk (decide (0<=(w64 (a.round+1))))).bind λ_=>
  (fW a.place 0 (w64 (((b.Slots.length:Int).fdiv (2^(min (w64 (a.round+1)).toNat 64)))-1))).bind λd=>
  some d) else(some false)).bind λe=>
  some e
def xU:Option Int:=
  some (-1)
def jU(a:List Int)(b:Int)(c:Int):Nat->Int->Option Int
 |0,_=>none
 | e+1,f=>
  bif decide (f<c) then((idx a f).bind λd=>
  bif decide (b=d) then(some f)
  else((jU a b c e) (w64 (f+1))))
  else(xU)
def kK(a:List Int)(b:Int):Option Int:=
  jU a b (a.length:Int) BIG 0
def cM(a:List Int)(b:Int):Option Bool:=
  (kK a b).bind λc=>
  some (decide (0<=c))
def uP(a:aD)(b:aA):Option Bool:=
  (fW b.Player 0 999).bind λc=>
  bif !c then(some false)
  else(bif decide (b.Kind=5) then((bif decide (b.Round=0) then((fW b.Place 0 (w64 ((a.Slots.length:Int)-1))).bind λd=>
  some d) else(some false)).bind λe=>
  (bif e then((fW b.Old 0 999).bind λf=>
  some f) else(some false)).bind λg=>
  some g)
  else((fW b.Kind 1 4).bind λh=>
  (bif !h then(some true) else(some (!decide (b.Old=0)))).bind λi=>
  (bif i then(some true) else((oQ (aB.mk b.Round b.Place) a).bind λj=>
  some (!j))).bind λk=>
  bif k then(some false)
  else((bif decide (0<b.Round) then(some true) else((sub a.Slots (w64 (2*b.Place)) (w64 ((w64 (2*b.Place))+2))).bind λl=>
  (cM l (-1)).bind λm=>
  some (!m))).bind λn=>
  some n)))
def rH(a:aA)(b:aD):Option Bool:=
  (uP b a).bind λc=>
  some (!c)
def gO(a:List Int):Option ((List Int)):=
  (app 8 ([]:List Int) a).bind λb=>
  some b
def qU(a:(aA×Bool)->Prop)(_:List Int)(_:aD)(_:List (aA×Int))(_:aA):Prop:=
  a ((aA.mk 0 0 0 0 0),false)
def jB(a:(aA×Bool)->Prop)(b:Int)(c:List Int)(d:aD)(e:List (aA×Int)):Nat->aA->(List (aA×Int))->Prop
 |0,_,_=>False
 | j+1,k,l=>
  bIj l (qU a c d e k)
  (λf g=>
  nb (bif decide (f.1.Place=b) then((idx c b).bind λh=>
  some (decide (f.1.Old=h))) else(some false)) λi=>
  bif i then(a (f.1,true))
  else((jB a b c d e j) k g))
def jQ(a:aD)(b:List Int)(c:List (aA×Int))(d:Int)(Q:(aA×Bool)->Prop):Prop:=
  aMd c λe=>
  jB Q d b a c BIG (aA.mk 0 0 0 0 0) e
def oH(_:(Bool×(List Int)×(List (aA×Int)))->Prop)(a:Int->(List Int)->(List (aA×Int))->(List Int)->Prop)(_:Int)(b:Int)(c:List Int)(_:aD)(d:List (aA×Int))(e:List Int):Prop:=
  a (w64 (b+1)) c d e
def oI(a:(Bool×(List Int)×(List (aA×Int)))->Prop)(b:Int->(List Int)->(List (aA×Int))->(List Int)->Prop)(c:Int)(d:Int)(e:List Int)(f:aD)(g:List (aA×Int))(h:List Int):Prop:=
  oH a b c d e f g h
def dO(a:(Bool×(List Int)×(List (aA×Int)))->Prop)(b:Int->(List Int)->(List (aA×Int))->(List Int)->Prop)(c:Int)(d:Int)(e:Int)(f:aD):Nat->Bool->(List Int)->(List (aA×Int))->aA->(List Int)->Prop
 |0,_,_,_,_,_=>False
 | j+1,k,l,m,n,o=>
  bif k then(nb (cM o n.Player) λg=>
  bif g then(a (false,l,m))
  else(nb (idx l c) λ_=>
  nb (app 8 o ([n.Player])) λh=>
  jQ f (l.set c.toNat n.Player) (tU n m) c λi=>
  (dO a b c d e f j) i.2 (l.set c.toNat n.Player) (tU n m) i.1 h))
  else(oI a b d e l f m o)
def oG(a:(Bool×(List Int)×(List (aA×Int)))->Prop)(b:List Int)(_:aD)(c:List (aA×Int)):Prop:=
  a (decide ((c.length:Int)=0),b,c)
def cJ(a:(Bool×(List Int)×(List (aA×Int)))->Prop)(b:Int)(c:aD):Nat->Int->(List Int)->(List (aA×Int))->(List Int)->Prop
 |0,_,_,_,_=>False
 | e+1,f,g,h,i=>
  bif decide (f<b) then(jQ c g h f λd=>
  dO a (cJ a b c e) f b f c BIG d.2 g h d.1 i)
  else(oG a g c h)
def mZ(a:aD)(b:List Int)(c:List (aA×Int))(Q:(Bool×(List Int)×(List (aA×Int)))->Prop):Prop:=
  nb (gO a.Slots) λd=>
  cJ Q (b.length:Int) a BIG 0 b c d
def vX(a:Int)(b:Int):Option aB:=
  (chk (decide (0<=(w64 (a+1))))).bind λ_=>
  some (aB.mk a (b.fdiv (2^(min (w64 (a+1)).toNat 64))))
def vW(_:List Int)(a:List (aB×Int))(_:aD):Option (Bool×(List (aB×Int))):=
  some (true,a)
def jC(a:Int)(b:Int)(c:List Int)(d:aD):Nat->Int->(List (aB×Int))->Option (Bool×(List (aB×Int)))
 |0,_,_=>none
 | i+1,j,k=>
  bif decide (j<b) then((vX j a).bind λe=>
  (bif cI e k then((idx c a).bind λf=>
  some (!decide ((cE e 0 k)=f))) else(some false)).bind λg=>
  bif g then(some (false,k))
  else((idx c a).bind λh=>
  (jC a b c d i) (w64 (j+1)) (eM e h k)))
  else(vW c k d)
def nR(a:aD)(b:List Int)(c:List (aB×Int))(d:Int)(e:Int):Option (Bool×(List (aB×Int))):=
  jC d (w64 (e+1)) b a BIG 0 c
def aBg(a:((Option aU)×Bool)->Prop)(b:List Int)(c:List (aB×Int))(d:aD):Prop:=
  a ((some (aU.mk d b c)),true)
def lR(a:((Option aU)×Bool)->Prop)(b:List Int)(c:aD)(d:List (aB×aA)):Nat->(List (aB×Int))->(List (aB×aA))->Prop
 |0,_,_=>False
 | k+1,l,m=>
  bIj m (aBg a b l c)
  (λe f=>
  nb (kK b e.2.Player) λg=>
  nb (bif decide (g<0) then(some true) else((vX e.1.round g).bind λh=>
  some (!decide (h=e.1)))) λi=>
  bif i then(a ((none:Option aU),false))
  else(nb (nR c b l g e.1.round) λj=>
  bif !j.1 then(a ((none:Option aU),false))
  else((lR a b c d k) j.2 f)))
def vU(a:((Option aU)×Bool)->Prop)(b:List Int)(c:List (aB×Int))(d:aD)(e:List (aB×aA)):Prop:=
  aMd e λf=>
  lR a b d e BIG c f
def iZ(a:((Option aU)×Bool)->Prop)(b:Int)(c:List Int)(d:aD)(e:List (aB×aA)):Nat->Int->(List (aB×Int))->Prop
 |0,_,_=>False
 | h+1,i,j=>
  bif decide (i<b) then(nb (idx c i) λf=>
  bif decide (f=(-1)) then(nb (nR d c j (bAu i 1) 0) λg=>
  (iZ a b c d e h) (w64 (i+1)) g.2)
  else((iZ a b c d e h) (w64 (i+1)) j))
  else(vU a c j d e)
def vT(a:((Option aU)×Bool)->Prop)(b:List Int)(c:List (aB×Int))(d:aD)(e:List (aA×Int))(f:List (aB×aA)):Prop:=
  mZ d b e λg=>
  bif !g.1 then(a ((none:Option aU),false))
  else(iZ a (g.2.1.length:Int) g.2.1 d f BIG 0 c)
def iY(a:((Option aU)×Bool)->Prop)(b:List aA)(c:Int)(d:List Int)(e:List (aB×Int))(f:aD):Nat->Int->(List (aA×Int))->(List (aB×aA))->Prop
 |0,_,_,_=>False
 | i+1,j,k,l=>
  bif decide (j<c) then(nb (idx b j) λg=>
  bif decide (g.Kind=5) then((iY a b c d e f i) (w64 (j+1)) (eM g (w64 ((cE g 0 k)+1)) k) l)
  else(nb (bif cI (aB.mk g.Round g.Place) l then(some (!decide ((cE (aB.mk g.Round g.Place) (aA.mk 0 0 0 0 0) l)=g))) else(some false)) λh=>
  bif h then(a ((none:Option aU),false))
  else((iY a b c d e f i) (w64 (j+1)) k (eM (aB.mk g.Round g.Place) g l))))
  else(vT a d e f k l)
def wP(a:aD)(b:List aA)(Q:((Option aU)×Bool)->Prop):Prop:=
  nb (gO a.Slots) λc=>
  iY Q b (b.length:Int) c ([]:List (aB×Int)) a BIG 0 ([]:List (aA×Int)) ([]:List (aB×aA))
def lH(a:aD)(b:List aA)(Q:((Option aU)×Int)->Prop):Prop:=
  nb (rG a) λc=>
  bif !c then(Q ((none:Option aU),70))
  else(nb (bif decide (60<(b.length:Int)) then(some true) else((iK b (λd=>rH d a)).bind λe=>
  some e)) λf=>
  bif f then(Q ((none:Option aU),71))
  else(wP a b λg=>
  bif !g.2 then(Q ((none:Option aU),72))
  else(Q (g.1,0))))
def nQ(a:aU)(b:aB)(c:Int):Option Int:=
  bif decide (b.round=0) then((idx a.players (w64 ((w64 (2*b.place))+c))).bind λd=>
  some d)
  else(bif cI (aB.mk (w64 (b.round-1)) (w64 ((w64 (2*b.place))+c))) a.won then(some (cE (aB.mk (w64 (b.round-1)) (w64 ((w64 (2*b.place))+c))) 0 a.won))
  else(some (-2)))
def sI{S:Type}(_:S->aB->aE->Option S)(a:Int->S->Option S)(_:aU)(_:Int)(b:Int)(c:S):Option S:=
  a (w64 (b+1)) c
def kS{S:Type}(a:S->aB->aE->Option S)(b:Int->S->Option S)(c:aU)(d:Int)(e:Int)(f:S):Option S:=
  sI a b c d e f
def fE{S:Type}(a:S->aB->aE->Option S)(b:Int->S->Option S)(c:aU)(d:Int)(e:Int)(f:Int)(g:Int):Nat->Int->S->Option S
 |0,_,_=>none
 | k+1,l,m=>
  bif decide (l<g) then((nQ c (aB.mk d l) 0).bind λh=>
  (nQ c (aB.mk d l) 1).bind λi=>
  (a m (aB.mk d l) (aE.mk d l h i)).bind λj=>
  (fE a b c d e f g k) (w64 (l+1)) j)
  else(kS a b c e f m)
def sH{S:Type}(_:S->aB->aE->Option S)(a:S):Option S:=
  some a
def cO{S:Type}(a:S->aB->aE->Option S)(b:aU)(c:Int):Nat->Int->S->Option S
 |0,_,_=>none
 | d+1,e,f=>
  bif decide (e<c) then((chk (decide (0<=(w64 (e+1))))).bind λ_=>
  fE a (cO a b c d) b e c e ((b.Tree.Slots.length:Int).fdiv (2^(min (w64 (e+1)).toNat 64))) BIG 0 f)
  else(sH a f)
def jA{S:Type}(a:aU)(b:S->aB->aE->Option S)(c:S):Option S:=
  cO b a a.Tree.Rounds BIG 0 c
def wM(a:aD)(b:List aA)(Q:((List aE)×Int)->Prop):Prop:=
  lH a b λc=>
  bif !decide (c.2=0) then(Q (([]:List aE),c.2))
  else(nb (c.1) λd=>
  nb (jA (S:=(List aE)) d (λe _ f=>
  (app 32 e ([f])).bind λg=>
  some g) ([]:List aE)) λh=>
  Q (h,0))
def oD:Option Int:=
  some (-1)
def eH(a:List bP)(b:bP->Option Bool)(c:Int):Nat->Int->Option Int
 |0,_=>none
 | f+1,g=>
  bif decide (g<c) then((idx a g).bind λd=>
  (b d).bind λe=>
  bif e then(some g)
  else((eH a b c f) (w64 (g+1))))
  else(oD)
def jK(a:List bP)(b:bP->Option Bool):Option Int:=
  eH a b (a.length:Int) BIG 0
def gR(a:List bP)(b:bP->Option Bool):Option Bool:=
  (jK a b).bind λc=>
  some (decide (0<=c))
def kN(a:Int)(b:Int)(c:Int):Option Bool:=
  (bif decide (b<=a) then(some (decide (a<=c))) else(some false)).bind λd=>
  some d
def tW(a:bO)(b:Int)(c:Int):Option Bool:=
  (bif decide (a.Low<=a.High) then((kN a.Low b c).bind λd=>
  some d) else(some false)).bind λe=>
  (bif e then((kN a.High b c).bind λf=>
  some f) else(some false)).bind λg=>
  some g
def zB(a:bO)(b:Int):Option Bool:=
  (tW a 1 600).bind λc=>
  (bif c then((kN b 0 2).bind λd=>
  some d) else(some false)).bind λe=>
  some e
def aAk(a:bP):Option Bool:=
  (zB a.Length a.Due).bind λb=>
  some (!b)
def vV(a:aD)(b:List aA)(c:Int)(d:Int)(Q:((Option aU)×aB×Int)->Prop):Prop:=
  lH a b λe=>
  nb (bif decide (e.2=0) then((oQ (aB.mk c d) a).bind λf=>
  some (!f)) else(some false)) λg=>
  bif g then(Q (e.1,(aB.mk c d),1))
  else(Q (e.1,(aB.mk c d),e.2))
def uO(a:aD)(b:List aA)(c:Int)(d:Int)(Q:(Int×Int)->Prop):Prop:=
  vV a b c d λe=>
  bif !decide (e.2.2=0) then(Q (0,e.2.2))
  else(nb (e.1) λf=>
  bif !(cI e.2.1 f.won) then(Q (0,3))
  else(Q (cE e.2.1 0 f.won,0)))
def sX(a:aD)(b:List aA):Option ((List aE)×Int):=jE a b
def vY(a:aD)(b:List aA)(c:Int)(d:Int):Option (Int×Int):=eQ a b c d
def vE(a:Int->(List bS)->(List aE)->Option ((List bS)×(List aE)×Int))(_:List aA)(_:List bP)(_:List aE)(_:Int)(b:Int)(_:aD)(c:List bS)(d:List aE):Option ((List bS)×(List aE)×Int):=
  a (w64 (b+1)) c d
def aDj(a:Int->(List bS)->(List aE)->Option ((List bS)×(List aE)×Int))(b:List aA)(c:List bP)(d:List aE)(e:Int)(f:Int)(g:aD)(h:List bS)(i:List aE)(j:aE)(k:List Int)(l:bO)(m:List Int)(n:Int)(o:Int):Option ((List bS)×(List aE)×Int):=
  (app 80 h ([(bS.mk l k m n o)])).bind λp=>
  (app 32 i ([j])).bind λq=>
  vE a b c d e f g p q
def pP(a:Int->(List bS)->(List aE)->Option ((List bS)×(List aE)×Int))(b:List aA)(c:List bP)(d:List aE)(e:Int)(f:Int)(g:Int)(h:aD)(i:List bS)(j:List aE)(k:aE):Nat->Int->(List Int)->bO->(List Int)->Int->Int->Option ((List bS)×(List aE)×Int)
 |0,_,_,_,_,_,_=>none
 | o+1,p,q,r,s,t,u=>
  bif decide (p<g) then((idx j p).bind λl=>
  (bif decide (l.Round=(w64 (k.Round-1))) then(some (decide ((w64 (l.Place.tdiv 2))=k.Place))) else(some false)).bind λm=>
  bif m then((app 8 q ([p])).bind λn=>
  (pP a b c d e f g h i j k o) (w64 (p+1)) n r s t u)
  else((pP a b c d e f g h i j k o) (w64 (p+1)) q r s t u))
  else(aDj a b c d e f h i j k q r s t u)
def zA(a:List bS)(b:List aE):Option ((List bS)×(List aE)×Int):=
  bif decide (6<(a.length:Int)) then(some (([]:List bS),([]:List aE),2))
  else(some (a,b,0))
def jJ(a:List aA)(b:List bP)(c:List aE)(d:Int)(e:aD):Nat->Int->(List bS)->(List aE)->Option ((List bS)×(List aE)×Int)
 |0,_,_,_=>none
 | j+1,k,l,m=>
  bif decide (k<d) then((idx c k).bind λf=>
  (vY e a f.Round f.Place).bind λg=>
  bif decide (g.2=0) then(vE (jJ a b c d e j) a b c d k e l m)
  else((idx b f.Round).bind λh=>
  (idx b f.Round).bind λi=>
  pP (jJ a b c d e j) a b c d k (m.length:Int) e l m f BIG 0 ([]:List Int) h.Length ([]:List Int) i.Due 0))
  else(zA l m)
def vO(a:aD)(b:List aA)(c:List bP):Option ((List bS)×(List aE)×Int):=
  (sX a b).bind λd=>
  bif !decide (d.2=0) then(some (([]:List bS),([]:List aE),d.2))
  else((bif !decide ((c.length:Int)=a.Rounds) then(some true) else((gR c (λe=>aAk e)).bind λf=>
  some f)).bind λg=>
  bif g then(some (([]:List bS),([]:List aE),82))
  else(jJ b c d.1 (d.1.length:Int) a BIG 0 ([]:List bS) ([]:List aE)))
def nD(a:Int)(b:Int)(c:Int):Option Bool:=
  (bif decide (b<=a) then(some (decide (a<=c))) else(some false)).bind λd=>
  some d
def aAv(a:oO):Option Bool:=
  (nD a.Places 1 32).bind λb=>
  (bif b then((nD a.Wilds 0 32).bind λc=>
  some c) else(some false)).bind λd=>
  (bif d then((nD a.Guards 0 32).bind λe=>
  some e) else(some false)).bind λf=>
  (bif f then((nD a.Close 0 9999).bind λg=>
  some g) else(some false)).bind λh=>
  (bif h then((nD a.Freeze a.Close 9999).bind λi=>
  some i) else(some false)).bind λj=>
  some j
def aLv:Option Int:=
  some 0
def zR(_:List kY)(a:Int)(_:List (Int×kY)):Nat->Int->Option Int
 |0,_=>none
 | _+1,b=>
  bif decide (b<a) then(none)
  else(aLv)
def aAg(a:oO)(b:List kY):Option Int:=
  (aAv a).bind λc=>
  bif !c then(some 50)
  else(bif decide (60<(b.length:Int)) then(none)
  else(zR b (b.length:Int) ([]:List (Int×kY)) BIG 0))
def pA:Option Int:=
  some (-1)
def eP(a:List bO)(b:bO->Option Bool)(c:Int):Nat->Int->Option Int
 |0,_=>none
 | f+1,g=>
  bif decide (g<c) then((idx a g).bind λd=>
  (b d).bind λe=>
  bif e then(some g)
  else((eP a b c f) (w64 (g+1))))
  else(pA)
def jY(a:List bO)(b:bO->Option Bool):Option Int:=
  eP a b (a.length:Int) BIG 0
def iL(a:List bO)(b:bO->Option Bool):Option Bool:=
  (jY a b).bind λc=>
  some (decide (0<=c))
def yZ(a:bO):Option Bool:=
  (tW a 0 1440).bind λb=>
  some (!b)
def aQa:Option Int:=
  some 0
def aGx(_:List bS)(a:Int)(_:cY):Nat->Int->Option Int
 |0,_=>none
 | _+1,b=>
  bif decide (b<a) then(none)
  else(aQa)
def wU(a:cY):Option Int:=
  aGx a.Jobs (a.Jobs.length:Int) a BIG 0
def nX(a:List (List bO))(b:Int)(c:cY):Nat->Int->Option Int
 |0,_=>none
 | j+1,k=>
  bif decide (k<b) then((idx a k).bind λd=>
  (kN (d.length:Int) 1 3).bind λe=>
  (bif !e then(some true) else((idx c.Days 0).bind λf=>
  some (!decide ((d.length:Int)=(f.length:Int))))).bind λg=>
  bif g then(some 80)
  else((iL d (λh=>yZ h)).bind λi=>
  bif i then(some 80)
  else((nX a b c j) (w64 (k+1)))))
  else(wU c)
def wG(a:cY):Option Int:=
  (kN (a.Days.length:Int) 1 3).bind λb=>
  (bif !b then(some true) else((kN a.Rest 0 600).bind λc=>
  some (!c))).bind λd=>
  (bif d then(some true) else(some (decide (6<(a.Jobs.length:Int))))).bind λe=>
  bif e then(some 80)
  else(nX a.Days (a.Days.length:Int) a BIG 0)
def wN(a:aD)(b:List aA)(Q:Int->Prop):Prop:=
  lH a b λc=>
  Q c.2
def lI(a:Int)(b:Int)(c:Int):Option Bool:=
  (bif decide (b<=a) then(some (decide (a<=c))) else(some false)).bind λd=>
  some d
def sV(a:Int)(b:bU):Option Bool:=
  (bif decide (a=(-1)) then(some true) else(some (decide (a=0)))).bind λc=>
  (bif c then(some true) else(some (decide (a=(w64 (b.Games-1)))))).bind λd=>
  (bif d then(some true) else(some (decide (a=b.Games)))).bind λe=>
  some e
def tZ(a:bU):Option Int:=
  (lI a.Sets 1 3).bind λb=>
  (bif b then((lI a.Games 1 8).bind λc=>
  some c) else(some false)).bind λd=>
  (bif d then((sV a.Tie a).bind λe=>
  some e) else(some false)).bind λf=>
  (bif f then((sV a.LastTie a).bind λg=>
  some g) else(some false)).bind λh=>
  (bif h then((lI a.To 1 15).bind λi=>
  some i) else(some false)).bind λj=>
  (bif j then((lI a.LastTo 1 15).bind λk=>
  some k) else(some false)).bind λl=>
  (bif l then((lI a.First 0 20).bind λm=>
  some m) else(some false)).bind λn=>
  (bif n then((lI a.Then 0 20).bind λo=>
  some o) else(some false)).bind λp=>
  bif p then(some 0)
  else(some 10)
def pU(a:aD)(b:List aA):Option Int:=dU a b
def wV(a:cT):Option Int:=
  (vO a.Tree ([]:List aA) a.Stages).bind λb=>
  (aAg a.Field ([]:List kY)).bind λc=>
  bif !decide (c=0) then(bif !decide (c=0) then(some 120)
  else((wG (cY.mk a.Days a.Rest ([]:List bS))).bind λd=>
  bif !decide (d=0) then(bif !decide (d=0) then(some 120)
  else(some 0))
  else((bif !decide (b.2.2=0) then(some (!decide (b.2.2=2))) else(some false)).bind λe=>
  bif e then(some 120)
  else(some 0))))
  else((pU a.Tree ([]:List aA)).bind λf=>
  bif !decide (f=0) then(bif !decide (f=0) then(some 120)
  else((wG (cY.mk a.Days a.Rest ([]:List bS))).bind λg=>
  bif !decide (g=0) then(bif !decide (g=0) then(some 120)
  else(some 0))
  else((bif !decide (b.2.2=0) then(some (!decide (b.2.2=2))) else(some false)).bind λh=>
  bif h then(some 120)
  else(some 0))))
  else((tZ a.Format).bind λi=>
  bif !decide (i=0) then(some 120)
  else((wG (cY.mk a.Days a.Rest ([]:List bS))).bind λj=>
  bif !decide (j=0) then(bif !decide (j=0) then(some 120)
  else(some 0))
  else((bif !decide (b.2.2=0) then(some (!decide (b.2.2=2))) else(some false)).bind λk=>
  bif k then(some 120)
  else(some 0)))))
def wO(a:aD)(b:List aA)(Q:((List aE)×Int)->Prop):Prop:=
  lH a b λc=>
  bif !decide (c.2=0) then(Q (([]:List aE),c.2))
  else(nb (c.1) λd=>
  nb (jA (S:=(List aE)) d (λe f g=>
  (c.1).bind λh=>
  (bif !(cI f h.won) then(some (decide (0<=(min g.One g.Two)))) else(some false)).bind λi=>
  bif i then((app 32 e ([g])).bind λj=>
  some j)
  else(some e)) ([]:List aE)) λk=>
  Q (k,0))
def oY:Option Int:=
  some (-1)
def eN(a:List aE)(b:aE->Option Bool)(c:Int):Nat->Int->Option Int
 |0,_=>none
 | f+1,g=>
  bif decide (g<c) then((idx a g).bind λd=>
  (b d).bind λe=>
  bif e then(some g)
  else((eN a b c f) (w64 (g+1))))
  else(oY)
def mU(a:List aE)(b:aE->Option Bool):Option Int:=
  eN a b (a.length:Int) BIG 0
def nI(a:aE)(b:Int)(c:Int):Option Bool:=
  (bif decide (a.Round=b) then(some (decide (a.Place=c))) else(some false)).bind λd=>
  some d
def xY(a:aD)(b:List aA):Option ((List aE)×Int):=lT a b
def pR(a:aK)(b:Int)(c:Int):Option (aE×Bool):=
  (xY a.Desk.Tree a.Register.Slips).bind λd=>
  (mU d.1 (λe=>nI e b c)).bind λf=>
  bif decide (f<0) then(some ((aE.mk 0 0 0 0),false))
  else((idx d.1 f).bind λg=>
  some (g,true))
def kQ(a:aK):Option Bool:=
  some (decide (0<=a.Register.Round))
def jS(a:aK)(b:Int)(c:Int)(d:Int):Option (Str×aK):=
  (pR a b c).bind λe=>
  (kQ a).bind λf=>
  (bif f then(some true) else(some (decide (1<d)))).bind λg=>
  (bif g then(some true) else(some (!e.2))).bind λh=>
  bif h then(some (([110,111]:Str),a))
  else(some (([111,107]:Str),(aK.mk a.Desk (bL.mk a.Register.Hour a.Register.Notices a.Register.Slips b c d a.Register.Points a.Register.Days) e.1)))
def nM(a:iB)(b:aJ):Option vS:=
  (bif decide (b.A=(w64 (a.Format.Sets-1))) then(some (decide (b.B=(w64 (a.Format.Sets-1))))) else(some false)).bind λc=>
  bif c then(some (vS.mk a.Format.LastTie a.Format.LastTo))
  else(some (vS.mk a.Format.Tie a.Format.To))
def rU(a:vS)(b:aJ):Option Bool:=
  (bif decide (b.A=a.tie) then(some (decide (b.B=a.tie))) else(some false)).bind λc=>
  some c
def gI(a:aN):Option Int:=
  some (w64 ((a.ties.length:Int)-1))
def qB(a:iB)(b:Int):Option Bool:=
  (bif decide (0<a.Format.First) then((bif decide ((w64 (b-a.Format.First))=0) then(some true) else((bif decide (0<(w64 (b-a.Format.First))) then(some (decide (0<a.Format.Then))) else(some false)).bind λc=>
  (bif c then((chk (!decide (a.Format.Then=0))).bind λ_=>
  some (decide (((w64 (b-a.Format.First)).tmod a.Format.Then)=0))) else(some false)).bind λd=>
  some d)).bind λe=>
  some e) else(some false)).bind λf=>
  some f
def nT(a:aN):Option Bool:=
  (gI a).bind λb=>
  (idx a.ties b).bind λc=>
  (bif !c then((qB a.rules b).bind λd=>
  some d) else(some false)).bind λe=>
  (bif e then(some true) else((bif decide (2<=b) then((idx a.ties (w64 (b-2))).bind λf=>
  some f) else(some false)).bind λg=>
  (bif g then((qB a.rules (w64 (b-2))).bind λh=>
  some h) else(some false)).bind λi=>
  some i)).bind λj=>
  some j
def gJ(a:aN)(b:Int):Option Int:=
  (gI a).bind λc=>
  (idx a.ties c).bind λd=>
  bif d then(bif !a.rules.Format.Doubles then(some ((w64 ((w64 (a.first+c))+(w64 ((w64 (b+1)).tdiv 2)))).tmod 2))
  else(some (w64 (((w64 ((w64 (a.first+c))+(w64 ((w64 (b+1)).tdiv 2)))).tmod 2)+(w64 (2*((w64 ((w64 ((w64 (c+((w64 ((w64 (b+1)).tdiv 2)).tmod 2))).tdiv 2))+(w64 ((w64 ((w64 (b+1)).tdiv 2)).tdiv 2)))).tmod 2)))))))
  else(bif !a.rules.Format.Doubles then(some ((w64 ((w64 (a.first+c))+0)).tmod 2))
  else(some (w64 (((w64 ((w64 (a.first+c))+0)).tmod 2)+(w64 (2*((w64 ((w64 ((w64 (c+((0:Int).tmod 2))).tdiv 2))+(w64 ((0:Int).tdiv 2)))).tmod 2)))))))
def dN(a:aN):Option aN:=
  bif decide (0<=a.Score.Winner) then(some (aN.mk a.rules (cP.mk a.Score.Board (-1) a.Score.Ends a.Score.Balls a.Score.Winner) a.first a.won a.ties a.games))
  else((nM a.rules a.won).bind λb=>
  (rU b a.Score.Board.Games).bind λc=>
  (app 1 a.ties ([c])).bind λd=>
  (nT (aN.mk a.rules a.Score a.first a.won d a.games)).bind λe=>
  bif e then((gJ (aN.mk a.rules (cP.mk a.Score.Board a.Score.Server a.Score.Ends (w64 (a.Score.Balls+1)) a.Score.Winner) a.first a.won d a.games) 0).bind λf=>
  some (aN.mk a.rules (cP.mk a.Score.Board f a.Score.Ends (w64 (a.Score.Balls+1)) a.Score.Winner) a.first a.won d a.games))
  else((gJ (aN.mk a.rules a.Score a.first a.won d a.games) 0).bind λg=>
  some (aN.mk a.rules (cP.mk a.Score.Board g a.Score.Ends a.Score.Balls a.Score.Winner) a.first a.won d a.games)))
def aAo(a:iB)(b:Int):Option aN:=
  (dN (aN.mk a (cP.mk (cX.mk ([]:List aJ) (aJ.mk 0 0) (aJ.mk 0 0)) 0 0 0 (-1)) b (aJ.mk 0 0) ([]:List Bool) ([]:List uM))).bind λc=>
  some c
def vP(a:aJ)(b:Int):Option aJ:=
  bif decide (b=0) then(some (aJ.mk (w64 (a.A+1)) a.B))
  else(some (aJ.mk a.A (w64 (a.B+1))))
def zH(a:aJ):Option Int:=
  some (w64 (a.A+a.B))
def mW(a:aJ)(b:Int)(c:Int):Option Int:=
  (bif decide (b<=a.A) then(some (decide (c<=(w64 (a.A-a.B))))) else(some false)).bind λd=>
  bif d then(some 0)
  else((bif decide (b<=a.B) then(some (decide (c<=(w64 (a.B-a.A))))) else(some false)).bind λe=>
  bif e then(some 1)
  else(some (-1)))
def oX(a:iB)(b:vS)(c:Bool)(d:aJ):Option Int:=
  bif c then((mW d b.to 2).bind λe=>
  some e)
  else(bif a.Format.NoAd then((mW d 4 1).bind λf=>
  some f)
  else((mW d 4 2).bind λg=>
  some g))
def nU(a:aN)(b:Int):Option aN:=
  (nM a.rules a.won).bind λc=>
  (gI a).bind λd=>
  (idx a.ties d).bind λe=>
  (vP a.Score.Board.Points b).bind λf=>
  (zH f).bind λg=>
  (oX a.rules c e f).bind λh=>
  bif decide (h<0) then((bif e then(some (decide ((g.tmod 6)=0))) else(some false)).bind λi=>
  bif i then((gJ (aN.mk a.rules (cP.mk (cX.mk a.Score.Board.Sets a.Score.Board.Games f) a.Score.Server (w64 (a.Score.Ends+1)) a.Score.Balls a.Score.Winner) a.first a.won a.ties a.games) g).bind λj=>
  some (aN.mk a.rules (cP.mk (cX.mk a.Score.Board.Sets a.Score.Board.Games f) j (w64 (a.Score.Ends+1)) a.Score.Balls a.Score.Winner) a.first a.won a.ties a.games))
  else((gJ (aN.mk a.rules (cP.mk (cX.mk a.Score.Board.Sets a.Score.Board.Games f) a.Score.Server a.Score.Ends a.Score.Balls a.Score.Winner) a.first a.won a.ties a.games) g).bind λk=>
  some (aN.mk a.rules (cP.mk (cX.mk a.Score.Board.Sets a.Score.Board.Games f) k a.Score.Ends a.Score.Balls a.Score.Winner) a.first a.won a.ties a.games)))
  else((gJ (aN.mk a.rules (cP.mk (cX.mk a.Score.Board.Sets a.Score.Board.Games f) a.Score.Server a.Score.Ends a.Score.Balls a.Score.Winner) a.first a.won a.ties a.games) 0).bind λl=>
  (nT (aN.mk a.rules (cP.mk (cX.mk a.Score.Board.Sets a.Score.Board.Games f) a.Score.Server a.Score.Ends a.Score.Balls a.Score.Winner) a.first a.won a.ties a.games)).bind λm=>
  (app 56 a.games ([(uM.mk (a.Score.Board.Sets.length:Int) e l h f m)])).bind λn=>
  (vP a.Score.Board.Games h).bind λo=>
  (bif e then(some true) else((mW o a.rules.Format.Games 2).bind λp=>
  some (decide (0<=p)))).bind λq=>
  bif q then((app 16 a.Score.Board.Sets ([o])).bind λr=>
  (vP a.won h).bind λs=>
  bif decide ((max s.A s.B)=a.rules.Format.Sets) then((zH o).bind λt=>
  (bif decide ((t.tmod 2)=1) then(some (decide (h<0))) else(some false)).bind λu=>
  bif u then((dN (aN.mk a.rules (cP.mk (cX.mk r (aJ.mk 0 0) (aJ.mk 0 0)) a.Score.Server (w64 (a.Score.Ends+1)) a.Score.Balls h) a.first s a.ties n)).bind λv=>
  some v)
  else((dN (aN.mk a.rules (cP.mk (cX.mk r (aJ.mk 0 0) (aJ.mk 0 0)) a.Score.Server a.Score.Ends a.Score.Balls h) a.first s a.ties n)).bind λw=>
  some w))
  else((zH o).bind λx=>
  (bif decide ((x.tmod 2)=1) then(some (decide (a.Score.Winner<0))) else(some false)).bind λy=>
  bif y then((dN (aN.mk a.rules (cP.mk (cX.mk r (aJ.mk 0 0) (aJ.mk 0 0)) a.Score.Server (w64 (a.Score.Ends+1)) a.Score.Balls a.Score.Winner) a.first s a.ties n)).bind λz=>
  some z)
  else((dN (aN.mk a.rules (cP.mk (cX.mk r (aJ.mk 0 0) (aJ.mk 0 0)) a.Score.Server a.Score.Ends a.Score.Balls a.Score.Winner) a.first s a.ties n)).bind λa0=>
  some a0)))
  else((zH o).bind λa1=>
  (bif decide ((a1.tmod 2)=1) then(some (decide (a.Score.Winner<0))) else(some false)).bind λa2=>
  bif a2 then((dN (aN.mk a.rules (cP.mk (cX.mk a.Score.Board.Sets o (aJ.mk 0 0)) a.Score.Server (w64 (a.Score.Ends+1)) a.Score.Balls a.Score.Winner) a.first a.won a.ties n)).bind λa3=>
  some a3)
  else((dN (aN.mk a.rules (cP.mk (cX.mk a.Score.Board.Sets o (aJ.mk 0 0)) a.Score.Server a.Score.Ends a.Score.Balls a.Score.Winner) a.first a.won a.ties n)).bind λa4=>
  some a4)))
def aHc(a:List aJ)(b:List Bool)(c:List uM)(d:iB)(e:aJ)(f:aJ)(g:Int)(h:Int)(i:Int)(j:Int)(k:Int)(l:aJ):Option ((Option aN)×Int):=
  some ((some (aN.mk d (cP.mk (cX.mk a e f) g h i j) k l b c)),0)
def qN(a:List Int)(b:Int):Nat->Int->(List aJ)->(List Bool)->(List uM)->iB->aJ->aJ->Int->Int->Int->Int->Int->aJ->Option ((Option aN)×Int)
 |0,_,_,_,_,_,_,_,_,_,_,_,_,_=>none
 | g+1,h,i,j,k,l,m,n,o,p,q,r,s,t=>
  bif decide (h<b) then((idx a h).bind λc=>
  (bif !decide (c=0) then(some (!decide (c=1))) else(some false)).bind λd=>
  (bif d then(some true) else(some (decide (0<=r)))).bind λe=>
  bif e then(some ((none:Option aN),11))
  else((nU (aN.mk l (cP.mk (cX.mk i m n) o p q r) s t j k) c).bind λf=>
  (qN a b g) (w64 (h+1)) f.Score.Board.Sets f.ties f.games f.rules f.Score.Board.Games f.Score.Board.Points f.Score.Server f.Score.Ends f.Score.Balls f.Score.Winner f.first f.won))
  else(aHc i j k l m n o p q r s t)
def aDt(a:bU)(b:Int)(c:List Int):Option ((Option aN)×Int):=
  (tZ a).bind λd=>
  bif !decide (d=0) then(some ((none:Option aN),d))
  else((bif !decide (b=0) then(some (!decide (b=1))) else(some false)).bind λe=>
  bif e then(some ((none:Option aN),1))
  else(bif decide (600<(c.length:Int)) then(some ((none:Option aN),2))
  else((aAo (iB.mk a) b).bind λf=>
  qN c (c.length:Int) BIG 0 f.Score.Board.Sets f.ties f.games f.rules f.Score.Board.Games f.Score.Board.Points f.Score.Server f.Score.Ends f.Score.Balls f.Score.Winner f.first f.won)))
def aDs(a:bU)(b:Int)(c:List Int):Option (cP×Int):=
  (aDt a b c).bind λd=>
  bif !decide (d.2=0) then(some ((cP.mk (cX.mk ([]:List aJ) (aJ.mk 0 0) (aJ.mk 0 0)) 0 0 0 0),d.2))
  else((d.1).bind λe=>
  some (e.Score,0))
def strconv_Itoa(n:Int):Option Str:=aYu n
def lZ(a:aK)(b:Int)(c:Int):Option (Str×aK):=
  bif decide (60<=(a.Register.Slips.length:Int)) then(some (([102,117,108,108]:Str),a))
  else(bif decide (b=1) then((app 40 a.Register.Slips ([(aA.mk c a.Register.Round a.Register.Place a.bout.Two 0)])).bind λd=>
  (strconv_Itoa a.bout.Two).bind λe=>
  some (e,(aK.mk a.Desk (bL.mk a.Register.Hour a.Register.Notices d (-1) (-1) 0 ([]:List Int) a.Register.Days) a.bout)))
  else((app 40 a.Register.Slips ([(aA.mk c a.Register.Round a.Register.Place a.bout.One 0)])).bind λf=>
  (strconv_Itoa a.bout.One).bind λg=>
  some (g,(aK.mk a.Desk (bL.mk a.Register.Hour a.Register.Notices f (-1) (-1) 0 ([]:List Int) a.Register.Days) a.bout))))
def iS(a:aK)(b:Int):Option (Str×aK):=
  (kQ a).bind λc=>
  (bif !c then(some true) else(some (decide (1<b)))).bind λd=>
  bif d then(some (([110,111]:Str),a))
  else(bif decide (600<=(a.Register.Points.length:Int)) then(some (([102,117,108,108]:Str),a))
  else((gO a.Register.Points).bind λe=>
  (app 8 e ([b])).bind λf=>
  (aDs a.Desk.Format a.Register.First f).bind λg=>
  bif decide (0<=g.1.Winner) then((lZ a g.1.Winner 1).bind λh=>
  some (h.1,h.2))
  else(some (([111,107]:Str),(aK.mk a.Desk (bL.mk a.Register.Hour a.Register.Notices a.Register.Slips a.Register.Round a.Register.Place a.Register.First f a.Register.Days) a.bout)))))
def strings_Split(s sep:Str):Option (List Str):=bJt s sep
def aHm(a:Int):Option (Int×Bool):=
  some (a,true)
def uK(a:List Int)(b:Int):Nat->Int->Int->Option (Int×Bool)
 |0,_,_=>none
 | e+1,f,g=>
  bif decide (g<b) then((idx a g).bind λc=>
  (bif decide (c<48) then(some true) else(some (decide (57<c)))).bind λd=>
  bif d then(some (0,false))
  else((uK a b e) (w64 ((w64 (10*f))+(w64 (IntKind.u8.wrap (c-48))))) (w64 (g+1))))
  else(aHm f)
def aEz(a:Str):Option (Int×Bool):=
  (bif decide (a=([]:Str)) then(some true) else(some (decide (6<(a.length:Int))))).bind λb=>
  (bif b then(some true) else((sat a 0).bind λc=>
  (bif decide (c=48) then(some (!decide (a=([48]:Str)))) else(some false)).bind λd=>
  some d)).bind λe=>
  bif e then(some (0,false))
  else((bOs a).bind λf=>
  uK f (f.length:Int) BIG 0 0)
def aJh(a:List Str)(b:List Int):Option (Str×(List Int)×Bool):=
  (idx a 0).bind λc=>
  some (c,b,true)
def wH(a:List Str)(b:List Str)(c:Int):Nat->Int->(List Int)->Option (Str×(List Int)×Bool)
 |0,_,_=>none
 | g+1,h,i=>
  bif decide (h<c) then((idx b h).bind λd=>
  (aEz d).bind λe=>
  bif !e.2 then(some (([]:Str),([]:List Int),false))
  else((app 8 i ([e.1])).bind λf=>
  (wH a b c g) (w64 (h+1)) f))
  else(aJh a i)
def sU(a:Str):Option (Str×(List Int)×Bool):=
  (strings_Split a ([32]:Str)).bind λb=>
  (sub b 1 (b.length:Int)).bind λc=>
  wH b c (c.length:Int) BIG 0 ([]:List Int)
def oE:Option Int:=
  some (-1)
def dI(a:List dT)(b:dT->Option Bool)(c:Int):Nat->Int->Option Int
 |0,_=>none
 | f+1,g=>
  bif decide (g<c) then((idx a g).bind λd=>
  (b d).bind λe=>
  bif e then(some g)
  else((dI a b c f) (w64 (g+1))))
  else(oE)
def lQ(a:List dT)(b:dT->Option Bool):Option Int:=
  dI a b (a.length:Int) BIG 0
def gS(a:List dT)(b:dT->Option Bool):Option Bool:=
  (lQ a b).bind λc=>
  some (decide (0<=c))
def kG(a:Int)(b:Int)(c:Int):Option Bool:=
  (bif decide (b<=a) then(some (decide (a<=c))) else(some false)).bind λd=>
  some d
def nF(a:bO)(b:Int)(c:Int):Option Bool:=
  (bif decide (a.Low<=a.High) then((kG a.Low b c).bind λd=>
  some d) else(some false)).bind λe=>
  (bif e then((kG a.High b c).bind λf=>
  some f) else(some false)).bind λg=>
  some g
def wS(a:dT):Option Bool:=
  (kG a.P (-3) 3).bind λb=>
  (bif b then((kG a.Q (-3) 3).bind λc=>
  some c) else(some false)).bind λd=>
  (bif d then((bif !decide (a.P=0) then(some true) else(some (!decide (a.Q=0)))).bind λe=>
  some e) else(some false)).bind λf=>
  (bif f then((nF (bO.mk a.Low a.High) (-500) 500).bind λg=>
  some g) else(some false)).bind λh=>
  some h
def aAy(a:dT):Option Bool:=
  (wS a).bind λb=>
  some (!b)
def aAh(a:bQ):Option Int:=
  (gS a.Strips (λb=>aAy b)).bind λc=>
  (bif c then(some true) else(some (decide (8<(a.Strips.length:Int))))).bind λd=>
  (bif d then(some true) else((kG a.Size 0 40).bind λe=>
  some (!e))).bind λf=>
  (bif f then(some true) else((kG a.Wrong 0 3).bind λg=>
  some (!g))).bind λh=>
  (bif h then(some true) else((nF a.HalfX 1 9).bind λi=>
  some (!i))).bind λj=>
  (bif j then(some true) else((nF a.HalfY 1 9).bind λk=>
  some (!k))).bind λl=>
  bif l then(some 20)
  else(some 0)
def vC(a:dZ):Option Int:=
  (nF (bO.mk a.Left a.Right) 0 40).bind λb=>
  (bif !b then(some true) else((nF (bO.mk a.Bottom a.Top) 0 40).bind λc=>
  some (!c))).bind λd=>
  bif d then(some 21)
  else(some 0)
def xG(a:bQ)(b:dZ):Option Int:=
  (aAh a).bind λc=>
  bif !decide (c=0) then(some c)
  else((vC b).bind λd=>
  some d)
def aRz(_:bQ):Option Unit:=
  some ()
def aEr(a:List Int):Option ((List Int)):=
  some a
def oW(a:Int)(b:Int)(c:List dT)(d:Int):Nat->Int->(List Int)->Option ((List Int))
 |0,_,_=>none
 | h+1,i,j=>
  bif decide (i<d) then((idx c i).bind λe=>
  (kG (w64 ((w64 (e.P*a))+(w64 (e.Q*b)))) e.Low e.High).bind λf=>
  bif !f then((app 8 j ([i])).bind λg=>
  (oW a b c d h) (w64 (i+1)) g)
  else((oW a b c d h) (w64 (i+1)) j))
  else(aEr j)
def aFo(a:bQ)(b:Int)(c:Int):Option ((List Int)):=
  oW b c a.Strips (a.Strips.length:Int) BIG 0 ([]:List Int)
def aEp{S:Type}(_:S->bF->(List Int)->Option S)(a:Int->S->Option S)(_:bQ)(_:Int)(b:Int)(c:S):Option S:=
  a (w64 (b+1)) c
def aEq{S:Type}(a:S->bF->(List Int)->Option S)(b:Int->S->Option S)(c:bQ)(d:Int)(e:Int)(f:S):Option S:=
  aEp a b c d e f
def mP{S:Type}(a:S->bF->(List Int)->Option S)(b:Int->S->Option S)(c:bQ)(d:Int)(e:Int)(f:Int)(g:Int):Nat->Int->S->Option S
 |0,_,_=>none
 | j+1,k,l=>
  bif decide (k<g) then((aFo c d k).bind λh=>
  (a l (bF.mk d k) h).bind λi=>
  (mP a b c d e f g j) (w64 (k+1)) i)
  else(aEq a b c e f l)
def aEo{S:Type}(_:S->bF->(List Int)->Option S)(a:S):Option S:=
  some a
def iH{S:Type}(a:S->bF->(List Int)->Option S)(b:bQ)(c:Int):Nat->Int->S->Option S
 |0,_,_=>none
 | d+1,e,f=>
  bif decide (e<c) then(mP a (iH a b c d) b e c e (w64 (b.Size+1)) BIG 0 f)
  else(aEo a f)
def aFl{S:Type}(a:S->bF->(List Int)->Option S)(b:bQ)(c:S):Option S:=
  iH a b (w64 (b.Size+1)) BIG 0 c
def yR(a:bQ):Option ((List bF)):=
  (aRz a).bind λ_=>
  (aFl (S:=(List bF)) (λb c d=>
  bif decide ((d.length:Int)<=a.Wrong) then((app 16 b ([c])).bind λe=>
  some e)
  else(some b)) a ([]:List bF)).bind λf=>
  some f
def mV:Option Int:=
  some (-1)
def cZ(a:List bF)(b:bF->Option Bool)(c:Int):Nat->Int->Option Int
 |0,_=>none
 | f+1,g=>
  bif decide (g<c) then((idx a g).bind λd=>
  (b d).bind λe=>
  bif e then(some g)
  else((cZ a b c f) (w64 (g+1))))
  else(mV)
def kR(a:List bF)(b:bF->Option Bool):Option Int:=
  cZ a b (a.length:Int) BIG 0
def eT(a:List bF)(b:bF->Option Bool):Option Bool:=
  (kR a b).bind λc=>
  some (decide (0<=c))
def aFn(a:bQ)(b:bF):Option iU:=
  some (iU.mk b.x b.y a.HalfX.Low a.HalfY.Low)
def pM(a:Int)(b:Int)(c:Int):Option Int:=
  some (max (max 0 (w64 (b-a))) (w64 (a-c)))
def sP(a:iU)(b:dZ):Option Bool:=
  (pM a.X b.Left b.Right).bind λc=>
  (pM a.Y b.Bottom b.Top).bind λd=>
  some (decide ((w64 ((w64 ((w64 (c*a.HalfY))*(w64 (c*a.HalfY))))+(w64 ((w64 (d*a.HalfX))*(w64 (d*a.HalfX))))))<=(w64 ((w64 (a.HalfX*a.HalfY))*(w64 (a.HalfX*a.HalfY))))))
def yP(a:bF)(b:bQ)(c:dZ):Option Bool:=
  (aFn b a).bind λd=>
  (sP d c).bind λe=>
  some (!e)
def aFm(a:bQ)(b:bF):Option iU:=
  some (iU.mk b.x b.y a.HalfX.High a.HalfY.High)
def yQ(a:bF)(b:bQ)(c:dZ):Option Bool:=
  (aFm b a).bind λd=>
  (sP d c).bind λe=>
  some e
def zT(a:bQ)(b:dZ):Option Int:=
  (yR a).bind λc=>
  bif decide ((c.length:Int)=0) then(some 0)
  else((eT c (λd=>yP d a b)).bind λe=>
  bif !e then(some 1)
  else((eT c (λf=>yQ f a b)).bind λg=>
  bif !g then(some 2)
  else(some 3)))
def wE(a:bQ)(b:dZ):Option (Int×Int):=
  (xG a b).bind λc=>
  bif !decide (c=0) then(some (0,c))
  else((zT a b).bind λd=>
  bif decide (d=0) then(some (0,3))
  else(some (d,0)))
def vB(a:Int)(b:bQ)(c:dZ):Option (Int×Bool×Int):=
  (xG b c).bind λd=>
  bif !decide (d=0) then(some (0,false,d))
  else((bif !decide (a=1) then(some (!decide (a=2))) else(some false)).bind λe=>
  bif e then(some (0,false,22))
  else((zT b c).bind λf=>
  (bif decide (f=1) then(some true) else(some (decide (f=2)))).bind λg=>
  bif g then(some (f,!decide (f=a),0))
  else(some (a,true,0))))
def dX(a:Int)(b:Int)(c:Int):Option Bool:=
  (bif decide (b<=a) then(some (decide (a<=c))) else(some false)).bind λd=>
  some d
def xK:Option Int:=
  some 0
def gV(a:bQ):Nat->Int->Option Int
 |0,_=>none
 | k+1,l=>
  bif decide (l<(a.Strips.length:Int)) then((idx a.Strips l).bind λb=>
  (dX b.P (-3) 3).bind λc=>
  (bif !c then(some true) else((dX b.Q (-3) 3).bind λd=>
  some (!d))).bind λe=>
  (bif e then(some true) else((bif decide (b.P=0) then(some (decide (b.Q=0))) else(some false)).bind λf=>
  some f)).bind λg=>
  (bif g then(some true) else(some (decide (b.Low<(-500))))).bind λh=>
  (bif h then(some true) else(some (decide (b.High<b.Low)))).bind λi=>
  (bif i then(some true) else(some (decide (500<b.High)))).bind λj=>
  bif j then(some 20)
  else((gV a k) (w64 (l+1))))
  else(xK)
def lS(a:bQ):Option Int:=
  (dX a.Size 0 40).bind λb=>
  (bif !b then(some true) else(some (decide (8<(a.Strips.length:Int))))).bind λc=>
  (bif c then(some true) else((dX a.Wrong 0 3).bind λd=>
  some (!d))).bind λe=>
  (bif e then(some true) else(some (decide (a.HalfX.Low<1)))).bind λf=>
  (bif f then(some true) else(some (decide (a.HalfX.High<a.HalfX.Low)))).bind λg=>
  (bif g then(some true) else(some (decide (9<a.HalfX.High)))).bind λh=>
  (bif h then(some true) else(some (decide (a.HalfY.Low<1)))).bind λi=>
  (bif i then(some true) else(some (decide (a.HalfY.High<a.HalfY.Low)))).bind λj=>
  (bif j then(some true) else(some (decide (9<a.HalfY.High)))).bind λk=>
  bif k then(some 20)
  else(gV a BIG 0)
def rI(a:bQ):Option Bool:=
  (bif decide (40<(a.Strips.length:Int)) then(some true) else((lS a).bind λb=>
  (bif decide (b=0) then((bif decide (12<a.Size) then(some true) else(some (decide (5<a.HalfX.High)))).bind λc=>
  (bif c then(some true) else(some (decide (5<a.HalfY.High)))).bind λd=>
  some d) else(some false)).bind λe=>
  some e)).bind λf=>
  some f
def oS(a:dZ):Option Bool:=
  (bif decide (0<=a.Left) then(some (decide (a.Left<=a.Right))) else(some false)).bind λb=>
  (bif b then(some (decide (a.Right<=40))) else(some false)).bind λc=>
  (bif c then(some (decide (0<=a.Bottom))) else(some false)).bind λd=>
  (bif d then(some (decide (a.Bottom<=a.Top))) else(some false)).bind λe=>
  (bif e then(some (decide (a.Top<=40))) else(some false)).bind λf=>
  some f
def uE(a:bQ)(b:iU):Option Bool:=
  (dX b.X 0 a.Size).bind λc=>
  (bif c then((dX b.Y 0 a.Size).bind λd=>
  some d) else(some false)).bind λe=>
  (bif e then((dX b.HalfX a.HalfX.Low a.HalfX.High).bind λf=>
  some f) else(some false)).bind λg=>
  (bif g then((dX b.HalfY a.HalfY.Low a.HalfY.High).bind λh=>
  some h) else(some false)).bind λi=>
  some i
def sA(a:List Int):Option ((List Int)):=
  some a
def fA(a:Int)(b:Int)(c:bQ):Nat->Int->(List Int)->Option ((List Int))
 |0,_,_=>none
 | g+1,h,i=>
  bif decide (h<(c.Strips.length:Int)) then((idx c.Strips h).bind λd=>
  (dX (w64 ((w64 (d.P*a))+(w64 (d.Q*b)))) d.Low d.High).bind λe=>
  bif !e then((app 8 i ([h])).bind λf=>
  (fA a b c g) (w64 (h+1)) f)
  else((fA a b c g) (w64 (h+1)) i))
  else(sA i)
def oU(a:bQ)(b:Int)(c:Int):Option ((List Int)):=
  fA b c a BIG 0 ([]:List Int)
def mE(a:bQ)(b:iU):Option Bool:=
  (uE a b).bind λc=>
  (bif c then((oU a b.X b.Y).bind λd=>
  some (decide ((d.length:Int)<=a.Wrong))) else(some false)).bind λe=>
  some e
def mF(a:Int)(b:Int)(c:Int):Option Int:=
  some (max (max (w64 (b-a)) (w64 (a-c))) 0)
def fN(a:iU)(b:dZ):Option Bool:=
  (mF a.X b.Left b.Right).bind λc=>
  (mF a.Y b.Bottom b.Top).bind λd=>
  some (decide ((w64 ((w64 ((w64 ((w64 (c*c))*a.HalfY))*a.HalfY))+(w64 ((w64 ((w64 (d*d))*a.HalfX))*a.HalfX))))<=(w64 ((w64 ((w64 (a.HalfX*a.HalfX))*a.HalfY))*a.HalfY))))
def qV:Nat->Int->Option Str
 |0,_=>none
 | e+1,f=>
  bif decide (f<10) then((sub ([48,49,50,51,52,53,54,55,56,57]:Str) f (w64 (f+1))).bind λa=>
  some a)
  else(((qV e) (w64 (f.tdiv 10))).bind λb=>
  (sub ([48,49,50,51,52,53,54,55,56,57]:Str) (f.tmod 10) (w64 ((f.tmod 10)+1))).bind λc=>
  (aTb b c).bind λd=>
  some d)
def mN:Int->Option Str:=qV BIG
def pY(a:Int)(b:Int):Option Int:=
  bif decide (b=1) then(some a)
  else(some (w64 (1-a)))
def tQ(a:List Int)(b:List Int):Option Bool:=
  some (decide ((a.length:Int)=(b.length:Int)))
def gM(a:List Int)(b:List Int):Nat->Int->Option Bool
 |0,_=>none
 | f+1,g=>
  (bif decide (g<(a.length:Int)) then(some (decide (g<(b.length:Int)))) else(some false)).bind λc=>
  bif c then((idx a g).bind λd=>
  (idx b g).bind λe=>
  bif !decide (d=e) then(some false)
  else((gM a b f) (w64 (g+1))))
  else(tQ a b)
def lF(a:List Int)(b:List Int):Option Bool:=
  gM a b BIG 0
def qJ(a:Int->Option Bool)(b:Int)(_:bL)(_:bL):Option Bool:=
  a (w64 (b+1))
def qK(a:Int->Option Bool)(b:Int)(c:bL)(d:bL):Option Bool:=
  qJ a b c d
def fC(a:Int->Option Bool)(b:Int)(c:bL)(d:bL):Nat->Int->Option Bool
 |0,_=>none
 | j+1,k=>
  (idx c.Days b).bind λe=>
  bif decide (k<(e.length:Int)) then((idx c.Days b).bind λf=>
  (idx f k).bind λg=>
  (idx d.Days b).bind λh=>
  (idx h k).bind λi=>
  bif !decide (g=i) then(some false)
  else((fC a b c d j) (w64 (k+1))))
  else(qK a b c d)
def qI:Option Bool:=
  some true
def cK(a:bL)(b:bL):Nat->Int->Option Bool
 |0,_=>none
 | e+1,f=>
  bif decide (f<(a.Days.length:Int)) then((idx a.Days f).bind λc=>
  (idx b.Days f).bind λd=>
  bif !decide ((c.length:Int)=(d.length:Int)) then(some false)
  else(fC (cK a b e) f a b BIG 0))
  else(qI)
def qH(a:bL)(b:bL):Option Bool:=
  cK a b BIG 0
def eD(a:bL)(b:bL):Nat->Int->Option Bool
 |0,_=>none
 | e+1,f=>
  bif decide (f<(a.Slips.length:Int)) then((idx a.Slips f).bind λc=>
  (idx b.Slips f).bind λd=>
  bif !decide (c=d) then(some false)
  else((eD a b e) (w64 (f+1))))
  else(qH a b)
def qG(a:bL)(b:bL):Option Bool:=
  eD a b BIG 0
def fB(a:bL)(b:bL):Nat->Int->Option Bool
 |0,_=>none
 | e+1,f=>
  bif decide (f<(a.Notices.length:Int)) then((idx a.Notices f).bind λc=>
  (idx b.Notices f).bind λd=>
  bif !decide (c=d) then(some false)
  else((fB a b e) (w64 (f+1))))
  else(qG a b)
def kT(a:bL)(b:bL):Option Bool:=
  (bif !decide (a.Hour=b.Hour) then(some true) else(some (!decide ((a.Notices.length:Int)=(b.Notices.length:Int))))).bind λc=>
  (bif c then(some true) else(some (!decide ((a.Slips.length:Int)=(b.Slips.length:Int))))).bind λd=>
  (bif d then(some true) else(some (!decide (a.Round=b.Round)))).bind λe=>
  (bif e then(some true) else(some (!decide (a.Place=b.Place)))).bind λf=>
  (bif f then(some true) else(some (!decide (a.First=b.First)))).bind λg=>
  (bif g then(some true) else((lF a.Points b.Points).bind λh=>
  some (!h))).bind λi=>
  (bif i then(some true) else(some (!decide ((a.Days.length:Int)=(b.Days.length:Int))))).bind λj=>
  bif j then(some false)
  else(fB a b BIG 0)
def aHf:Option Bool:=
  some false
def uD(a:List Str):Nat->Int->Option Bool
 |0,_=>none
 | c+1,d=>
  bif decide (d<(a.length:Int)) then((idx a d).bind λb=>
  bif decide (60<(b.length:Int)) then(some true)
  else((uD a c) (w64 (d+1))))
  else(aHf)
def zZ(a:List Str):Option Bool:=
  uD a BIG 0
def kU(a:List Str)(b:cT):Nat->Int->Option Bool
 |0,_=>none
 | d+1,e=>
  bif decide (e<(b.Days.length:Int)) then((idx b.Days e).bind λc=>
  bif decide (2<(c.length:Int)) then(some true)
  else((kU a b d) (w64 (e+1))))
  else(zZ a)
def uQ(a:cT)(b:List Str):Option Bool:=
  (bif decide (8<(a.Tree.Slots.length:Int)) then(some true) else(some (decide (2<(a.Days.length:Int))))).bind λc=>
  (bif c then(some true) else(some (decide (10<(a.Stages.length:Int))))).bind λd=>
  (bif d then(some true) else(some (decide (100<(b.length:Int))))).bind λe=>
  (bif e then(some true) else((bif decide (20<(b.length:Int)) then(some (decide ((b.length:Int)<=80))) else(some false)).bind λf=>
  some f)).bind λg=>
  bif g then(some true)
  else(kU b a BIG 0)
def iC(a:Int)(b:Int)(c:Int):Option Bool:=
  (bif decide (b<=a) then(some (decide (a<=c))) else(some false)).bind λd=>
  some d
def aEd:Option Int:=
  some 0
def sB(a:List kY):Nat->Int->Option Int
 |0,_=>none
 | _+1,b=>
  bif decide (b<(a.length:Int)) then(none)
  else(aEd)
def rN(a:oO)(b:List kY):Option Int:=
  (iC a.Places 1 32).bind λc=>
  (bif !c then(some true) else((iC a.Wilds 0 32).bind λd=>
  some (!d))).bind λe=>
  (bif e then(some true) else((iC a.Guards 0 32).bind λf=>
  some (!f))).bind λg=>
  (bif g then(some true) else((iC a.Close 0 9999).bind λh=>
  some (!h))).bind λi=>
  (bif i then(some true) else((iC a.Freeze a.Close 9999).bind λj=>
  some (!j))).bind λk=>
  bif k then(some 50)
  else(bif decide (60<(b.length:Int)) then(none)
  else(sB b BIG 0))
def fS(a:Int)(b:Int)(c:Int):Option Bool:=
  (bif decide (b<=a) then(some (decide (a<=c))) else(some false)).bind λd=>
  some d
def oR(a:bU)(b:Int):Option Bool:=
  (bif decide (b=(-1)) then(some true) else(some (decide (b=0)))).bind λc=>
  (bif c then(some true) else(some (decide (b=(w64 (a.Games-1)))))).bind λd=>
  (bif d then(some true) else(some (decide (b=a.Games)))).bind λe=>
  some e
def rM(a:bU):Option Int:=
  (fS a.Sets 1 3).bind λb=>
  (bif !b then(some true) else((fS a.Games 1 8).bind λc=>
  some (!c))).bind λd=>
  (bif d then(some true) else((oR a a.Tie).bind λe=>
  some (!e))).bind λf=>
  (bif f then(some true) else((oR a a.LastTie).bind λg=>
  some (!g))).bind λh=>
  (bif h then(some true) else((fS a.To 1 15).bind λi=>
  some (!i))).bind λj=>
  (bif j then(some true) else((fS a.LastTo 1 15).bind λk=>
  some (!k))).bind λl=>
  (bif l then(some true) else((fS a.First 0 20).bind λm=>
  some (!m))).bind λn=>
  (bif n then(some true) else((fS a.Then 0 20).bind λo=>
  some (!o))).bind λp=>
  bif p then(some 10)
  else(some 0)
def fF(a:Int)(b:Int)(c:Int):Option Bool:=
  (bif decide (b<=a) then(some (decide (a<=c))) else(some false)).bind λd=>
  some d
def xP(a:Int->Option Int)(b:Int)(_:cY):Option Int:=
  a (w64 (b+1))
def xQ(a:Int->Option Int)(b:Int)(c:cY):Option Int:=
  xP a b c
def iA(a:Int->Option Int)(b:Int)(c:cY):Nat->Int->Option Int
 |0,_=>none
 | i+1,j=>
  (idx c.Days b).bind λd=>
  bif decide (j<(d.length:Int)) then((idx c.Days b).bind λe=>
  (idx e j).bind λf=>
  (bif decide (f.Low<0) then(some true) else(some (decide (f.High<f.Low)))).bind λg=>
  (bif g then(some true) else(some (decide (1440<f.High)))).bind λh=>
  bif h then(some 80)
  else((iA a b c i) (w64 (j+1))))
  else(xQ a b c)
def aEf:Option Int:=
  some 0
def sC(a:cY):Nat->Int->Option Int
 |0,_=>none
 | _+1,b=>
  bif decide (b<(a.Jobs.length:Int)) then(none)
  else(aEf)
def oM(a:cY):Option Int:=
  sC a BIG 0
def dH(a:cY):Nat->Int->Option Int
 |0,_=>none
 | d+1,e=>
  bif decide (e<(a.Days.length:Int)) then((idx a.Days e).bind λb=>
  (idx a.Days 0).bind λc=>
  bif !decide ((b.length:Int)=(c.length:Int)) then(some 80)
  else(iA (dH a d) e a BIG 0))
  else(oM a)
def rO(a:cY):Option Int:=
  (fF (a.Days.length:Int) 1 3).bind λb=>
  (bif !b then(some true) else((idx a.Days 0).bind λc=>
  (fF (c.length:Int) 1 3).bind λd=>
  some (!d))).bind λe=>
  (bif e then(some true) else((fF a.Rest 0 600).bind λf=>
  some (!f))).bind λg=>
  (bif g then(some true) else(some (decide (6<(a.Jobs.length:Int))))).bind λh=>
  bif h then(some 80)
  else(dH a BIG 0)
def lE(a:bO):Option Bool:=
  (bif decide (1<=a.Low) then(some (decide (a.Low<=a.High))) else(some false)).bind λb=>
  (bif b then(some (decide (a.High<=600))) else(some false)).bind λc=>
  some c
def yM(a:Int->(List bS)->Option ((List bS)×(List aE)×Int))(_:List bP)(b:Int)(_:List aE)(c:List bS):Option ((List bS)×(List aE)×Int):=
  a (w64 (b+1)) c
def tD(a:Int->(List bS)->Option ((List bS)×(List aE)×Int))(b:List bP)(c:Int)(d:List aE)(e:List bS)(f:List Int)(g:bO)(h:List Int)(i:Int)(j:Int):Option ((List bS)×(List aE)×Int):=
  (app 80 e ([(bS.mk g f h i j)])).bind λk=>
  yM a b c d k
def iR(a:Int->(List bS)->Option ((List bS)×(List aE)×Int))(b:List bP)(c:Int)(d:List aE)(e:List bS):Nat->Int->(List Int)->bO->(List Int)->Int->Int->Option ((List bS)×(List aE)×Int)
 |0,_,_,_,_,_,_=>none
 | l+1,m,n,o,p,q,r=>
  bif decide (m<c) then((idx d m).bind λf=>
  (idx d c).bind λg=>
  (bif decide (f.Round=(w64 (g.Round-1))) then((idx d m).bind λh=>
  (idx d c).bind λi=>
  some (decide ((w64 (h.Place.tdiv 2))=i.Place))) else(some false)).bind λj=>
  bif j then((app 8 n ([m])).bind λk=>
  (iR a b c d e l) (w64 (m+1)) k o p q r)
  else((iR a b c d e l) (w64 (m+1)) n o p q r))
  else(tD a b c d e n o p q r)
def tC(a:List aE)(b:List bS):Option ((List bS)×(List aE)×Int):=
  some (b,a,0)
def eC(a:List bP)(b:List aE):Nat->Int->(List bS)->Option ((List bS)×(List aE)×Int)
 |0,_,_=>none
 | g+1,h,i=>
  bif decide (h<(b.length:Int)) then((idx b h).bind λc=>
  (idx a c.Round).bind λd=>
  (idx b h).bind λe=>
  (idx a e.Round).bind λf=>
  iR (eC a b g) a h b i BIG 0 ([]:List Int) d.Length ([]:List Int) f.Due 0)
  else(tC b i)
def mM(a:List bP)(b:List aE):Option ((List bS)×(List aE)×Int):=
  bif decide (6<(b.length:Int)) then(some (([]:List bS),([]:List aE),2))
  else(eC a b BIG 0 ([]:List bS))
def gE(a:List aA)(b:List bP)(c:List aE)(d:aD):Nat->Int->(List aE)->Option ((List bS)×(List aE)×Int)
 |0,_,_=>none
 | j+1,k,l=>
  bif decide (k<(c.length:Int)) then((idx c k).bind λe=>
  (idx c k).bind λf=>
  (eQ d a e.Round f.Place).bind λg=>
  bif decide (g.2=3) then((idx c k).bind λh=>
  (app 32 l ([h])).bind λi=>
  (gE a b c d j) (w64 (k+1)) i)
  else((gE a b c d j) (w64 (k+1)) l))
  else(mM b l)
def kF(a:List aA)(b:List bP)(c:aD):Option ((List bS)×(List aE)×Int):=
  (jE c a).bind λd=>
  gE a b d.1 c BIG 0 ([]:List aE)
def gD(a:List aA)(b:List bP)(c:aD):Nat->Int->Option ((List bS)×(List aE)×Int)
 |0,_=>none
 | i+1,j=>
  bif decide (j<(b.length:Int)) then((idx b j).bind λd=>
  (lE d.Length).bind λe=>
  (bif !e then(some true) else((idx b j).bind λf=>
  (fF f.Due 0 2).bind λg=>
  some (!g))).bind λh=>
  bif h then(some (([]:List bS),([]:List aE),82))
  else((gD a b c i) (w64 (j+1))))
  else(kF a b c)
def kZ(a:aD)(b:List aA)(c:List bP):Option ((List bS)×(List aE)×Int):=
  (dU a b).bind λd=>
  bif !decide (d=0) then(some (([]:List bS),([]:List aE),d))
  else(bif !decide ((c.length:Int)=a.Rounds) then(some (([]:List bS),([]:List aE),82))
  else(gD b c a BIG 0))
def jF(a:cT):Option Int:=
  (rN a.Field ([]:List kY)).bind λb=>
  (bif !decide (b=0) then(some true) else((dU a.Tree ([]:List aA)).bind λc=>
  some (!decide (c=0)))).bind λd=>
  (bif d then(some true) else((rM a.Format).bind λe=>
  some (!decide (e=0)))).bind λf=>
  (bif f then(some true) else((rO (cY.mk a.Days a.Rest ([]:List bS))).bind λg=>
  some (!decide (g=0)))).bind λh=>
  bif h then(some 120)
  else((kZ a.Tree ([]:List aA) a.Stages).bind λi=>
  (bif !decide (i.2.2=0) then(some (!decide (i.2.2=2))) else(some false)).bind λj=>
  bif j then(some 120)
  else(some 0))
def uU(a:cT)(b:List Str):Option Bool:=
  (uQ a b).bind λc=>
  (bif !c then(some (decide ((a.Tree.Slots.length:Int)<=4))) else(some false)).bind λd=>
  (bif d then(some (decide ((b.length:Int)<=10))) else(some false)).bind λe=>
  (bif e then((jF a).bind λf=>
  some (decide (f=0))) else(some false)).bind λg=>
  some g
def xF(a:Int)(b:Int)(c:Int):Option Bool:=
  (bif decide (b<=a) then(some (decide (a<=c))) else(some false)).bind λd=>
  some d
def lM(a:Int)(b:dB):Option Bool:=
  (xF b.Side a 1).bind λc=>
  (bif c then(some (decide (b.Pair=(aJ.mk 0 0)))) else(some false)).bind λd=>
  some d
def sM(a:Int)(b:dB):Option Bool:=
  (bif decide (b.Side=0) then((xF b.Pair.A 0 a).bind λc=>
  some c) else(some false)).bind λd=>
  (bif d then((xF b.Pair.B 0 a).bind λe=>
  some e) else(some false)).bind λf=>
  some f
def aKz(a:dB):Option Bool:=
  bif decide (a.Kind=1) then((lM (-1) a).bind λb=>
  some b)
  else(bif decide (a.Kind=2) then((sM 30 a).bind λc=>
  (bif c then(some (decide (a.Pair.A<=a.Pair.B))) else(some false)).bind λd=>
  some d)
  else(bif decide (a.Kind=3) then(bif decide (a.Kind=3) then((sM 40 a).bind λe=>
  some e)
  else(bif decide (a.Kind=6) then(bif decide (a.Kind=6) then((lM 0 a).bind λf=>
  some f)
  else(some false))
  else(bif decide (a.Kind=7) then((lM 0 a).bind λg=>
  some g)
  else(some false))))
  else(bif decide (a.Kind=4) then(bif decide (a.Kind=4) then((sM 40 a).bind λh=>
  some h)
  else(bif decide (a.Kind=6) then(bif decide (a.Kind=6) then((lM 0 a).bind λi=>
  some i)
  else(some false))
  else(bif decide (a.Kind=7) then((lM 0 a).bind λj=>
  some j)
  else(some false))))
  else(bif decide (a.Kind=5) then((sM 40 a).bind λk=>
  some k)
  else(bif decide (a.Kind=6) then(bif decide (a.Kind=6) then((lM 0 a).bind λl=>
  some l)
  else(some false))
  else(bif decide (a.Kind=7) then((lM 0 a).bind λm=>
  some m)
  else(some false)))))))
def aPv(a:Int):Option Int:=
  bif decide (600<a) then(some 30)
  else(some 0)
def sL(a:List dB)(b:Int):Nat->Int->Int->Option Int
 |0,_,_=>none
 | e+1,f,g=>
  bif decide (g<b) then((idx a g).bind λc=>
  (aKz c).bind λd=>
  bif !d then(some 30)
  else(bif decide (c.Kind=1) then((sL a b e) (w64 (f+1)) (w64 (g+1)))
  else(bif decide (c.Kind=2) then((sL a b e) (w64 (f+c.Pair.B)) (w64 (g+1)))
  else((sL a b e) f (w64 (g+1))))))
  else(aPv f)
def aXy(a:zO):Option Int:=
  (tZ a.Format).bind λb=>
  (bif !decide (b=0) then(some true) else((xF a.First (-1) 1).bind λc=>
  some (!c))).bind λd=>
  (bif d then(some true) else(some (decide (30<(a.Marks.length:Int))))).bind λe=>
  bif e then(some 30)
  else(sL a.Marks (a.Marks.length:Int) BIG 0 0)
def aJu(a:aJ)(b:Int):Option aJ:=
  bif decide (b=0) then(some (aJ.mk (w64 (a.A+1)) a.B))
  else(some (aJ.mk a.A (w64 (a.B+1))))
def aHt(a:aJ)(b:Int)(c:Int)(d:Int):Option Bool:=
  bif decide (b=1) then((bif decide (c<=a.B) then(some (decide (d<=(w64 (a.B-a.A))))) else(some false)).bind λe=>
  some e)
  else((bif decide (c<=a.A) then(some (decide (d<=(w64 (a.A-a.B))))) else(some false)).bind λf=>
  some f)
def yI:Option (bU×(List Int)):=
  some ((bU.mk 2 2 false 2 3 0 4 2 2 false),[0,0,0,0,1,1,1,1,0,0,0,0,0,0,0,0,1,1,1,1])
def sZ:Option zO:=
  (yI).bind λa=>
  some (zO.mk a.1 0 ([(dB.mk 1 0 (aJ.mk 0 0)),(dB.mk 2 0 (aJ.mk 2 4)),(dB.mk 3 0 (aJ.mk 3 1)),(dB.mk 2 0 (aJ.mk 1 1)),(dB.mk 4 0 (aJ.mk 1 0))]))
def aAt(a:Int):Option Bool:=
  some (!decide (a=a))
def aIr(a:Int)(b:Int):Option Bool:=
  (aAt a).bind λc=>
  (bif c then((aAt b).bind λd=>
  some (!d)) else(some false)).bind λe=>
  (bif e then(some true) else(some (decide (a<b)))).bind λf=>
  some f
def aAp:Option Bool:=
  some true
def pF(a:List Int):Nat->Int->Option Bool
 |0,_=>none
 | e+1,f=>
  bif decide (0<f) then((idx a f).bind λb=>
  (idx a (w64 (f-1))).bind λc=>
  (aIr b c).bind λd=>
  bif d then(none)
  else((pF a e) (w64 (f-1))))
  else(aAp)
def xV(a:List Int):Option Bool:=
  pF a BIG (w64 ((a.length:Int)-1))
def iI(a:Int)(b:Int)(c:Int):Option Bool:=
  (bif decide (b<=a) then(some (decide (a<=c))) else(some false)).bind λd=>
  some d
def aBb(a:eF):Option Bool:=
  (bif !decide ((a.Prizes.length:Int)=(w64 (a.Tree.Rounds+1))) then(some true) else((xV a.Prizes).bind λb=>
  some (!b))).bind λc=>
  (bif c then(some true) else((iI a.Daily 0 100000).bind λd=>
  some (!d))).bind λe=>
  bif e then(none)
  else((idx a.Prizes 0).bind λf=>
  (bif decide (0<=f) then((idx a.Prizes (w64 ((a.Prizes.length:Int)-1))).bind λg=>
  some (decide (g<=10000000))) else(some false)).bind λh=>
  some h)
def slices_Sort_int(x:List Int):Option (List Int):=if x.length<4611686018427387904 then some (aIe x) else none
def aJe(a:List Int):Option ((List Int)):=
  (slices_Sort_int a).bind λb=>
  some b
def rS(a:List aBv)(b:Int):Nat->Int->(List Int)->Option ((List Int))
 |0,_,_=>none
 | f+1,g,h=>
  bif decide (g<b) then((idx a g).bind λc=>
  (app 8 h ([c.One])).bind λd=>
  bif !decide (c.Two=(-1)) then((app 8 d ([c.Two])).bind λe=>
  (rS a b f) (w64 (g+1)) e)
  else((rS a b f) (w64 (g+1)) d))
  else(aJe h)
def sT(a:eF):Option ((List Int)):=
  rS a.Teams (a.Teams.length:Int) BIG 0 ([]:List Int)
def aCl(a:Int->Option ((List Int)))(b:Int)(_:List Int):Option ((List Int)):=
  a (w64 (b+1))
def aCk(a:List Int):Option ((List Int)):=
  some a
def qD(a:List Int):Nat->Int->Option ((List Int))
 |0,_=>none
 | d+1,e=>
  bif decide (e<(a.length:Int)) then((idx a e).bind λb=>
  (idx a (w64 (e-1))).bind λc=>
  bif decide (b=c) then(none)
  else(aCl (qD a d) e a))
  else(aCk a)
def zI(a:List Int):Option ((List Int)):=
  bif decide ((a.length:Int)<2) then(none)
  else(qD a BIG 1)
def yC(a:List Int):Option Bool:=
  (gO a).bind λb=>
  (zI b).bind λc=>
  some (decide ((c.length:Int)=(a.length:Int)))
def zD:Option Bool:=
  some true
def nG(a:List Int)(b:sK->Option (Int×Bool))(c:List sK)(d:Int):Nat->Int->(List Int)->Option Bool
 |0,_,_=>none
 | l+1,m,n=>
  bif decide (m<d) then((idx c m).bind λe=>
  (b e).bind λf=>
  (bif !f.2 then(some true) else((cM a f.1).bind λg=>
  some (!g))).bind λh=>
  (bif h then(some true) else((cM n f.1).bind λi=>
  some i)).bind λj=>
  bif j then(none)
  else((app 8 n ([f.1])).bind λk=>
  (nG a b c d l) (w64 (m+1)) k))
  else(zD)
def vG(a:List Int)(b:List sK)(c:sK->Option (Int×Bool)):Option Bool:=
  nG a c b (b.length:Int) BIG 0 ([]:List Int)
def aBq(a:sK):Option (Int×Bool):=
  (iI a.Mille 0 500).bind λb=>
  some (a.Person,b)
def zE:Option Bool:=
  some true
def nH(a:List Int)(b:rE->Option (Int×Bool))(c:List rE)(d:Int):Nat->Int->(List Int)->Option Bool
 |0,_,_=>none
 | l+1,m,n=>
  bif decide (m<d) then((idx c m).bind λe=>
  (b e).bind λf=>
  (bif !f.2 then(some true) else((cM a f.1).bind λg=>
  some (!g))).bind λh=>
  (bif h then(some true) else((cM n f.1).bind λi=>
  some i)).bind λj=>
  bif j then(none)
  else((app 8 n ([f.1])).bind λk=>
  (nH a b c d l) (w64 (m+1)) k))
  else(zE)
def vH(a:List Int)(b:List rE)(c:rE->Option (Int×Bool)):Option Bool:=
  nH a c b (b.length:Int) BIG 0 ([]:List Int)
def aBr(a:rE):Option (Int×Bool):=
  (iI a.Num 1 10000).bind λb=>
  (bif b then((iI a.Den 1 10000).bind λc=>
  some c) else(some false)).bind λd=>
  some (a.Person,d)
def aHk(a:List Int)(b:eF):Option Bool:=
  (vG a b.Levies (λc=>aBq c)).bind λd=>
  (bif d then((vH a b.Rates (λe=>aBr e)).bind λf=>
  some f) else(some false)).bind λg=>
  some g
def uJ(a:List Int)(b:List aA)(c:Int)(d:eF)(e:List Int):Nat->Int->Option Bool
 |0,_=>none
 | i+1,j=>
  bif decide (j<c) then((idx b j).bind λf=>
  (bif decide (f.Kind=5) then((cM e f.Player).bind λg=>
  some (!g)) else(some false)).bind λh=>
  bif h then(none)
  else((uJ a b c d e i) (w64 (j+1))))
  else(aHk a d)
def aHj(a:List Int)(b:eF)(c:List Int):Option Bool:=
  uJ a b.Slips (b.Slips.length:Int) b c BIG 0
def uI(a:List Int)(b:List Int)(c:Int)(d:eF)(e:List Int):Nat->Int->Option Bool
 |0,_=>none
 | i+1,j=>
  bif decide (j<c) then((idx b j).bind λf=>
  (bif !decide (f=(-1)) then((cM e f).bind λg=>
  some (!g)) else(some false)).bind λh=>
  bif h then(none)
  else((uI a b c d e i) (w64 (j+1))))
  else(aHj a d e)
def uG(a:eF)(b:List Int):Option Bool:=
  (slices_Sort_int b).bind λc=>
  (sT a).bind λd=>
  (yC c).bind λe=>
  (bif !e then(some true) else((yC d).bind λf=>
  some (!f))).bind λg=>
  bif g then(none)
  else(uI d a.Tree.Slots (a.Tree.Slots.length:Int) a c BIG 0)
def uH(a:List aBv)(b:Int)(c:eF):Nat->Int->(List Int)->Option Bool
 |0,_,_=>none
 | k+1,l,m=>
  bif decide (l<b) then((idx a l).bind λd=>
  (iI d.Player 0 999).bind λe=>
  (bif !e then(some true) else((iI d.One 0 999).bind λf=>
  some (!f))).bind λg=>
  (bif g then(some true) else((iI d.Two (-1) 999).bind λh=>
  some (!h))).bind λi=>
  bif i then(none)
  else((app 8 m ([d.Player])).bind λj=>
  (uH a b c k) (w64 (l+1)) j))
  else(uG c m)
def vI(a:eF):Option Bool:=
  bif decide (64<(a.Teams.length:Int)) then(none)
  else(uH a.Teams (a.Teams.length:Int) a BIG 0 ([]:List Int))
def vJ(a:List aR):Option ((List aR)):=
  (app 32 ([]:List aR) a).bind λb=>
  some b
def oA(a:Int->Option ((List aR)))(_:Int)(_:Int)(_:aR->aR->Option Int)(b:Int)(_:List aR):Option ((List aR)):=
  a (w64 (b+1))
def oB(a:Int->Option ((List aR)))(b:Int)(c:Int)(d:aR->aR->Option Int)(e:Int)(f:List aR):Option ((List aR)):=
  oA a b c d e f
def jL(a:Int->Option ((List aR)))(b:Int)(c:Int)(d:aR->aR->Option Int)(e:Int)(f:List aR):Nat->Int->Option ((List aR))
 |0,_=>none
 | _+1,k=>
  (bif decide (b<k) then((idx f k).bind λg=>
  (idx f (w64 (k-1))).bind λh=>
  (d g h).bind λi=>
  some (decide (i<0))) else(some false)).bind λj=>
  bif j then(none)
  else(oB a b c d e f)
def nZ(a:List aR):Option ((List aR)):=
  some a
def eE(a:Int)(b:Int)(c:aR->aR->Option Int)(d:List aR):Nat->Int->Option ((List aR))
 |0,_=>none
 | e+1,f=>
  bif decide (f<b) then(jL (eE a b c d e) a b c f d BIG f)
  else(nZ d)
def kL(a:List aR)(b:Int)(c:Int)(d:aR->aR->Option Int):Option ((List aR)):=
  eE b c d a BIG (w64 (b+1))
def rX(a:List aR):Option ((List aR)):=
  some a
def mB(a:Int)(_:aR->aR->Option Int)(b:List aR):Nat->Int->Option ((List aR))
 |0,_=>none
 | _+1,c=>
  bif decide (c<a) then(none)
  else(rX b)
def rW(a:Int)(b:aR->aR->Option Int)(c:Int)(d:Int)(e:List aR):Option ((List aR)):=
  (kL e d a b).bind λf=>
  mB a b f BIG c
def mA(a:Int)(b:aR->aR->Option Int)(c:Int)(d:List aR):Nat->Int->Int->Option ((List aR))
 |0,_,_=>none
 | _+1,e,f=>
  bif decide (f<=a) then(none)
  else(rW a b c e d)
def oF(a:List aR)(b:Int)(c:aR->aR->Option Int):Option ((List aR)):=
  mA b c 20 a BIG 0 20
def nN(a:List aR)(b:aR->aR->Option Int):Option ((List aR)):=
  (oF a (a.length:Int) b).bind λc=>
  some c
def aDm(a:aR)(b:aR):Option Int:=
  some (w64 (a.Id-b.Id))
def xA(a:Int->Option ((List aR)))(b:Int)(_:List aR):Option ((List aR)):=
  a (w64 (b+1))
def wZ(a:List aR):Option ((List aR)):=
  some a
def lP(a:List aR):Nat->Int->Option ((List aR))
 |0,_=>none
 | d+1,e=>
  bif decide (e<(a.length:Int)) then((idx a e).bind λb=>
  (idx a (w64 (e-1))).bind λc=>
  bif decide (b=c) then(none)
  else(xA (lP a d) e a))
  else(wZ a)
def sJ(a:List aR):Option ((List aR)):=
  bif decide ((a.length:Int)<2) then(none)
  else(lP a BIG 1)
def aQe(a:List aR):Option ((List aR)×Bool):=
  (sJ a).bind λb=>
  some (b,true)
def aBc(a:List aR):Nat->Int->Option ((List aR)×Bool)
 |0,_=>none
 | g+1,h=>
  bif decide (h<(a.length:Int)) then((idx a h).bind λb=>
  (idx a (w64 (h-1))).bind λc=>
  (bif decide (b.Id=c.Id) then((idx a h).bind λd=>
  (idx a (w64 (h-1))).bind λe=>
  some (!decide (d=e))) else(some false)).bind λf=>
  bif f then(none)
  else((aBc a g) (w64 (h+1))))
  else(aQe a)
def aOx(a:List aR):Option ((List aR)×Bool):=
  (vJ a).bind λb=>
  (nN b (λc d=>aDm c d)).bind λe=>
  aBc e BIG 1
def aHi(a:eF):Option Bool:=
  (aOx a.Items).bind λb=>
  (bif b.2 then(some (decide ((a.Items.length:Int)<=40))) else(some false)).bind λc=>
  some c
def qR(a:List Int)(b:List aR)(c:Int)(d:eF):Nat->Int->Option Bool
 |0,_=>none
 | t+1,u=>
  bif decide (u<c) then((idx b u).bind λe=>
  bif decide (e.Kind=2) then((bif !decide (e.Kind=1) then(some (!decide (e.Kind=2))) else(some false)).bind λf=>
  (bif f then(some true) else((iI e.Id 0 99).bind λg=>
  some (!g))).bind λh=>
  (bif h then(some true) else((cM a e.Person).bind λi=>
  some (!i))).bind λj=>
  (bif j then(some true) else((iI e.Amount 0 30).bind λk=>
  some (!k))).bind λl=>
  bif l then(none)
  else((qR a b c d t) (w64 (u+1))))
  else((bif !decide (e.Kind=1) then(some (!decide (e.Kind=2))) else(some false)).bind λm=>
  (bif m then(some true) else((iI e.Id 0 99).bind λn=>
  some (!n))).bind λo=>
  (bif o then(some true) else((cM a e.Person).bind λp=>
  some (!p))).bind λq=>
  (bif q then(some true) else((iI e.Amount 0 10000000).bind λr=>
  some (!r))).bind λs=>
  bif s then(none)
  else((qR a b c d t) (w64 (u+1)))))
  else(aHi d)
def vF(a:eF):Option Bool:=
  (sT a).bind λb=>
  qR b a.Items (a.Items.length:Int) a BIG 0
def aAl(a:eF):Option Int:=
  (pU a.Tree a.Slips).bind λb=>
  bif !decide (b=0) then(none)
  else((aBb a).bind λc=>
  bif !c then(none)
  else((vI a).bind λd=>
  bif !d then(none)
  else((vF a).bind λe=>
  bif !e then(none)
  else(some 0))))
def aQd(a:Int):Option (Int×Int):=
  some (a,0)
def aBa(a:List Int)(b:Int)(c:eF):Nat->Int->Int->Option (Int×Int)
 |0,_,_=>none
 | e+1,f,g=>
  bif decide (g<b) then((idx a g).bind λd=>
  bif decide (d=(-1)) then(none)
  else((aBa a b c e) f (w64 (g+1))))
  else(aQd f)
def aQc(a:Int)(b:eF):Option (Int×Int):=
  aBa b.Tree.Slots (b.Tree.Slots.length:Int) b BIG a 0
def aAz(a:Int)(b:eF):Nat->Int->Int->Option (Int×Int)
 |0,_,_=>none
 | d+1,e,f=>
  bif decide (f<a) then((idx b.Prizes f).bind λc=>
  (chk (decide (0<=(w64 ((w64 (b.Tree.Rounds-1))-f))))).bind λ_=>
  (aAz a b d) (w64 (e+(w64 (c*2^(min (w64 ((w64 (b.Tree.Rounds-1))-f)).toNat 64))))) (w64 (f+1)))
  else(aQc e b)
def aDl(a:eF):Option (Int×Int):=
  (aAl a).bind λb=>
  bif !decide (b=0) then(none)
  else((idx a.Prizes a.Tree.Rounds).bind λc=>
  aAz a.Tree.Rounds a BIG c 0)
def pH:Option eF:=
  some (eF.mk (aD.mk 2 ([1,2,3,4])) ([(aA.mk 1 0 0 1 0)]) ([100,300,1001]) 40 ([(aBv.mk 1 11 12),(aBv.mk 2 21 22),(aBv.mk 3 31 (-1)),(aBv.mk 4 41 (-1))]) ([(sK.mk 11 250)]) ([(rE.mk 21 3 2),(rE.mk 22 1 3)]) ([(aR.mk 1 1 21 30),(aR.mk 2 2 11 2),(aR.mk 3 1 31 160)]))
end Go.Am
