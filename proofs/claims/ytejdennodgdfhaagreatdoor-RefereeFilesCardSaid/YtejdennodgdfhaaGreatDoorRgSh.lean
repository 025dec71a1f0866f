/- Shallow functions, printed by program. -/
import Derived.Test.YtejdennodgdfhaaGreatDoorTaSh
import Derived.Test.YtejdennodgdfhaaGreatDoorAmSortF0
import Derived.Test.YtejdennodgdfhaaGreatDoorAmNd
import Derived.Test.YtejdennodgdfhaaGreatDoorAmClo
namespace Go.Am
def bPc(x:List Str):List D:=[.sl 1 (x.map iI)]
structure aB where
 round:Int
 place:Int
 deriving DecidableEq,Inhabited
def aF(x:aB):List D:=[.lit (.int .i64 x.round),.lit (.int .i64 x.place)]
structure bC where
 Tree:aI
 players:List Int
 won:List (aB×Int)
 deriving DecidableEq,Inhabited
def aX(x:bC):List D:=[.lit (.int .i64 x.Tree.Rounds),.sl 1 (x.Tree.Slots.map aE),.sl 1 (x.players.map aE),.mp false (x.won.map λp:aB×Int=>((λa:aB=>Value.agg ((aF a).map bD).toArray) p.1,aE p.2))]
structure cR where
 Low:Int
 High:Int
 deriving DecidableEq,Inhabited
def cO(x:cR):List D:=[.lit (.int .i64 x.Low),.lit (.int .i64 x.High)]
structure eJ where
 Length:cR
 Due:Int
 deriving DecidableEq,Inhabited
def bS(x:eJ):List D:=[.lit (.int .i64 x.Length.Low),.lit (.int .i64 x.Length.High),.lit (.int .i64 x.Due)]
structure eU where
 Length:cR
 After:List Int
 With:List Int
 Due:Int
 Earliest:Int
 deriving DecidableEq,Inhabited
def aKj(x:eU):List D:=[.lit (.int .i64 x.Length.Low),.lit (.int .i64 x.Length.High),.sl 1 (x.After.map aE),.sl 1 (x.With.map aE),.lit (.int .i64 x.Due),.lit (.int .i64 x.Earliest)]
structure fW where
 Places:Int
 Wilds:Int
 Guards:Int
 Close:Int
 Freeze:Int
 deriving DecidableEq,Inhabited
def dM(x:fW):List D:=[.lit (.int .i64 x.Places),.lit (.int .i64 x.Wilds),.lit (.int .i64 x.Guards),.lit (.int .i64 x.Close),.lit (.int .i64 x.Freeze)]
structure aT where
 Id:Int
 Hour:Int
 Kind:Int
 Player:Int
 Rank:Int
 deriving DecidableEq,Inhabited
def aH(x:aT):List D:=[.lit (.int .i64 x.Id),.lit (.int .i64 x.Hour),.lit (.int .i64 x.Kind),.lit (.int .i64 x.Player),.lit (.int .i64 x.Rank)]
def bO(x:List cR):List D:=[.sl 2 (x.map cO)]
structure mZ where
 Days:List (List cR)
 Rest:Int
 Jobs:List eU
 deriving DecidableEq,Inhabited
def aVw(x:mZ):List D:=[.sl 1 (x.Days.map bO),.lit (.int .i64 x.Rest),.sl 6 (x.Jobs.map aKj)]
structure kT where
 Sets:Int
 Games:Int
 NoAd:Bool
 Tie:Int
 To:Int
 LastTie:Int
 LastTo:Int
 First:Int
 Then:Int
 Doubles:Bool
 deriving DecidableEq,Inhabited
def jE(x:kT):List D:=[.lit (.int .i64 x.Sets),.lit (.int .i64 x.Games),.lit (.bool x.NoAd),.lit (.int .i64 x.Tie),.lit (.int .i64 x.To),.lit (.int .i64 x.LastTie),.lit (.int .i64 x.LastTo),.lit (.int .i64 x.First),.lit (.int .i64 x.Then),.lit (.bool x.Doubles)]
structure oN where
 Field:fW
 Tree:aI
 Format:kT
 Days:List (List cR)
 Rest:Int
 Stages:List eJ
 deriving DecidableEq,Inhabited
def gY(x:oN):List D:=[.lit (.int .i64 x.Field.Places),.lit (.int .i64 x.Field.Wilds),.lit (.int .i64 x.Field.Guards),.lit (.int .i64 x.Field.Close),.lit (.int .i64 x.Field.Freeze),.lit (.int .i64 x.Tree.Rounds),.sl 1 (x.Tree.Slots.map aE),.lit (.int .i64 x.Format.Sets),.lit (.int .i64 x.Format.Games),.lit (.bool x.Format.NoAd),.lit (.int .i64 x.Format.Tie),.lit (.int .i64 x.Format.To),.lit (.int .i64 x.Format.LastTie),.lit (.int .i64 x.Format.LastTo),.lit (.int .i64 x.Format.First),.lit (.int .i64 x.Format.Then),.lit (.bool x.Format.Doubles),.sl 1 (x.Days.map bO),.lit (.int .i64 x.Rest),.sl 3 (x.Stages.map bS)]
structure aD where
 entered:Bool
 guard:Bool
 rank:Int
 turn:Int
 quit:Bool
 signed:Bool
 wild:Bool
 had:Bool
 deriving DecidableEq,Inhabited
def aG(x:aD):List D:=[.lit (.bool x.entered),.lit (.bool x.guard),.lit (.int .i64 x.rank),.lit (.int .i64 x.turn),.lit (.bool x.quit),.lit (.bool x.signed),.lit (.bool x.wild),.lit (.bool x.had)]
structure bZ where
 Field:fW
 players:List (Int×aD)
 wilds:List Int
 frozen:Bool
 first:List Int
 late:List Int
 more:Int
 entered:Int
 deriving DecidableEq,Inhabited
def cW(x:bZ):List D:=[.lit (.int .i64 x.Field.Places),.lit (.int .i64 x.Field.Wilds),.lit (.int .i64 x.Field.Guards),.lit (.int .i64 x.Field.Close),.lit (.int .i64 x.Field.Freeze),.mp true (x.players.map λp:Int×aD=>((λn:Int=>Value.int .i64 n) p.1,aG p.2)),.sl 1 (x.wilds.map aE),.lit (.bool x.frozen),.sl 1 (x.first.map aE),.sl 1 (x.late.map aE),.lit (.int .i64 x.more),.lit (.int .i64 x.entered)]
structure eT where
 Main:List Int
 Wilds:List Int
 Out:List Int
 Open:Int
 deriving DecidableEq,Inhabited
def dE(x:eT):List D:=[.sl 1 (x.Main.map aE),.sl 1 (x.Wilds.map aE),.sl 1 (x.Out.map aE),.lit (.int .i64 x.Open)]
structure dQ where
 Hour:Int
 Notices:List aT
 Slips:List aC
 Round:Int
 Place:Int
 First:Int
 Points:List Int
 Days:List (List cR)
 deriving DecidableEq,Inhabited
def fL(x:dQ):List D:=[.lit (.int .i64 x.Hour),.sl 5 (x.Notices.map aH),.sl 5 (x.Slips.map aJ),.lit (.int .i64 x.Round),.lit (.int .i64 x.Place),.lit (.int .i64 x.First),.sl 1 (x.Points.map aE),.sl 1 (x.Days.map bO)]
structure aS where
 Desk:oN
 Register:dQ
 bout:aP
 deriving DecidableEq,Inhabited
structure gX where
 Format:kT
 deriving DecidableEq,Inhabited
def fI(x:gX):List D:=[.lit (.int .i64 x.Format.Sets),.lit (.int .i64 x.Format.Games),.lit (.bool x.Format.NoAd),.lit (.int .i64 x.Format.Tie),.lit (.int .i64 x.Format.To),.lit (.int .i64 x.Format.LastTie),.lit (.int .i64 x.Format.LastTo),.lit (.int .i64 x.Format.First),.lit (.int .i64 x.Format.Then),.lit (.bool x.Format.Doubles)]
structure bR where
 A:Int
 B:Int
 deriving DecidableEq,Inhabited
def aU(x:bR):List D:=[.lit (.int .i64 x.A),.lit (.int .i64 x.B)]
structure nV where
 tie:Int
 to:Int
 deriving DecidableEq,Inhabited
def dN(x:nV):List D:=[.lit (.int .i64 x.tie),.lit (.int .i64 x.to)]
structure iU where
 Sets:List bR
 Games:bR
 Points:bR
 deriving DecidableEq,Inhabited
structure fA where
 Board:iU
 Server:Int
 Ends:Int
 Balls:Int
 Winner:Int
 deriving DecidableEq,Inhabited
def uW(x:fA):List D:=[.sl 2 (x.Board.Sets.map aU),.lit (.int .i64 x.Board.Games.A),.lit (.int .i64 x.Board.Games.B),.lit (.int .i64 x.Board.Points.A),.lit (.int .i64 x.Board.Points.B),.lit (.int .i64 x.Server),.lit (.int .i64 x.Ends),.lit (.int .i64 x.Balls),.lit (.int .i64 x.Winner)]
structure oO where
 Set:Int
 Tie:Bool
 Server:Int
 Winner:Int
 Points:bR
 Fresh:Bool
 deriving DecidableEq,Inhabited
def bU(x:oO):List D:=[.lit (.int .i64 x.Set),.lit (.bool x.Tie),.lit (.int .i64 x.Server),.lit (.int .i64 x.Winner),.lit (.int .i64 x.Points.A),.lit (.int .i64 x.Points.B),.lit (.bool x.Fresh)]
structure bT where
 rules:gX
 Score:fA
 first:Int
 won:bR
 ties:List Bool
 games:List oO
 deriving DecidableEq,Inhabited
def jH(x:bT):List D:=[.lit (.int .i64 x.rules.Format.Sets),.lit (.int .i64 x.rules.Format.Games),.lit (.bool x.rules.Format.NoAd),.lit (.int .i64 x.rules.Format.Tie),.lit (.int .i64 x.rules.Format.To),.lit (.int .i64 x.rules.Format.LastTie),.lit (.int .i64 x.rules.Format.LastTo),.lit (.int .i64 x.rules.Format.First),.lit (.int .i64 x.rules.Format.Then),.lit (.bool x.rules.Format.Doubles),.sl 2 (x.Score.Board.Sets.map aU),.lit (.int .i64 x.Score.Board.Games.A),.lit (.int .i64 x.Score.Board.Games.B),.lit (.int .i64 x.Score.Board.Points.A),.lit (.int .i64 x.Score.Board.Points.B),.lit (.int .i64 x.Score.Server),.lit (.int .i64 x.Score.Ends),.lit (.int .i64 x.Score.Balls),.lit (.int .i64 x.Score.Winner),.lit (.int .i64 x.first),.lit (.int .i64 x.won.A),.lit (.int .i64 x.won.B),.sl 1 (x.ties.map gT),.sl 7 (x.games.map bU)]
structure A3(α:Type) where
 x0:α
 x1:α
 x2:α
 deriving DecidableEq,Inhabited
def A3.at{α:Type}(a:A3 α)(p:Int):α:=if p=0 then a.x0 else if p=1 then a.x1 else a.x2
def A3.set{α:Type}(a:A3 α)(p:Int)(v:α):A3 α:=if p=0 then{a with x0:=v} else if p=1 then{a with x1:=v} else{a with x2:=v}
structure A6(α:Type) where
 x0:α
 x1:α
 x2:α
 x3:α
 x4:α
 x5:α
 deriving DecidableEq,Inhabited
def A6.at{α:Type}(a:A6 α)(p:Int):α:=if p=0 then a.x0 else if p=1 then a.x1 else if p=2 then a.x2 else if p=3 then a.x3 else if p=4 then a.x4 else a.x5
def A6.set{α:Type}(a:A6 α)(p:Int)(v:α):A6 α:=if p=0 then{a with x0:=v} else if p=1 then{a with x1:=v} else if p=2 then{a with x2:=v} else if p=3 then{a with x3:=v} else if p=4 then{a with x4:=v} else{a with x5:=v}
def strings_Split(s sep:Str):Option (List Str):=bAd s sep
def aBm(a:Int):Option (Int×Bool):=
  some (a,true)
def pS(a:List Int)(b:Int):Nat->Int->Int->Option (Int×Bool)
 |0,_,_=>none
 | e+1,f,g=>
  bif decide (g<b) then((idx a g).bind λc=>
  (bif decide (c<48) then(some true) else(some (decide (57<c)))).bind λd=>
  bif d then(none)
  else((pS a b e) (w64 ((w64 (10*f))+(w64 (IntKind.u8.wrap (c-48))))) (w64 (g+1))))
  else(aBm f)
def yY(a:Str):Option (Int×Bool):=
  (bif decide (a=([]:Str)) then(some true) else(some (decide (6<(a.length:Int))))).bind λb=>
  (bif b then(some true) else((sat a 0).bind λc=>
  (bif decide (c=48) then(some (!decide (a=([48]:Str)))) else(some false)).bind λd=>
  some d)).bind λe=>
  bif e then(some (0,false))
  else((aXk a).bind λf=>
  pS f (f.length:Int) BIG 0 0)
def aDn(a:List Str)(b:List Int):Option (Str×(List Int)×Bool):=
  (idx a 0).bind λc=>
  some (c,b,true)
def rJ(a:List Str)(b:List Str)(c:Int):Nat->Int->(List Int)->Option (Str×(List Int)×Bool)
 |0,_,_=>none
 | g+1,h,i=>
  bif decide (h<c) then((idx b h).bind λd=>
  (yY d).bind λe=>
  bif !e.2 then(some (([]:Str),([]:List Int),false))
  else((app 8 i ([e.1])).bind λf=>
  (rJ a b c g) (w64 (h+1)) f))
  else(aDn a i)
def aBh(a:Str):Option (Str×(List Int)×Bool):=
  (strings_Split a ([32]:Str)).bind λb=>
  (sub b 1 (b.length:Int)).bind λc=>
  rJ b c (c.length:Int) BIG 0 ([]:List Int)
def eR(a:Int)(b:Int)(c:Int):Option Bool:=
  (bif decide (b<=a) then(some (decide (a<=c))) else(some false)).bind λd=>
  some d
def uI:Option Bool:=
  some true
def gO(a:List Int)(b:Int)(c:aI):Nat->Int->(List (Int×Int))->Option Bool
 |0,_,_=>none
 | h+1,i,j=>
  bif decide (i<b) then((idx a i).bind λd=>
  bif decide (d=(-1)) then((idx c.Slots (aXi i 1)).bind λe=>
  bif decide (e=(-1)) then(some false)
  else((gO a b c h) (w64 (i+1)) j))
  else((bif decide (1<(aR d 0 (dL d (w64 ((aR d 0 j)+1)) j))) then(some true) else((eR d 0 999).bind λf=>
  some (!f))).bind λg=>
  bif g then(some false)
  else((gO a b c h) (w64 (i+1)) (dL d (w64 ((aR d 0 j)+1)) j))))
  else(uI)
def nQ(a:aI):Option Bool:=
  (eR a.Rounds 1 5).bind λb=>
  (bif !b then(some true) else((chk (decide (0<=a.Rounds))).bind λ_=>
  some (!decide ((a.Slots.length:Int)=(w64 (1*2^(min a.Rounds.toNat 64))))))).bind λc=>
  bif c then(some false)
  else(gO a.Slots (a.Slots.length:Int) a BIG 0 ([]:List (Int×Int)))
def lP:Option Int:=
  some (-1)
def dP(a:List aC)(b:aC->Option Bool)(c:Int):Nat->Int->Option Int
 |0,_=>none
 | f+1,g=>
  bif decide (g<c) then((idx a g).bind λd=>
  (b d).bind λe=>
  bif e then(some g)
  else((dP a b c f) (w64 (g+1))))
  else(lP)
def hC(a:List aC)(b:aC->Option Bool):Option Int:=
  dP a b (a.length:Int) BIG 0
def fP(a:List aC)(b:aC->Option Bool):Option Bool:=
  (hC a b).bind λc=>
  some (decide (0<=c))
def lG(a:aB)(b:aI):Option Bool:=
  (eR a.round 0 (w64 (b.Rounds-1))).bind λc=>
  (bif c then((chk (decide (0<=(w64 (a.round+1))))).bind λ_=>
  (eR a.place 0 (w64 (((b.Slots.length:Int).fdiv (2^(min (w64 (a.round+1)).toNat 64)))-1))).bind λd=>
  some d) else(some false)).bind λe=>
  some e
def sK:Option Int:=
  some (-1)
def gV(a:List Int)(b:Int)(c:Int):Nat->Int->Option Int
 |0,_=>none
 | e+1,f=>
  bif decide (f<c) then((idx a f).bind λd=>
  bif decide (b=d) then(some f)
  else((gV a b c e) (w64 (f+1))))
  else(sK)
def iK(a:List Int)(b:Int):Option Int:=
  gV a b (a.length:Int) BIG 0
def fG(a:List Int)(b:Int):Option Bool:=
  (iK a b).bind λc=>
  some (decide (0<=c))
def qA(a:aI)(b:aC):Option Bool:=
  (eR b.Player 0 999).bind λc=>
  bif !c then(some false)
  else(bif decide (b.Kind=5) then((bif decide (b.Round=0) then((eR b.Place 0 (w64 ((a.Slots.length:Int)-1))).bind λd=>
  some d) else(some false)).bind λe=>
  (bif e then((eR b.Old 0 999).bind λf=>
  some f) else(some false)).bind λg=>
  some g)
  else((eR b.Kind 1 4).bind λh=>
  (bif !h then(some true) else(some (!decide (b.Old=0)))).bind λi=>
  (bif i then(some true) else((lG (aB.mk b.Round b.Place) a).bind λj=>
  some (!j))).bind λk=>
  bif k then(some false)
  else((bif decide (0<b.Round) then(some true) else((sub a.Slots (w64 (2*b.Place)) (w64 ((w64 (2*b.Place))+2))).bind λl=>
  (fG l (-1)).bind λm=>
  some (!m))).bind λn=>
  some n)))
def nR(a:aC)(b:aI):Option Bool:=
  (qA b a).bind λc=>
  some (!c)
def jO(a:List Int):Option ((List Int)):=
  (app 8 ([]:List Int) a).bind λb=>
  some b
def nA(a:(aC×Bool)->Prop)(_:List Int)(_:aI)(_:List (aC×Int))(_:aC):Prop:=
  a ((aC.mk 0 0 0 0 0),false)
def gA(a:(aC×Bool)->Prop)(b:Int)(c:List Int)(d:aI)(e:List (aC×Int)):Nat->aC->(List (aC×Int))->Prop
 |0,_,_=>False
 | j+1,k,l=>
  aRb l (nA a c d e k)
  (λf g=>
  nb (bif decide (f.1.Place=b) then((idx c b).bind λh=>
  some (decide (f.1.Old=h))) else(some false)) λi=>
  bif i then(a (f.1,true))
  else((gA a b c d e j) k g))
def gN(a:aI)(b:List Int)(c:List (aC×Int))(d:Int)(Q:(aC×Bool)->Prop):Prop:=
  yR c λe=>
  gA Q d b a c BIG (aC.mk 0 0 0 0 0) e
def lC(_:(Bool×(List Int)×(List (aC×Int)))->Prop)(a:Int->(List Int)->(List (aC×Int))->(List Int)->Prop)(_:Int)(b:Int)(c:List Int)(_:aI)(d:List (aC×Int))(e:List Int):Prop:=
  a (w64 (b+1)) c d e
def lD(a:(Bool×(List Int)×(List (aC×Int)))->Prop)(b:Int->(List Int)->(List (aC×Int))->(List Int)->Prop)(c:Int)(d:Int)(e:List Int)(f:aI)(g:List (aC×Int))(h:List Int):Prop:=
  lC a b c d e f g h
def dC(a:(Bool×(List Int)×(List (aC×Int)))->Prop)(b:Int->(List Int)->(List (aC×Int))->(List Int)->Prop)(c:Int)(d:Int)(e:Int)(f:aI):Nat->Bool->(List Int)->(List (aC×Int))->aC->(List Int)->Prop
 |0,_,_,_,_,_=>False
 | j+1,k,l,m,n,o=>
  bif k then(nb (fG o n.Player) λg=>
  bif g then(a (false,l,m))
  else(nb (idx l c) λ_=>
  nb (app 8 o ([n.Player])) λh=>
  gN f (l.set c.toNat n.Player) (pJ n m) c λi=>
  (dC a b c d e f j) i.2 (l.set c.toNat n.Player) (pJ n m) i.1 h))
  else(lD a b d e l f m o)
def lB(a:(Bool×(List Int)×(List (aC×Int)))->Prop)(b:List Int)(_:aI)(c:List (aC×Int)):Prop:=
  a (decide ((c.length:Int)=0),b,c)
def cH(a:(Bool×(List Int)×(List (aC×Int)))->Prop)(b:Int)(c:aI):Nat->Int->(List Int)->(List (aC×Int))->(List Int)->Prop
 |0,_,_,_,_=>False
 | e+1,f,g,h,i=>
  bif decide (f<b) then(gN c g h f λd=>
  dC a (cH a b c e) f b f c BIG d.2 g h d.1 i)
  else(lB a g c h)
def kB(a:aI)(b:List Int)(c:List (aC×Int))(Q:(Bool×(List Int)×(List (aC×Int)))->Prop):Prop:=
  nb (jO a.Slots) λd=>
  cH Q (b.length:Int) a BIG 0 b c d
def rB(a:Int)(b:Int):Option aB:=
  (chk (decide (0<=(w64 (a+1))))).bind λ_=>
  some (aB.mk a (b.fdiv (2^(min (w64 (a+1)).toNat 64))))
def rA(_:List Int)(a:List (aB×Int))(_:aI):Option (Bool×(List (aB×Int))):=
  some (true,a)
def gB(a:Int)(b:Int)(c:List Int)(d:aI):Nat->Int->(List (aB×Int))->Option (Bool×(List (aB×Int)))
 |0,_,_=>none
 | i+1,j,k=>
  bif decide (j<b) then((rB j a).bind λe=>
  (bif cN e k then((idx c a).bind λf=>
  some (!decide ((aR e 0 k)=f))) else(some false)).bind λg=>
  bif g then(some (false,k))
  else((idx c a).bind λh=>
  (gB a b c d i) (w64 (j+1)) (dL e h k)))
  else(rA c k d)
def kQ(a:aI)(b:List Int)(c:List (aB×Int))(d:Int)(e:Int):Option (Bool×(List (aB×Int))):=
  gB d (w64 (e+1)) b a BIG 0 c
def vH(a:((Option bC)×Bool)->Prop)(b:List Int)(c:List (aB×Int))(d:aI):Prop:=
  a ((some (bC.mk d b c)),true)
def jL(a:((Option bC)×Bool)->Prop)(b:List Int)(c:aI)(d:List (aB×aC)):Nat->(List (aB×Int))->(List (aB×aC))->Prop
 |0,_,_=>False
 | k+1,l,m=>
  aRb m (vH a b l c)
  (λe f=>
  nb (iK b e.2.Player) λg=>
  nb (bif decide (g<0) then(some true) else((rB e.1.round g).bind λh=>
  some (!decide (h=e.1)))) λi=>
  bif i then(a ((none:Option bC),false))
  else(nb (kQ c b l g e.1.round) λj=>
  bif !j.1 then(a ((none:Option bC),false))
  else((jL a b c d k) j.2 f)))
def qY(a:((Option bC)×Bool)->Prop)(b:List Int)(c:List (aB×Int))(d:aI)(e:List (aB×aC)):Prop:=
  yR e λf=>
  jL a b d e BIG c f
def fY(a:((Option bC)×Bool)->Prop)(b:Int)(c:List Int)(d:aI)(e:List (aB×aC)):Nat->Int->(List (aB×Int))->Prop
 |0,_,_=>False
 | h+1,i,j=>
  bif decide (i<b) then(nb (idx c i) λf=>
  bif decide (f=(-1)) then(nb (kQ d c j (aXi i 1) 0) λg=>
  (fY a b c d e h) (w64 (i+1)) g.2)
  else((fY a b c d e h) (w64 (i+1)) j))
  else(qY a c j d e)
def qX(a:((Option bC)×Bool)->Prop)(b:List Int)(c:List (aB×Int))(d:aI)(e:List (aC×Int))(f:List (aB×aC)):Prop:=
  kB d b e λg=>
  bif !g.1 then(a ((none:Option bC),false))
  else(fY a (g.2.1.length:Int) g.2.1 d f BIG 0 c)
def fX(a:((Option bC)×Bool)->Prop)(b:List aC)(c:Int)(d:List Int)(e:List (aB×Int))(f:aI):Nat->Int->(List (aC×Int))->(List (aB×aC))->Prop
 |0,_,_,_=>False
 | i+1,j,k,l=>
  bif decide (j<c) then(nb (idx b j) λg=>
  bif decide (g.Kind=5) then((fX a b c d e f i) (w64 (j+1)) (dL g (w64 ((aR g 0 k)+1)) k) l)
  else(nb (bif cN (aB.mk g.Round g.Place) l then(some (!decide ((aR (aB.mk g.Round g.Place) (aC.mk 0 0 0 0 0) l)=g))) else(some false)) λh=>
  bif h then(a ((none:Option bC),false))
  else((fX a b c d e f i) (w64 (j+1)) k (dL (aB.mk g.Round g.Place) g l))))
  else(qX a d e f k l)
def rV(a:aI)(b:List aC)(Q:((Option bC)×Bool)->Prop):Prop:=
  nb (jO a.Slots) λc=>
  fX Q b (b.length:Int) c ([]:List (aB×Int)) a BIG 0 ([]:List (aC×Int)) ([]:List (aB×aC))
def jD(a:aI)(b:List aC)(Q:((Option bC)×Int)->Prop):Prop:=
  nb (nQ a) λc=>
  bif !c then(Q ((none:Option bC),70))
  else(nb (bif decide (60<(b.length:Int)) then(some true) else((fP b (λd=>nR d a)).bind λe=>
  some e)) λf=>
  bif f then(Q ((none:Option bC),71))
  else(rV a b λg=>
  bif !g.2 then(Q ((none:Option bC),72))
  else(Q (g.1,0))))
def kP(a:bC)(b:aB)(c:Int):Option Int:=
  bif decide (b.round=0) then((idx a.players (w64 ((w64 (2*b.place))+c))).bind λd=>
  some d)
  else(bif cN (aB.mk (w64 (b.round-1)) (w64 ((w64 (2*b.place))+c))) a.won then(some (aR (aB.mk (w64 (b.round-1)) (w64 ((w64 (2*b.place))+c))) 0 a.won))
  else(some (-2)))
def oJ{S:Type}(_:S->aB->aP->Option S)(a:Int->S->Option S)(_:bC)(_:Int)(b:Int)(c:S):Option S:=
  a (w64 (b+1)) c
def iT{S:Type}(a:S->aB->aP->Option S)(b:Int->S->Option S)(c:bC)(d:Int)(e:Int)(f:S):Option S:=
  oJ a b c d e f
def dY{S:Type}(a:S->aB->aP->Option S)(b:Int->S->Option S)(c:bC)(d:Int)(e:Int)(f:Int)(g:Int):Nat->Int->S->Option S
 |0,_,_=>none
 | k+1,l,m=>
  bif decide (l<g) then((kP c (aB.mk d l) 0).bind λh=>
  (kP c (aB.mk d l) 1).bind λi=>
  (a m (aB.mk d l) (aP.mk d l h i)).bind λj=>
  (dY a b c d e f g k) (w64 (l+1)) j)
  else(iT a b c e f m)
def oI{S:Type}(_:S->aB->aP->Option S)(a:S):Option S:=
  some a
def cQ{S:Type}(a:S->aB->aP->Option S)(b:bC)(c:Int):Nat->Int->S->Option S
 |0,_,_=>none
 | d+1,e,f=>
  bif decide (e<c) then((chk (decide (0<=(w64 (e+1))))).bind λ_=>
  dY a (cQ a b c d) b e c e ((b.Tree.Slots.length:Int).fdiv (2^(min (w64 (e+1)).toNat 64))) BIG 0 f)
  else(oI a f)
def fZ{S:Type}(a:bC)(b:S->aB->aP->Option S)(c:S):Option S:=
  cQ b a a.Tree.Rounds BIG 0 c
def rS(a:aI)(b:List aC)(Q:((List aP)×Int)->Prop):Prop:=
  jD a b λc=>
  bif !decide (c.2=0) then(Q (([]:List aP),c.2))
  else(nb (c.1) λd=>
  nb (fZ (S:=(List aP)) d (λe _ f=>
  (app 32 e ([f])).bind λg=>
  some g) ([]:List aP)) λh=>
  Q (h,0))
def pO:Option Int:=
  some (-1)
def iF(a:List eJ)(b:eJ->Option Bool)(c:Int):Nat->Int->Option Int
 |0,_=>none
 | f+1,g=>
  bif decide (g<c) then((idx a g).bind λd=>
  (b d).bind λe=>
  bif e then(none)
  else((iF a b c f) (w64 (g+1))))
  else(pO)
def mV(a:List eJ)(b:eJ->Option Bool):Option Int:=
  iF a b (a.length:Int) BIG 0
def lA(a:List eJ)(b:eJ->Option Bool):Option Bool:=
  (mV a b).bind λc=>
  some (decide (0<=c))
def nP(a:Int)(b:Int)(c:Int):Option Bool:=
  (bif decide (b<=a) then(some (decide (a<=c))) else(some false)).bind λd=>
  some d
def zM(a:cR)(b:Int)(c:Int):Option Bool:=
  (bif decide (a.Low<=a.High) then((nP a.Low b c).bind λd=>
  some d) else(some false)).bind λe=>
  (bif e then((nP a.High b c).bind λf=>
  some f) else(some false)).bind λg=>
  some g
def aDj(a:cR)(b:Int):Option Bool:=
  (zM a 1 600).bind λc=>
  (bif c then((nP b 0 2).bind λd=>
  some d) else(some false)).bind λe=>
  some e
def aFp(a:eJ):Option Bool:=
  (aDj a.Length a.Due).bind λb=>
  some (!b)
def qZ(a:aI)(b:List aC)(c:Int)(d:Int)(Q:((Option bC)×aB×Int)->Prop):Prop:=
  jD a b λe=>
  nb (bif decide (e.2=0) then((lG (aB.mk c d) a).bind λf=>
  some (!f)) else(some false)) λg=>
  bif g then(Q (e.1,(aB.mk c d),1))
  else(Q (e.1,(aB.mk c d),e.2))
def pZ(a:aI)(b:List aC)(c:Int)(d:Int)(Q:(Int×Int)->Prop):Prop:=
  qZ a b c d λe=>
  bif !decide (e.2.2=0) then(Q (0,e.2.2))
  else(nb (e.1) λf=>
  bif !(cN e.2.1 f.won) then(Q (0,3))
  else(Q (aR e.2.1 0 f.won,0)))
def wR(a:aI)(b:List aC):Option ((List aP)×Int):=lI a b
def vI(a:aI)(b:List aC)(c:Int)(d:Int):Option (Int×Int):=gP a b c d
def xI(a:Int->(List eU)->(List aP)->Option ((List eU)×(List aP)×Int))(_:List aC)(_:List eJ)(_:List aP)(_:Int)(b:Int)(_:aI)(c:List eU)(d:List aP):Option ((List eU)×(List aP)×Int):=
  a (w64 (b+1)) c d
def aLl(a:Int->(List eU)->(List aP)->Option ((List eU)×(List aP)×Int))(b:List aC)(c:List eJ)(d:List aP)(e:Int)(f:Int)(g:aI)(h:List eU)(i:List aP)(j:aP)(k:List Int)(l:cR)(m:List Int)(n:Int)(o:Int):Option ((List eU)×(List aP)×Int):=
  (app 80 h ([(eU.mk l k m n o)])).bind λp=>
  (app 32 i ([j])).bind λq=>
  xI a b c d e f g p q
def aDi(a:Int->(List eU)->(List aP)->Option ((List eU)×(List aP)×Int))(b:List aC)(c:List eJ)(d:List aP)(e:Int)(f:Int)(g:Int)(h:aI)(i:List eU)(j:List aP)(k:aP)(l:List Int)(m:cR)(n:List Int)(o:Int)(p:Int):Nat->Int->Option ((List eU)×(List aP)×Int)
 |0,_=>none
 | _+1,q=>
  bif decide (q<g) then(none)
  else(aLl a b c d e f h i j k l m n o p)
def aLk(a:List eU)(b:List aP):Option ((List eU)×(List aP)×Int):=
  bif decide (6<(a.length:Int)) then(none)
  else(some (a,b,0))
def qG(a:List aC)(b:List eJ)(c:List aP)(d:Int)(e:aI):Nat->Int->(List eU)->(List aP)->Option ((List eU)×(List aP)×Int)
 |0,_,_,_=>none
 | j+1,k,l,m=>
  bif decide (k<d) then((idx c k).bind λf=>
  (vI e a f.Round f.Place).bind λg=>
  bif decide (g.2=0) then(xI (qG a b c d e j) a b c d k e l m)
  else((idx b f.Round).bind λh=>
  (idx b f.Round).bind λi=>
  aDi (qG a b c d e j) a b c d k (m.length:Int) e l m f ([]:List Int) h.Length ([]:List Int) i.Due 0 BIG 0))
  else(aLk l m)
def aLj(a:aI)(b:List aC)(c:List eJ):Option ((List eU)×(List aP)×Int):=
  (wR a b).bind λd=>
  bif !decide (d.2=0) then(none)
  else((bif !decide ((c.length:Int)=a.Rounds) then(some true) else((lA c (λe=>aFp e)).bind λf=>
  some f)).bind λg=>
  bif g then(none)
  else(qG b c d.1 (d.1.length:Int) a BIG 0 ([]:List eU) ([]:List aP)))
def fN(a:Int)(b:Int)(c:Int):Option Bool:=
  (bif decide (b<=a) then(some (decide (a<=c))) else(some false)).bind λd=>
  some d
def aBb(a:fW):Option Bool:=
  (fN a.Places 1 32).bind λb=>
  (bif b then((fN a.Wilds 0 32).bind λc=>
  some c) else(some false)).bind λd=>
  (bif d then((fN a.Guards 0 32).bind λe=>
  some e) else(some false)).bind λf=>
  (bif f then((fN a.Close 0 9999).bind λg=>
  some g) else(some false)).bind λh=>
  (bif h then((fN a.Freeze a.Close 9999).bind λi=>
  some i) else(some false)).bind λj=>
  some j
def yN(a:aT):Option Bool:=
  bif decide (a.Kind=1) then((fN a.Id 0 999).bind λb=>
  (bif b then((fN a.Player 0 999).bind λc=>
  some c) else(some false)).bind λd=>
  (bif d then((fN a.Hour 0 9999).bind λe=>
  some e) else(some false)).bind λf=>
  (bif f then((fN a.Rank 0 9999).bind λg=>
  some g) else(some false)).bind λh=>
  some h)
  else(none)
def aGe:Option Int:=
  some 0
def tW(a:List aT)(b:Int):Nat->Int->(List (Int×aT))->Option Int
 |0,_,_=>none
 | g+1,h,i=>
  bif decide (h<b) then((idx a h).bind λc=>
  (yN c).bind λd=>
  (bif !d then(some true) else((bif cN c.Id i then(some (!decide ((aR c.Id (aT.mk 0 0 0 0 0) i)=c))) else(some false)).bind λe=>
  some e)).bind λf=>
  bif f then(none)
  else((tW a b g) (w64 (h+1)) (dL c.Id c i)))
  else(aGe)
def uX(a:fW)(b:List aT):Option Int:=
  (aBb a).bind λc=>
  bif !c then(none)
  else(bif decide (60<(b.length:Int)) then(none)
  else(tW b (b.length:Int) BIG 0 ([]:List (Int×aT))))
def qP:Option Int:=
  some (-1)
def iR(a:List cR)(b:cR->Option Bool)(c:Int):Nat->Int->Option Int
 |0,_=>none
 | f+1,g=>
  bif decide (g<c) then((idx a g).bind λd=>
  (b d).bind λe=>
  bif e then(none)
  else((iR a b c f) (w64 (g+1))))
  else(qP)
def nK(a:List cR)(b:cR->Option Bool):Option Int:=
  iR a b (a.length:Int) BIG 0
def lN(a:List cR)(b:cR->Option Bool):Option Bool:=
  (nK a b).bind λc=>
  some (decide (0<=c))
def aDg(a:cR):Option Bool:=
  (zM a 0 1440).bind λb=>
  some (!b)
def aJi:Option Int:=
  some 0
def aBe(_:List eU)(a:Int)(_:mZ):Nat->Int->Option Int
 |0,_=>none
 | _+1,b=>
  bif decide (b<a) then(none)
  else(aJi)
def aJh(a:mZ):Option Int:=
  aBe a.Jobs (a.Jobs.length:Int) a BIG 0
def vD(a:List (List cR))(b:Int)(c:mZ):Nat->Int->Option Int
 |0,_=>none
 | j+1,k=>
  bif decide (k<b) then((idx a k).bind λd=>
  (nP (d.length:Int) 1 3).bind λe=>
  (bif !e then(some true) else((idx c.Days 0).bind λf=>
  some (!decide ((d.length:Int)=(f.length:Int))))).bind λg=>
  bif g then(none)
  else((lN d (λh=>aDg h)).bind λi=>
  bif i then(none)
  else((vD a b c j) (w64 (k+1)))))
  else(aJh c)
def xH(a:mZ):Option Int:=
  (nP (a.Days.length:Int) 1 3).bind λb=>
  (bif !b then(some true) else((nP a.Rest 0 600).bind λc=>
  some (!c))).bind λd=>
  (bif d then(some true) else(some (decide (6<(a.Jobs.length:Int))))).bind λe=>
  bif e then(none)
  else(vD a.Days (a.Days.length:Int) a BIG 0)
def rT(a:aI)(b:List aC)(Q:Int->Prop):Prop:=
  jD a b λc=>
  Q c.2
def mH(a:Int)(b:Int)(c:Int):Option Bool:=
  (bif decide (b<=a) then(some (decide (a<=c))) else(some false)).bind λd=>
  some d
def vF(a:Int)(b:kT):Option Bool:=
  (bif decide (a=(-1)) then(some true) else(some (decide (a=0)))).bind λc=>
  (bif c then(some true) else(some (decide (a=(w64 (b.Games-1)))))).bind λd=>
  (bif d then(some true) else(some (decide (a=b.Games)))).bind λe=>
  some e
def zO(a:kT):Option Int:=
  (mH a.Sets 1 3).bind λb=>
  (bif b then((mH a.Games 1 8).bind λc=>
  some c) else(some false)).bind λd=>
  (bif d then((vF a.Tie a).bind λe=>
  some e) else(some false)).bind λf=>
  (bif f then((vF a.LastTie a).bind λg=>
  some g) else(some false)).bind λh=>
  (bif h then((mH a.To 1 15).bind λi=>
  some i) else(some false)).bind λj=>
  (bif j then((mH a.LastTo 1 15).bind λk=>
  some k) else(some false)).bind λl=>
  (bif l then((mH a.First 0 20).bind λm=>
  some m) else(some false)).bind λn=>
  (bif n then((mH a.Then 0 20).bind λo=>
  some o) else(some false)).bind λp=>
  bif p then(some 0)
  else(none)
def wS(a:aI)(b:List aC):Option Int:=gE a b
def aBf(a:oN):Option Int:=
  (aLj a.Tree ([]:List aC) a.Stages).bind λb=>
  (uX a.Field ([]:List aT)).bind λc=>
  bif !decide (c=0) then(bif !decide (c=0) then(none)
  else((xH (mZ.mk a.Days a.Rest ([]:List eU))).bind λd=>
  bif !decide (d=0) then(bif !decide (d=0) then(none)
  else(some 0))
  else((bif !decide (b.2.2=0) then(some (!decide (b.2.2=2))) else(some false)).bind λe=>
  bif e then(none)
  else(some 0))))
  else((wS a.Tree ([]:List aC)).bind λf=>
  bif !decide (f=0) then(bif !decide (f=0) then(none)
  else((xH (mZ.mk a.Days a.Rest ([]:List eU))).bind λg=>
  bif !decide (g=0) then(bif !decide (g=0) then(none)
  else(some 0))
  else((bif !decide (b.2.2=0) then(some (!decide (b.2.2=2))) else(some false)).bind λh=>
  bif h then(none)
  else(some 0))))
  else((zO a.Format).bind λi=>
  bif !decide (i=0) then(none)
  else((xH (mZ.mk a.Days a.Rest ([]:List eU))).bind λj=>
  bif !decide (j=0) then(bif !decide (j=0) then(none)
  else(some 0))
  else((bif !decide (b.2.2=0) then(some (!decide (b.2.2=2))) else(some false)).bind λk=>
  bif k then(none)
  else(some 0)))))
def pT(a:Str)(b:Int):Option Str:=
  (mE a ([124]:Str)).bind λc=>
  (mE c (bAg ([IntKind.u8.wrap (48+(IntKind.u8.wrap (w64 ((b.tmod 97).tdiv 10)))),IntKind.u8.wrap (48+(IntKind.u8.wrap ((b.tmod 97).tmod 10))),10]))).bind λd=>
  some d
def gQ(a:Str)(b:List Int)(c:Int):Nat->Int->Int->Option Str
 |0,_,_=>none
 | e+1,f,g=>
  bif decide (g<c) then((idx b g).bind λd=>
  (gQ a b c e) (w64 (f+(w64 d))) (w64 (g+1)))
  else(pT a f)
def nS(a:Str)(b:Int):Option Str:=
  (mE (bFk (IntKind.i32.wrap (w64 (97+(b.tmod 26))))) a).bind λc=>
  (aXk c).bind λd=>
  gQ c d (d.length:Int) BIG 0 0
def tS(_:List aT):Option Unit:=
  some ()
def kK{S:Type}(_:S->aT->Option (S×Bool))(a:S):Option (S×Bool):=
  some (a,true)
def eC{S:Type}(a:S->aT->Option (S×Bool))(b:List aT)(c:Int):Nat->Int->S->Option (S×Bool)
 |0,_,_=>none
 | f+1,g,h=>
  bif decide (g<c) then((idx b g).bind λd=>
  (a h d).bind λe=>
  bif !e.2 then(some e)
  else((eC a b c f) (w64 (g+1)) e.1))
  else(kK a h)
def iC{S:Type}(a:S->aT->Option (S×Bool))(b:List aT)(c:S):Option (S×Bool):=
  eC a b (b.length:Int) BIG 0 c
def mI(a:List aT):Option ((List aT)):=
  (iC (S:=(List aT)) (λb c=>
  (app 40 b ([c])).bind λd=>
  some (d,true)) a ([]:List aT)).bind λe=>
  bif e.2 then(some e.1)
  else(none)
def nH(a:List aT):Option ((List aT)):=
  (mI a).bind λb=>
  some b
def rZ(x:List aT)(a:aT->aT->Option Int):Option (List aT):=zT x a
def lQ(a:List aT)(b:aT->aT->Option Int):Option ((List aT)):=
  (nH a).bind λc=>
  (rZ c b).bind λd=>
  some d
def aJd(a:Int):Option Int:=
  some a
def uZ(a:Int)(b:List Int)(c:Int):Nat->Int->Option Int
 |0,_=>none
 | e+1,f=>
  bif decide (f<c) then((idx b f).bind λd=>
  bif !decide (d=a) then(none)
  else((uZ a b c e) (w64 (f+1))))
  else(aJd a)
def aBu(a:List Int):Option Int:=
  uZ 0 a (a.length:Int) BIG 0
def aBa(a:aT)(b:aT):Option Int:=
  (aBu ([w64 (a.Hour-b.Hour),w64 (a.Id-b.Id)])).bind λc=>
  some c
def nI(a:List aT):Option ((List aT)):=
  bif decide ((a.length:Int)<2) then(some a)
  else(none)
def wZ(a:bZ)(b:aT):Option bZ:=
  bif decide (b.Kind=1) then(bif decide (b.Kind=1) then((bif decide (b.Hour<=a.Field.Close) then(some (!((aR b.Player (aD.mk false false 0 0 false false false false) a.players).entered))) else(some false)).bind λc=>
  bif c then(some (bZ.mk a.Field (dL b.Player (aD.mk true (decide (b.Kind=2)) b.Rank (w64 (a.entered+1)) ((aR b.Player (aD.mk false false 0 0 false false false false) a.players).quit) ((aR b.Player (aD.mk false false 0 0 false false false false) a.players).signed) ((aR b.Player (aD.mk false false 0 0 false false false false) a.players).wild) ((aR b.Player (aD.mk false false 0 0 false false false false) a.players).had)) a.players) a.wilds a.frozen a.first a.late a.more (w64 (a.entered+1))))
  else(some (bZ.mk a.Field (dL b.Player (aR b.Player (aD.mk false false 0 0 false false false false) a.players) a.players) a.wilds a.frozen a.first a.late a.more a.entered)))
  else(none))
  else(none)
def tX(a:Int)(b:fW)(c:List (Int×aD))(d:List Int)(e:List Int)(f:List Int)(g:fW)(h:Bool)(i:Int)(j:Int):Option ((Option bZ)):=
  bif decide (b.Freeze<a) then(none)
  else(some (some (bZ.mk g c d h e f i j)))
def tY(a:Int)(b:Int)(c:fW)(d:List aT):Nat->Int->(List (Int×aD))->(List Int)->(List Int)->(List Int)->fW->Bool->Int->Int->Option ((Option bZ))
 |0,_,_,_,_,_,_,_,_,_=>none
 | g+1,h,i,j,k,l,m,n,o,p=>
  bif decide (h<b) then((idx d h).bind λe=>
  bif decide (a<e.Hour) then(tX a c i j k l m n o p)
  else(bif decide (c.Freeze<e.Hour) then(none)
  else((wZ (bZ.mk m i j n k l o p) e).bind λf=>
  bif f.frozen then(none)
  else((tY a b c d g) (w64 (h+1)) f.players f.wilds f.first f.late f.Field f.frozen f.more f.entered))))
  else(tX a c i j k l m n o p)
def aFe(a:fW)(b:List aT)(c:Int):Option ((Option bZ)):=
  (tS b).bind λ_=>
  (lQ b (λd e=>aBa d e)).bind λf=>
  (nI f).bind λg=>
  tY c (g.length:Int) a g BIG 0 ([]:List (Int×aD)) ([]:List Int) ([]:List Int) ([]:List Int) a false 0 0
def aHo(a:fW)(b:List aT)(c:Int)(d:Int):Option ((Option bZ)×Int):=
  (uX a b).bind λe=>
  bif !decide (e=0) then(none)
  else((fN c 0 9999).bind λf=>
  (bif !f then(some true) else((fN d 0 999).bind λg=>
  some (!g))).bind λh=>
  bif h then(none)
  else((aFe a b c).bind λi=>
  some (i,0)))
def pR(a:bZ):Option Int:=
  some (w64 (a.Field.Places+a.more))
def wX(a:Int):Option Int:=
  some a
def kF(a:bZ)(b:List Int)(c:Int):Nat->Int->Int->Option Int
 |0,_,_=>none
 | e+1,f,g=>
  bif decide (g<c) then((idx b g).bind λd=>
  bif (aR d (aD.mk false false 0 0 false false false false) a.players).guard then((kF a b c e) (w64 (f+1)) (w64 (g+1)))
  else((kF a b c e) f (w64 (g+1))))
  else(wX f)
def uL(a:bZ)(b:List Int):Option Int:=
  kF a b (b.length:Int) BIG 0 0
def iJ(a:List (Int×aD))(b:Int):Option Bool:=
  (bif (aR b (aD.mk false false 0 0 false false false false) a).entered then(some (!((aR b (aD.mk false false 0 0 false false false false) a).quit))) else(some false)).bind λc=>
  (bif c then(some (!((aR b (aD.mk false false 0 0 false false false false) a).had))) else(some false)).bind λd=>
  some d
def sL(x:List Int)(a:Int->Int->Option Int):Option (List Int):=zT x a
def lV(a:aD):Option Int:=
  bif decide (a.rank=0) then(some 1)
  else(some 0)
def kE(a:Int)(b:Int)(c:bZ):Option Int:=
  (lV (aR a (aD.mk false false 0 0 false false false false) c.players)).bind λd=>
  (lV (aR b (aD.mk false false 0 0 false false false false) c.players)).bind λe=>
  (aBu ([w64 (d-e),w64 (((aR a (aD.mk false false 0 0 false false false false) c.players).rank)-((aR b (aD.mk false false 0 0 false false false false) c.players).rank)),w64 (((aR a (aD.mk false false 0 0 false false false false) c.players).turn)-((aR b (aD.mk false false 0 0 false false false false) c.players).turn))])).bind λf=>
  some f
def mP(a:((List Int))->Prop)(b:bZ)(c:List Int):Prop:=
  nb (sL c (λd e=>kE d e b)) λf=>
  a f
def fM(a:((List Int))->Prop)(b:bZ):Nat->(List Int)->(List (Int×aD))->Prop
 |0,_,_=>False
 | g+1,h,i=>
  aRb i (mP a b h)
  (λc d=>
  nb (iJ b.players c.1) λe=>
  bif e then(nb (app 8 h ([c.1])) λf=>
  (fM a b g) f d)
  else((fM a b g) h d))
def pC(a:bZ)(Q:((List Int))->Prop):Prop:=
  yR a.players λb=>
  fM Q a BIG ([]:List Int) b
def mM(l:bZ):Option (List Int):=if l.players.length<4294967296 then zT ((l.players.filter λp=>(iJ l.players p.1).getD false).map Prod.fst) (λa b=>kE a b l) else none
def wY(a:List Int):Option ((List Int)):=
  some a
def kG(a:bZ)(b:List Int)(c:Int):Nat->Int->(List Int)->Option ((List Int))
 |0,_,_=>none
 | j+1,k,l=>
  bif decide (k<c) then((idx b k).bind λd=>
  (pR a).bind λe=>
  (bif decide ((l.length:Int)<e) then((bif !((aR d (aD.mk false false 0 0 false false false false) a.players).guard) then(some true) else((uL a l).bind λf=>
  some (decide (f<a.Field.Guards)))).bind λg=>
  some g) else(some false)).bind λh=>
  bif h then((app 8 l ([d])).bind λi=>
  (kG a b c j) (w64 (k+1)) i)
  else((kG a b c j) (w64 (k+1)) l))
  else(wY l)
def uM(a:bZ):Option ((List Int)):=
  (mM a).bind λb=>
  kG a b (b.length:Int) BIG 0 ([]:List Int)
def sO(a:bZ):Option ((List Int)):=
  bif !a.frozen then((uM a).bind λb=>
  some b)
  else(none)
def uG:Option Int:=
  none
def oM(a:List Int)(b:Int->Option Bool)(c:Int):Nat->Int->Option Int
 |0,_=>none
 | _+1,f=>
  bif decide (f<c) then((idx a f).bind λd=>
  (b d).bind λe=>
  bif e then(some f)
  else(none))
  else(uG)
def rP(a:List Int)(b:Int->Option Bool):Option Int:=
  oM a b (a.length:Int) BIG 0
def tR(a:Int)(b:List Int):Option ((List Int)):=
  (chk (decide (0<=a)&&decide (a<=(b.length:Int)))).bind λ_=>
  (chk (decide (a.toNat<=b.length))).bind λ_=>
  (chk (decide (0<=a))).bind λ_=>
  some (b.take a.toNat)
def oF(_:Int->Option Bool)(a:List Int):Nat->Int->Int->Option ((List Int))
 |0,_,_=>none
 | _+1,b,c=>
  bif decide (c<(a.length:Int)) then(none)
  else(tR b a)
def qN(a:List Int)(b:Int->Option Bool):Option ((List Int)):=
  (rP a b).bind λc=>
  bif decide (c=(-1)) then(none)
  else(oF b a BIG c (w64 (c+1)))
def rF(a:Int)(b:List Int):Option Bool:=
  (fG b a).bind λc=>
  some c
def yO(a:bZ):Option ((List Int)):=
  (sO a).bind λb=>
  (mM a).bind λc=>
  (qN c (λd=>rF d b)).bind λe=>
  some e
def aHk(a:fW)(b:List aT)(c:Int):Option (eT×Int):=
  (aHo a b c 0).bind λd=>
  bif !decide (d.2=0) then(none)
  else((d.1).bind λe=>
  (sO e).bind λf=>
  (d.1).bind λg=>
  (yO g).bind λh=>
  (pR g).bind λi=>
  some ((eT.mk f g.wilds h (w64 (i-(f.length:Int)))),0))
def strconv_Itoa(n:Int):Option Str:=aWk n
def strings_Join(l:List Str)(a:Str):Option Str:=bEp l a
def aEq(a:List Str):Option Str:=
  (strings_Join a ([32]:Str)).bind λb=>
  some b
def sS(a:List Int)(b:Int):Nat->Int->(List Str)->Option Str
 |0,_,_=>none
 | f+1,g,h=>
  bif decide (g<b) then((idx a g).bind λc=>
  (strconv_Itoa c).bind λd=>
  (app 16 h ([d])).bind λe=>
  (sS a b f) (w64 (g+1)) e)
  else(aEq h)
def aDm(a:List Int):Option Str:=
  bif decide ((a.length:Int)=0) then(none)
  else(sS a (a.length:Int) BIG 0 ([]:List Str))
def nE(a:aS)(b:eT->Option ((List Int))):Option Str:=
  (aHk a.Desk.Field a.Register.Notices a.Register.Hour).bind λc=>
  (b c.1).bind λd=>
  (aDm d).bind λe=>
  some e
def qI(a:eT):Option ((List Int)):=
  some a.Main
def oL(a:List aT):Option ((List aT)):=
  (app 40 ([]:List aT) a).bind λb=>
  some b
def jC(a:aS)(b:Int)(c:Int)(d:Int):Option (Str×aS):=
  bif decide (60<=(a.Register.Notices.length:Int)) then(none)
  else((oL a.Register.Notices).bind λe=>
  (app 40 e ([(aT.mk (a.Register.Notices.length:Int) a.Register.Hour b c d)])).bind λf=>
  (uX a.Desk.Field f).bind λg=>
  bif !decide (g=0) then(none)
  else(some (([111,107]:Str),(aS.mk a.Desk (dQ.mk a.Register.Hour f a.Register.Slips a.Register.Round a.Register.Place a.Register.First a.Register.Points a.Register.Days) a.bout))))
def rU(a:aI)(b:List aC)(Q:((List aP)×Int)->Prop):Prop:=
  jD a b λc=>
  bif !decide (c.2=0) then(Q (([]:List aP),c.2))
  else(nb (c.1) λd=>
  nb (fZ (S:=(List aP)) d (λe f g=>
  (c.1).bind λh=>
  (bif !(cN f h.won) then(some (decide (0<=(min g.One g.Two)))) else(some false)).bind λi=>
  bif i then((app 32 e ([g])).bind λj=>
  some j)
  else(some e)) ([]:List aP)) λk=>
  Q (k,0))
def qO:Option Int:=
  none
def lO(a:List aP)(b:aP->Option Bool)(c:Int):Nat->Int->Option Int
 |0,_=>none
 | _+1,f=>
  bif decide (f<c) then((idx a f).bind λd=>
  (b d).bind λe=>
  bif e then(some f)
  else(none))
  else(qO)
def nJ(a:List aP)(b:aP->Option Bool):Option Int:=
  lO a b (a.length:Int) BIG 0
def rI(a:aP)(b:Int)(c:Int):Option Bool:=
  (bif decide (a.Round=b) then(some (decide (a.Place=c))) else(some false)).bind λd=>
  some d
def wT(a:aI)(b:List aC):Option ((List aP)×Int):=lJ a b
def tM(a:aS)(b:Int)(c:Int):Option (aP×Bool):=
  (wT a.Desk.Tree a.Register.Slips).bind λd=>
  (nJ d.1 (λe=>rI e b c)).bind λf=>
  bif decide (f<0) then(none)
  else((idx d.1 f).bind λg=>
  some (g,true))
def kJ(a:aS):Option Bool:=
  some (decide (0<=a.Register.Round))
def mY(a:aS)(b:Int)(c:Int)(d:Int):Option (Str×aS):=
  (tM a b c).bind λe=>
  (kJ a).bind λf=>
  (bif f then(some true) else(some (decide (1<d)))).bind λg=>
  (bif g then(some true) else(some (!e.2))).bind λh=>
  bif h then(none)
  else(some (([111,107]:Str),(aS.mk a.Desk (dQ.mk a.Register.Hour a.Register.Notices a.Register.Slips b c d a.Register.Points a.Register.Days) e.1)))
def oC(a:aS)(b:Int)(c:Int):Option (Str×aS):=
  bif decide (60<=(a.Register.Slips.length:Int)) then(none)
  else(bif decide (b=1) then(none)
  else((app 40 a.Register.Slips ([(aC.mk c a.Register.Round a.Register.Place a.bout.One 0)])).bind λd=>
  (strconv_Itoa a.bout.One).bind λe=>
  some (e,(aS.mk a.Desk (dQ.mk a.Register.Hour a.Register.Notices d (-1) (-1) 0 ([]:List Int) a.Register.Days) a.bout))))
def sU(a:gX)(b:bR):Option nV:=
  (bif decide (b.A=(w64 (a.Format.Sets-1))) then(some (decide (b.B=(w64 (a.Format.Sets-1))))) else(some false)).bind λc=>
  bif c then(some (nV.mk a.Format.LastTie a.Format.LastTo))
  else(none)
def vP(a:nV)(b:bR):Option Bool:=
  (bif decide (b.A=a.tie) then(some (decide (b.B=a.tie))) else(some false)).bind λc=>
  some c
def mF(a:bT):Option Int:=
  some (w64 ((a.ties.length:Int)-1))
def sT(a:gX)(b:Int):Option Bool:=
  (bif decide (0<a.Format.First) then((bif decide ((w64 (b-a.Format.First))=0) then(some true) else((bif decide (0<(w64 (b-a.Format.First))) then(some (decide (0<a.Format.Then))) else(some false)).bind λc=>
  (bif c then((chk (!decide (a.Format.Then=0))).bind λ_=>
  some (decide (((w64 (b-a.Format.First)).tmod a.Format.Then)=0))) else(some false)).bind λd=>
  some d)).bind λe=>
  some e) else(some false)).bind λf=>
  some f
def pU(a:bT):Option Bool:=
  (mF a).bind λb=>
  (idx a.ties b).bind λc=>
  (bif !c then((sT a.rules b).bind λd=>
  some d) else(some false)).bind λe=>
  (bif e then(some true) else((bif decide (2<=b) then((idx a.ties (w64 (b-2))).bind λf=>
  some f) else(some false)).bind λg=>
  (bif g then((sT a.rules (w64 (b-2))).bind λh=>
  some h) else(some false)).bind λi=>
  some i)).bind λj=>
  some j
def mG(a:bT)(b:Int):Option Int:=
  (mF a).bind λc=>
  (idx a.ties c).bind λd=>
  bif d then(bif !a.rules.Format.Doubles then(some ((w64 ((w64 (a.first+c))+(w64 ((w64 (b+1)).tdiv 2)))).tmod 2))
  else(none))
  else(bif !a.rules.Format.Doubles then(some ((w64 ((w64 (a.first+c))+0)).tmod 2))
  else(none))
def lM(a:bT):Option bT:=
  bif decide (0<=a.Score.Winner) then(some (bT.mk a.rules (fA.mk a.Score.Board (-1) a.Score.Ends a.Score.Balls a.Score.Winner) a.first a.won a.ties a.games))
  else((sU a.rules a.won).bind λb=>
  (vP b a.Score.Board.Games).bind λc=>
  (app 1 a.ties ([c])).bind λd=>
  (pU (bT.mk a.rules a.Score a.first a.won d a.games)).bind λe=>
  bif e then(none)
  else((mG (bT.mk a.rules a.Score a.first a.won d a.games) 0).bind λf=>
  some (bT.mk a.rules (fA.mk a.Score.Board f a.Score.Ends a.Score.Balls a.Score.Winner) a.first a.won d a.games)))
def aFw(a:gX)(b:Int):Option bT:=
  (lM (bT.mk a (fA.mk (iU.mk ([]:List bR) (bR.mk 0 0) (bR.mk 0 0)) 0 0 0 (-1)) b (bR.mk 0 0) ([]:List Bool) ([]:List oO))).bind λc=>
  some c
def aAp(a:bR)(b:Int):Option bR:=
  bif decide (b=0) then(some (bR.mk (w64 (a.A+1)) a.B))
  else(none)
def wG(a:bR):Option Int:=
  some (w64 (a.A+a.B))
def zP(a:bR)(b:Int)(c:Int):Option Int:=
  (bif decide (b<=a.A) then(some (decide (c<=(w64 (a.A-a.B))))) else(some false)).bind λd=>
  bif d then(some 0)
  else((bif decide (b<=a.B) then(some (decide (c<=(w64 (a.B-a.A))))) else(some false)).bind λe=>
  bif e then(none)
  else(some (-1)))
def vO(_:gX)(a:nV)(b:Bool)(c:bR):Option Int:=
  bif b then((zP c a.to 2).bind λd=>
  some d)
  else(none)
def uO(a:bT)(b:Int):Option bT:=
  (sU a.rules a.won).bind λc=>
  (mF a).bind λd=>
  (idx a.ties d).bind λe=>
  (aAp a.Score.Board.Points b).bind λf=>
  (wG f).bind λg=>
  (vO a.rules c e f).bind λh=>
  bif decide (h<0) then((bif e then(some (decide ((g.tmod 6)=0))) else(some false)).bind λi=>
  bif i then(none)
  else((mG (bT.mk a.rules (fA.mk (iU.mk a.Score.Board.Sets a.Score.Board.Games f) a.Score.Server a.Score.Ends a.Score.Balls a.Score.Winner) a.first a.won a.ties a.games) g).bind λj=>
  some (bT.mk a.rules (fA.mk (iU.mk a.Score.Board.Sets a.Score.Board.Games f) j a.Score.Ends a.Score.Balls a.Score.Winner) a.first a.won a.ties a.games)))
  else((mG (bT.mk a.rules (fA.mk (iU.mk a.Score.Board.Sets a.Score.Board.Games f) a.Score.Server a.Score.Ends a.Score.Balls a.Score.Winner) a.first a.won a.ties a.games) 0).bind λk=>
  (pU (bT.mk a.rules (fA.mk (iU.mk a.Score.Board.Sets a.Score.Board.Games f) a.Score.Server a.Score.Ends a.Score.Balls a.Score.Winner) a.first a.won a.ties a.games)).bind λl=>
  (app 56 a.games ([(oO.mk (a.Score.Board.Sets.length:Int) e k h f l)])).bind λm=>
  (aAp a.Score.Board.Games h).bind λn=>
  (bif e then(some true) else((zP n a.rules.Format.Games 2).bind λo=>
  some (decide (0<=o)))).bind λp=>
  bif p then((app 16 a.Score.Board.Sets ([n])).bind λq=>
  (aAp a.won h).bind λr=>
  bif decide ((max r.A r.B)=a.rules.Format.Sets) then((wG n).bind λs=>
  (bif decide ((s.tmod 2)=1) then(some (decide (h<0))) else(some false)).bind λt=>
  bif t then(none)
  else((lM (bT.mk a.rules (fA.mk (iU.mk q (bR.mk 0 0) (bR.mk 0 0)) a.Score.Server a.Score.Ends a.Score.Balls h) a.first r a.ties m)).bind λu=>
  some u))
  else((wG n).bind λv=>
  (bif decide ((v.tmod 2)=1) then(some (decide (a.Score.Winner<0))) else(some false)).bind λw=>
  bif w then(none)
  else((lM (bT.mk a.rules (fA.mk (iU.mk q (bR.mk 0 0) (bR.mk 0 0)) a.Score.Server a.Score.Ends a.Score.Balls a.Score.Winner) a.first r a.ties m)).bind λx=>
  some x)))
  else((wG n).bind λy=>
  (bif decide ((y.tmod 2)=1) then(some (decide (a.Score.Winner<0))) else(some false)).bind λz=>
  bif z then(none)
  else((lM (bT.mk a.rules (fA.mk (iU.mk a.Score.Board.Sets n (bR.mk 0 0)) a.Score.Server a.Score.Ends a.Score.Balls a.Score.Winner) a.first a.won a.ties m)).bind λa0=>
  some a0)))
def aJn(a:List bR)(b:List Bool)(c:List oO)(d:gX)(e:bR)(f:bR)(g:Int)(h:Int)(i:Int)(j:Int)(k:Int)(l:bR):Option ((Option bT)×Int):=
  some ((some (bT.mk d (fA.mk (iU.mk a e f) g h i j) k l b c)),0)
def vG(a:List Int)(b:Int):Nat->Int->(List bR)->(List Bool)->(List oO)->gX->bR->bR->Int->Int->Int->Int->Int->bR->Option ((Option bT)×Int)
 |0,_,_,_,_,_,_,_,_,_,_,_,_,_=>none
 | g+1,h,i,j,k,l,m,n,o,p,q,r,s,t=>
  bif decide (h<b) then((idx a h).bind λc=>
  (bif !decide (c=0) then(some (!decide (c=1))) else(some false)).bind λd=>
  (bif d then(some true) else(some (decide (0<=r)))).bind λe=>
  bif e then(none)
  else((uO (bT.mk l (fA.mk (iU.mk i m n) o p q r) s t j k) c).bind λf=>
  (vG a b g) (w64 (h+1)) f.Score.Board.Sets f.ties f.games f.rules f.Score.Board.Games f.Score.Board.Points f.Score.Server f.Score.Ends f.Score.Balls f.Score.Winner f.first f.won))
  else(aJn i j k l m n o p q r s t)
def aIs(a:kT)(b:Int)(c:List Int):Option ((Option bT)×Int):=
  (zO a).bind λd=>
  bif !decide (d=0) then(none)
  else((bif !decide (b=0) then(some (!decide (b=1))) else(some false)).bind λe=>
  bif e then(none)
  else(bif decide (600<(c.length:Int)) then(none)
  else((aFw (gX.mk a) b).bind λf=>
  vG c (c.length:Int) BIG 0 f.Score.Board.Sets f.ties f.games f.rules f.Score.Board.Games f.Score.Board.Points f.Score.Server f.Score.Ends f.Score.Balls f.Score.Winner f.first f.won)))
def aCg(a:kT)(b:Int)(c:List Int):Option (fA×Int):=
  (aIs a b c).bind λd=>
  bif !decide (d.2=0) then(none)
  else((d.1).bind λe=>
  some (e.Score,0))
def mD(a:aS)(b:Int):Option (Str×aS):=
  (kJ a).bind λc=>
  (bif !c then(some true) else(some (decide (1<b)))).bind λd=>
  bif d then(none)
  else(bif decide (600<=(a.Register.Points.length:Int)) then(none)
  else((jO a.Register.Points).bind λe=>
  (app 8 e ([b])).bind λf=>
  (aCg a.Desk.Format a.Register.First f).bind λg=>
  bif decide (0<=g.1.Winner) then((oC a g.1.Winner 1).bind λh=>
  some (h.1,h.2))
  else(some (([111,107]:Str),(aS.mk a.Desk (dQ.mk a.Register.Hour a.Register.Notices a.Register.Slips a.Register.Round a.Register.Place a.Register.First f a.Register.Days) a.bout)))))
def qK(a:List bR):Option ((List bR)):=
  (app 16 ([]:List bR) a).bind λb=>
  some b
def wE(a:List Str):Option Str:=
  (strings_Join a ([32]:Str)).bind λb=>
  some b
def mR(a:List bR)(b:Int):Nat->Int->(List Str)->Option Str
 |0,_,_=>none
 | i+1,j,k=>
  bif decide (j<b) then((idx a j).bind λc=>
  (strconv_Itoa c.A).bind λd=>
  (mE d ([45]:Str)).bind λe=>
  (strconv_Itoa c.B).bind λf=>
  (mE e f).bind λg=>
  (app 16 k ([g])).bind λh=>
  (mR a b i) (w64 (j+1)) h)
  else(wE k)
def tN(a:aS):Option Str:=
  (kJ a).bind λb=>
  bif !b then(none)
  else((aCg a.Desk.Format a.Register.First a.Register.Points).bind λc=>
  (qK c.1.Board.Sets).bind λd=>
  (app 16 d ([c.1.Board.Games,c.1.Board.Points])).bind λe=>
  mR e (e.length:Int) BIG 0 ([]:List Str))
end Go.Am
