/- Shallow functions, printed by program. -/
import Derived.Test.YtiohgpipanopaaaGreatTaSh
import Derived.Test.YtiohgpipanopaaaGreatAmFam2
import Derived.Test.YtiohgpipanopaaaGreatAmView
import Derived.Test.YtiohgpipanopaaaGreatAmSortF0
namespace Go.Am
structure cJ where
 Player:Int
 Nation:Int
 Qualified:Bool
 deriving DecidableEq,Inhabited
def bL(x:cJ):List D:=[.lit (.int .i64 x.Player),.lit (.int .i64 x.Nation),.lit (.bool x.Qualified)]
def aVf(x:List cJ):List D:=[.sl 3 (x.map bL)]
structure aQ where
 Size:Int
 Seeds:Int
 Persons:List cJ
 Lots:List Int
 deriving DecidableEq,Inhabited
def bM(x:aQ):List D:=[.lit (.int .i64 x.Size),.lit (.int .i64 x.Seeds),.sl 3 (x.Persons.map bL),.sl 1 (x.Lots.map aD)]
structure bE where
 Length:aX
 After:List Int
 With:List Int
 Due:Int
 Earliest:Int
 deriving DecidableEq,Inhabited
def bD(x:bE):List D:=[.lit (.int .i64 x.Length.Low),.lit (.int .i64 x.Length.High),.sl 1 (x.After.map aD),.sl 1 (x.With.map aD),.lit (.int .i64 x.Due),.lit (.int .i64 x.Earliest)]
def bC(x:List aX):List D:=[.sl 2 (x.map bX)]
def aTa(x:List (List aX)):List D:=[.sl 1 (x.map bC)]
structure aI where
 Days:List (List aX)
 Rest:Int
 Jobs:List bE
 deriving DecidableEq,Inhabited
def bJ(x:aI):List D:=[.sl 1 (x.Days.map bC),.lit (.int .i64 x.Rest),.sl 6 (x.Jobs.map bD)]
structure bU where
 Length:aX
 Due:Int
 deriving DecidableEq,Inhabited
def kZ(x:bU):List D:=[.lit (.int .i64 x.Length.Low),.lit (.int .i64 x.Length.High),.lit (.int .i64 x.Due)]
def aXz(x:List bU):List D:=[.sl 3 (x.map kZ)]
structure eP where
 Days:List (List aX)
 Rest:Int
 Stages:List bU
 deriving DecidableEq,Inhabited
def aBd(x:eP):List D:=[.sl 1 (x.Days.map bC),.lit (.int .i64 x.Rest),.sl 3 (x.Stages.map kZ)]
structure aA where
 round:Int
 place:Int
 deriving DecidableEq,Inhabited
def aC(x:aA):List D:=[.lit (.int .i64 x.round),.lit (.int .i64 x.place)]
structure aP where
 Tree:aF
 players:List Int
 won:List (aA×Int)
 deriving DecidableEq,Inhabited
def aS(x:aP):List D:=[.lit (.int .i64 x.Tree.Rounds),.sl 1 (x.Tree.Slots.map aD),.sl 1 (x.players.map aD),.mp false (x.won.map λp:aA×Int=>((λa:aA=>Value.agg ((aC a).map bA).toArray) p.1,aD p.2))]
structure aG where
 Job:Int
 Day:Int
 Court:Int
 deriving DecidableEq,Inhabited
def aM(x:aG):List D:=[.lit (.int .i64 x.Job),.lit (.int .i64 x.Day),.lit (.int .i64 x.Court)]
structure A3(α:Type) where
 x0:α
 x1:α
 x2:α
 deriving DecidableEq,Inhabited
def A3.at{α:Type}(a:A3 α)(p:Int):α:=if p=0 then a.x0 else if p=1 then a.x1 else a.x2
def A3.set{α:Type}(a:A3 α)(p:Int)(v:α):A3 α:=if p=0 then{a with x0:=v} else if p=1 then{a with x1:=v} else{a with x2:=v}
theorem A3.cellI{a:A3 Int}{p:Int}{u:Unit}(h:inb 3 p=some u){ds:List D}{j:Nat}(h0:ds[j+0]?=some (.lit (.int .i64 a.x0)))(h1:ds[j+1]?=some (.lit (.int .i64 a.x1)))(h2:ds[j+2]?=some (.lit (.int .i64 a.x2))):ds[j+p.toNat*1]?=some (.lit (.int .i64 (a.at p))):=by
 obtain⟨a1,a2⟩:=lH h
 have:p=0\/p=1\/p=2:=by omega
 rcases this with rfl|rfl|rfl
 ·exact h0
 ·exact h1
 ·exact h2
theorem A3.celzI{a:A3 Int}{p:Int}{u:Unit}(h:inb 3 p=some u){ds:List D}(h0:ds[0]?=some (.lit (.int .i64 a.x0)))(h1:ds[1]?=some (.lit (.int .i64 a.x1)))(h2:ds[2]?=some (.lit (.int .i64 a.x2))):ds[p.toNat*1]?=some (.lit (.int .i64 (a.at p))):=by
 obtain⟨a1,a2⟩:=lH h
 have:p=0\/p=1\/p=2:=by omega
 rcases this with rfl|rfl|rfl
 ·exact h0
 ·exact h1
 ·exact h2
theorem A3.updI{a:A3 Int}{p:Int}{v:Int}{u:Unit}(h:inb 3 p=some u){ds:List D}{j:Nat}(f:A3 Int->List D)(h0:gD ds (j+0) [.lit (.int .i64 v)]=f {a with x0:=v})(h1:gD ds (j+1) [.lit (.int .i64 v)]=f {a with x1:=v})(h2:gD ds (j+2) [.lit (.int .i64 v)]=f {a with x2:=v}):gD ds (j+p.toNat*1) [.lit (.int .i64 v)]=f (a.set p v):=by
 obtain⟨a1,a2⟩:=lH h
 have:p=0\/p=1\/p=2:=by omega
 rcases this with rfl|rfl|rfl
 ·exact h0
 ·exact h1
 ·exact h2
structure A6(α:Type) where
 x0:α
 x1:α
 x2:α
 x3:α
 x4:α
 x5:α
 deriving DecidableEq,Inhabited
def A6.at{α:Type}(a:A6 α)(p:Int):α:=if p=0 then a.x0 else if p=1 then a.x1 else if p=2 then a.x2 else if p=3 then a.x3 else if p=4 then a.x4 else a.x5
def A6.set{α:Type}(a:A6 α)(p:Int)(v:α):A6 α:=if p=0 then{a with x0:=v} else if p=1 then{a with x1:=v} else if p=2 then{a with x2:=v} else if p=3 then{a with x3:=v} else if p=4 then{a with x4:=v} else{a with x5:=v}
theorem A6.cellI{a:A6 Int}{p:Int}{u:Unit}(h:inb 6 p=some u){ds:List D}{j:Nat}(h0:ds[j+0]?=some (.lit (.int .i64 a.x0)))(h1:ds[j+1]?=some (.lit (.int .i64 a.x1)))(h2:ds[j+2]?=some (.lit (.int .i64 a.x2)))(h3:ds[j+3]?=some (.lit (.int .i64 a.x3)))(h4:ds[j+4]?=some (.lit (.int .i64 a.x4)))(h5:ds[j+5]?=some (.lit (.int .i64 a.x5))):ds[j+p.toNat*1]?=some (.lit (.int .i64 (a.at p))):=by
 obtain⟨a1,a2⟩:=lH h
 have:p=0\/p=1\/p=2\/p=3\/p=4\/p=5:=by omega
 rcases this with rfl|rfl|rfl|rfl|rfl|rfl
 ·exact h0
 ·exact h1
 ·exact h2
 ·exact h3
 ·exact h4
 ·exact h5
theorem A6.celzI{a:A6 Int}{p:Int}{u:Unit}(h:inb 6 p=some u){ds:List D}(h0:ds[0]?=some (.lit (.int .i64 a.x0)))(h1:ds[1]?=some (.lit (.int .i64 a.x1)))(h2:ds[2]?=some (.lit (.int .i64 a.x2)))(h3:ds[3]?=some (.lit (.int .i64 a.x3)))(h4:ds[4]?=some (.lit (.int .i64 a.x4)))(h5:ds[5]?=some (.lit (.int .i64 a.x5))):ds[p.toNat*1]?=some (.lit (.int .i64 (a.at p))):=by
 obtain⟨a1,a2⟩:=lH h
 have:p=0\/p=1\/p=2\/p=3\/p=4\/p=5:=by omega
 rcases this with rfl|rfl|rfl|rfl|rfl|rfl
 ·exact h0
 ·exact h1
 ·exact h2
 ·exact h3
 ·exact h4
 ·exact h5
theorem A6.updI{a:A6 Int}{p:Int}{v:Int}{u:Unit}(h:inb 6 p=some u){ds:List D}{j:Nat}(f:A6 Int->List D)(h0:gD ds (j+0) [.lit (.int .i64 v)]=f {a with x0:=v})(h1:gD ds (j+1) [.lit (.int .i64 v)]=f {a with x1:=v})(h2:gD ds (j+2) [.lit (.int .i64 v)]=f {a with x2:=v})(h3:gD ds (j+3) [.lit (.int .i64 v)]=f {a with x3:=v})(h4:gD ds (j+4) [.lit (.int .i64 v)]=f {a with x4:=v})(h5:gD ds (j+5) [.lit (.int .i64 v)]=f {a with x5:=v}):gD ds (j+p.toNat*1) [.lit (.int .i64 v)]=f (a.set p v):=by
 obtain⟨a1,a2⟩:=lH h
 have:p=0\/p=1\/p=2\/p=3\/p=4\/p=5:=by omega
 rcases this with rfl|rfl|rfl|rfl|rfl|rfl
 ·exact h0
 ·exact h1
 ·exact h2
 ·exact h3
 ·exact h4
 ·exact h5
def bVj(x:A6 Int):List D:=[.lit (.int .i64 x.x0),.lit (.int .i64 x.x1),.lit (.int .i64 x.x2),.lit (.int .i64 x.x3),.lit (.int .i64 x.x4),.lit (.int .i64 x.x5)]
structure bW where
 number:Int
 free:A3 Int
 ends:A6 Int
 deriving DecidableEq,Inhabited
def bK(x:bW):List D:=[.lit (.int .i64 x.number),.lit (.int .i64 x.free.x0),.lit (.int .i64 x.free.x1),.lit (.int .i64 x.free.x2),.lit (.int .i64 x.ends.x0),.lit (.int .i64 x.ends.x1),.lit (.int .i64 x.ends.x2),.lit (.int .i64 x.ends.x3),.lit (.int .i64 x.ends.x4),.lit (.int .i64 x.ends.x5)]
structure aH where
 day:bW
 done:Int
 moves:Int
 deriving DecidableEq,Inhabited
def aT(x:aH):List D:=[.lit (.int .i64 x.day.number),.lit (.int .i64 x.day.free.x0),.lit (.int .i64 x.day.free.x1),.lit (.int .i64 x.day.free.x2),.lit (.int .i64 x.day.ends.x0),.lit (.int .i64 x.day.ends.x1),.lit (.int .i64 x.day.ends.x2),.lit (.int .i64 x.day.ends.x3),.lit (.int .i64 x.day.ends.x4),.lit (.int .i64 x.day.ends.x5),.lit (.int .i64 x.done),.lit (.int .i64 x.moves)]
structure dR where
 Program:aI
 days:Int
 old:Option (List aG)
 deriving DecidableEq,Inhabited
def aJj(x:cJ):Prop:=okI x.Player/\okI x.Nation/\okB x.Qualified
def bAs(x:aQ):Prop:=okI x.Size/\okI x.Seeds/\(okL aJj) x.Persons/\(okL okI) x.Lots
def aEd(x:aX):Prop:=okI x.Low/\okI x.High
def aMq(x:bU):Prop:=aEd x.Length/\okI x.Due
def aCy(x:eP):Prop:=(okL (okL aEd)) x.Days/\okI x.Rest/\(okL aMq) x.Stages
def fM(a:Int)(b:Int)(c:Int):Option Bool:=
  (bif decide (b<=a) then(some (decide (a<=c))) else(some false)).bind λd=>
  some d
def vY(a:Int->Option Int)(_:Int)(b:Int)(_:aQ):Option Int:=
  a (w64 (b+1))
def vZ(a:Int->Option Int)(b:Int)(c:Int)(d:aQ):Option Int:=
  vY a b c d
def jZ(a:Int->Option Int)(b:Int)(c:Int)(d:aQ)(e:cJ):Nat->Int->Option Int
 |0,_=>none
 | g+1,h=>
  bif decide (h<c) then((idx d.Persons h).bind λf=>
  bif decide (f.Player=e.Player) then(some 60)
  else((jZ a b c d e g) (w64 (h+1))))
  else(vZ a b c d)
def wA:Option Int:=
  some 0
def kA(a:aQ):Nat->Int->Option Int
 |0,_=>none
 | d+1,e=>
  bif decide (e<(a.Lots.length:Int)) then((idx a.Lots e).bind λb=>
  (fM b 0 999999).bind λc=>
  bif !c then(some 60)
  else((kA a d) (w64 (e+1))))
  else(wA)
def rO(a:aQ):Option Int:=
  kA a BIG 0
def fG(a:Int)(b:aQ):Nat->Int->Option Int
 |0,_=>none
 | i+1,j=>
  bif decide (j<a) then((idx b.Persons j).bind λc=>
  (fM c.Player 0 999).bind λd=>
  (bif !d then(some true) else((fM c.Nation 0 9).bind λe=>
  some (!e))).bind λf=>
  (bif f then(some true) else((bif decide (j<b.Seeds) then(some c.Qualified) else(some false)).bind λg=>
  some g)).bind λh=>
  bif h then(some 60)
  else(jZ (fG a b i) a j b c BIG 0))
  else(rO b)
def oF(a:aQ):Option Int:=
  (bif !decide (a.Size=4) then(some (!decide (a.Size=8))) else(some false)).bind λb=>
  (bif b then(some true) else((fM (a.Persons.length:Int) 2 a.Size).bind λc=>
  some (!c))).bind λd=>
  (bif d then(some true) else((fM a.Seeds 0 (min (a.Persons.length:Int) (w64 (a.Size.tdiv 2)))).bind λe=>
  some (!e))).bind λf=>
  (bif f then(some true) else(some (decide ((w64 (a.Size.tdiv 2))<(w64 (a.Size-(a.Persons.length:Int))))))).bind λg=>
  (bif g then(some true) else(some (decide (10<(a.Lots.length:Int))))).bind λh=>
  bif h then(some 60)
  else(fG (a.Persons.length:Int) a BIG 0)
def zV:Option Bool:=
  some false
def lT(a:List Int)(b:Int):Nat->Int->Option Bool
 |0,_=>none
 | d+1,e=>
  bif decide (e<(a.length:Int)) then((idx a e).bind λc=>
  bif decide (c=b) then(some true)
  else((lT a b d) (w64 (e+1))))
  else(zV)
def qA(a:List Int)(b:Int):Option Bool:=
  lT a b BIG 0
def uY:Option Bool:=
  some true
def jH(a:List Int)(b:aQ):Nat->Int->Option Bool
 |0,_=>none
 | e+1,f=>
  bif decide (f<(b.Persons.length:Int)) then((idx b.Persons f).bind λc=>
  (qA a c.Player).bind λd=>
  bif !d then(some false)
  else((jH a b e) (w64 (f+1))))
  else(uY)
def qH(a:aQ)(b:List Int):Option Bool:=
  jH b a BIG 0
def uW:Option Int:=
  some (-1)
def jG(a:Int)(b:aQ):Nat->Int->Option Int
 |0,_=>none
 | d+1,e=>
  bif decide (e<(b.Persons.length:Int)) then((idx b.Persons e).bind λc=>
  bif decide (c.Player=a) then(some e)
  else((jG a b d) (w64 (e+1))))
  else(uW)
def nF(a:aQ)(b:Int):Option Int:=
  jG b a BIG 0
def kO(a:aQ)(b:Int)(c:Int):Option Bool:=
  (bif decide (b=(-1)) then(some true) else(some (decide (c=(-1))))).bind λd=>
  bif d then(some (!decide (b=c)))
  else((nF a b).bind λe=>
  (idx a.Persons e).bind λf=>
  (nF a c).bind λg=>
  (idx a.Persons g).bind λh=>
  (bif decide (f.Nation=0) then(some true) else(some (!decide (f.Nation=h.Nation)))).bind λi=>
  (bif i then((bif f.Qualified then(some h.Qualified) else(some false)).bind λj=>
  some (!j)) else(some false)).bind λk=>
  some k)
def xH:Option Int:=
  some (-1)
def kP(a:List Int)(b:Int):Nat->Int->Option Int
 |0,_=>none
 | d+1,e=>
  bif decide (e<(a.length:Int)) then((idx a e).bind λc=>
  bif decide (c=b) then(some e)
  else((kP a b d) (w64 (e+1))))
  else(xH)
def sH(a:List Int)(b:Int):Option Int:=
  kP a b BIG 0
def uX(a:Int):Option Int:=
  some (aSn a 1)
def wB:Option Bool:=
  some true
def kC(a:List Int)(b:Int)(c:aQ):Nat->Int->Option Bool
 |0,_=>none
 | n+1,o=>
  bif decide (o<c.Seeds) then((idx c.Persons o).bind λd=>
  (sH a d.Player).bind λe=>
  (bif decide (o=0) then(some (!decide (e=0))) else(some false)).bind λf=>
  (bif f then(some true) else((bif decide (o=1) then(some (!decide (e=(w64 (c.Size-1))))) else(some false)).bind λg=>
  some g)).bind λh=>
  (bif h then(some true) else((bif decide (2<=o) then(some (!decide (e=(w64 (c.Size.tdiv 4))))) else(some false)).bind λi=>
  (bif i then(some (!decide (e=(w64 ((w64 (c.Size-1))-(w64 (c.Size.tdiv 4))))))) else(some false)).bind λj=>
  some j)).bind λk=>
  bif k then(some false)
  else((uX e).bind λl=>
  (idx a l).bind λm=>
  bif !decide ((decide (o<b))=(decide (m=(-1)))) then(some false)
  else((kC a b c n) (w64 (o+1)))))
  else(wB)
def nS(a:List Int)(b:aQ):Option Bool:=
  kC a (w64 (b.Size-(b.Persons.length:Int))) b BIG 0
def kB(a:List Int)(b:aQ):Nat->Int->Option Bool
 |0,_=>none
 | f+1,g=>
  bif decide (g<b.Size) then((idx a g).bind λc=>
  (idx a (w64 (g+1))).bind λd=>
  (kO b c d).bind λe=>
  bif !e then(some false)
  else((kB a b f) (w64 (g+2))))
  else(nS a b)
def qY(a:aQ)(b:List Int):Option Bool:=
  (qH a b).bind λc=>
  bif !c then(some false)
  else(kB b a BIG 0)
def pP(a:(List Int)->Int->Option ((List Int)))(b:List Int)(c:Int)(_:aQ):Option ((List Int)):=
  a b (w64 (c+1))
def kI(a:(List Int)->Int->Option ((List Int)))(b:List Int)(c:Int)(d:Int)(e:Int)(f:aQ):Option ((List Int)):=
  (sub b e (b.length:Int)).bind λg=>
  (app 8 ([d]) g).bind λh=>
  (sub b 0 e).bind λi=>
  (app 8 ([]:List Int) i).bind λj=>
  (app 8 j h).bind λk=>
  pP a k c f
def iI(a:(List Int)->Int->Option ((List Int)))(b:List Int)(c:Int)(d:Int)(e:aQ):Nat->Int->Option ((List Int))
 |0,_=>none
 | h+1,i=>
  (bif decide (i<(b.length:Int)) then((idx b i).bind λf=>
  some (decide (f<d))) else(some false)).bind λg=>
  bif g then((iI a b c d e h) (w64 (i+1)))
  else(kI a b c d i e)
def tQ(a:List Int):Option ((List Int)):=
  some a
def dY(a:aQ):Nat->(List Int)->Int->Option ((List Int))
 |0,_,_=>none
 | c+1,d,e=>
  bif decide (e<(a.Persons.length:Int)) then((idx a.Persons e).bind λb=>
  iI (dY a c) d e b.Player a BIG 0)
  else(tQ d)
def oY(a:aQ):Option ((List Int)):=
  dY a BIG ([]:List Int) 0
def xG(a:Int):Option Int:=
  some a
def iR(a:List Int)(b:Int):Nat->Int->Int->Option Int
 |0,_,_=>none
 | d+1,e,f=>
  bif decide (f<(a.length:Int)) then((idx a f).bind λc=>
  bif decide (c=b) then((iR a b d) (w64 (e+1)) (w64 (f+1)))
  else((iR a b d) e (w64 (f+1))))
  else(xG e)
def sG(a:List Int)(b:Int):Option Int:=
  iR a b BIG 0 0
def xF:Option Bool:=
  some true
def fR(a:List Int)(b:Int)(c:aQ):Nat->Int->Option Bool
 |0,_=>none
 | h+1,i=>
  bif decide (i<c.Seeds) then((idx a b).bind λd=>
  (idx c.Persons i).bind λe=>
  bif decide (i=0) then(bif !decide ((decide (d=e.Player))=(decide (b=0))) then(some false)
  else((fR a b c h) (w64 (i+1))))
  else(bif decide (i=1) then(bif !decide ((decide (d=e.Player))=(decide (b=(w64 (c.Size-1))))) then(some false)
  else((fR a b c h) (w64 (i+1))))
  else((bif decide (d=e.Player) then(some (!decide (b=(w64 (c.Size.tdiv 4))))) else(some false)).bind λf=>
  (bif f then(some (!decide (b=(w64 ((w64 (c.Size-1))-(w64 (c.Size.tdiv 4))))))) else(some false)).bind λg=>
  bif g then(some false)
  else((fR a b c h) (w64 (i+1))))))
  else(xF)
def sF(a:aQ)(b:List Int):Option Bool:=
  (bif decide (((w64 ((b.length:Int)-1)).tmod 2)=1) then((idx b (w64 ((w64 ((b.length:Int)-1))-1))).bind λc=>
  (idx b (w64 ((b.length:Int)-1))).bind λd=>
  (kO a c d).bind λe=>
  some (!e)) else(some false)).bind λf=>
  bif f then(some false)
  else(fR b (w64 ((b.length:Int)-1)) a BIG 0)
def aAx(_:aQ->(List Int)->Int->Option ((List (List Int))))(a:List (List Int)):Option ((List (List Int))):=
  some a
def fP(a:aQ->(List Int)->Int->Option ((List (List Int))))(b:List Int)(c:Int)(d:List Int)(e:aQ):Nat->Int->(List (List Int))->Option ((List (List Int)))
 |0,_,_=>none
 | u+1,v,w=>
  (bif decide (v<(d.length:Int)) then(some (decide ((w.length:Int)<=c))) else(some false)).bind λf=>
  bif f then((idx d v).bind λg=>
  (bif decide (g=(-1)) then((sG b (-1)).bind λh=>
  some (decide (h=(w64 (e.Size-(e.Persons.length:Int)))))) else(some false)).bind λi=>
  (bif i then(some true) else((idx d v).bind λj=>
  (bif !decide (j=(-1)) then((idx d v).bind λk=>
  (qA b k).bind λl=>
  some l) else(some false)).bind λm=>
  some m)).bind λn=>
  bif n then((fP a b c d e u) (w64 (v+1)) w)
  else((app 8 ([]:List Int) b).bind λo=>
  (idx d v).bind λp=>
  (app 8 o ([p])).bind λq=>
  (sF e q).bind λr=>
  bif r then((a e q (w64 (c-(w.length:Int)))).bind λs=>
  (app 24 w s).bind λt=>
  (fP a b c d e u) (w64 (v+1)) t)
  else((fP a b c d e u) (w64 (v+1)) w)))
  else(aAx a w)
def gB:Nat->aQ->(List Int)->Int->Option ((List (List Int)))
 |0,_,_,_=>none
 | d+1,e,f,g=>
  bif decide ((f.length:Int)=e.Size) then((qY e f).bind λa=>
  bif a then(some ([f]))
  else(some ([]:List (List Int))))
  else((oY e).bind λb=>
  (app 8 ([(-1)]) b).bind λc=>
  fP (gB d) f g c e BIG 0 ([]:List (List Int)))
def yY:aQ->(List Int)->Int->Option ((List (List Int))):=gB BIG
def tP(a:aQ):Option Bool:=
  (bif decide (40<(a.Persons.length:Int)) then(some true) else(some (decide (40<(a.Lots.length:Int))))).bind λb=>
  (bif b then(some true) else((oF a).bind λc=>
  (bif decide (c=0) then((yY a ([]:List Int) 300).bind λd=>
  some (decide (300<(d.length:Int)))) else(some false)).bind λe=>
  some e)).bind λf=>
  some f
def cU(a:Int)(b:Int)(c:Int):Option Bool:=
  (bif decide (b<=a) then(some (decide (a<=c))) else(some false)).bind λd=>
  some d
def gC(a:aX):Option Bool:=
  (bif decide (1<=a.Low) then(some (decide (a.Low<=a.High))) else(some false)).bind λb=>
  (bif b then(some (decide (a.High<=600))) else(some false)).bind λc=>
  some c
def wJ:Option Bool:=
  some true
def kE(a:Int)(b:Int)(c:bE):Nat->Int->Option Bool
 |0,_=>none
 | l+1,m=>
  bif decide (m<(c.With.length:Int)) then((idx c.With m).bind λd=>
  (cU d 0 (w64 (b-1))).bind λe=>
  (bif !e then(some true) else((idx c.With m).bind λf=>
  some (decide (f=a)))).bind λg=>
  (bif g then(some true) else((bif decide (0<m) then((idx c.With m).bind λh=>
  (idx c.With (w64 (m-1))).bind λi=>
  some (decide (h<=i))) else(some false)).bind λj=>
  some j)).bind λk=>
  bif k then(some false)
  else((kE a b c l) (w64 (m+1))))
  else(wJ)
def nW(a:Int)(b:Int)(c:bE):Option Bool:=
  kE a b c BIG 0
def iD(a:Int)(b:Int)(c:bE):Nat->Int->Option Bool
 |0,_=>none
 | j+1,k=>
  bif decide (k<(c.After.length:Int)) then((idx c.After k).bind λd=>
  (cU d 0 (w64 (a-1))).bind λe=>
  (bif !e then(some true) else((bif decide (0<k) then((idx c.After k).bind λf=>
  (idx c.After (w64 (k-1))).bind λg=>
  some (decide (f<=g))) else(some false)).bind λh=>
  some h)).bind λi=>
  bif i then(some false)
  else((iD a b c j) (w64 (k+1))))
  else(nW a b c)
def rA(a:bE)(b:Int)(c:Int):Option Bool:=
  (gC a.Length).bind λd=>
  (bif !d then(some true) else((cU a.Due 0 2).bind λe=>
  some (!e))).bind λf=>
  (bif f then(some true) else((cU a.Earliest 0 1440).bind λg=>
  some (!g))).bind λh=>
  bif h then(some false)
  else(iD b c a BIG 0)
def wG(a:Int->Option Int)(b:Int)(_:aI):Option Int:=
  a (w64 (b+1))
def wH(a:Int->Option Int)(b:Int)(c:aI):Option Int:=
  wG a b c
def iC(a:Int->Option Int)(b:Int)(c:aI):Nat->Int->Option Int
 |0,_=>none
 | i+1,j=>
  (idx c.Days b).bind λd=>
  bif decide (j<(d.length:Int)) then((idx c.Days b).bind λe=>
  (idx e j).bind λf=>
  (bif decide (f.Low<0) then(some true) else(some (decide (f.High<f.Low)))).bind λg=>
  (bif g then(some true) else(some (decide (1440<f.High)))).bind λh=>
  bif h then(some 80)
  else((iC a b c i) (w64 (j+1))))
  else(wH a b c)
def wI:Option Int:=
  some 0
def kD(a:aI):Nat->Int->Option Int
 |0,_=>none
 | d+1,e=>
  bif decide (e<(a.Jobs.length:Int)) then((idx a.Jobs e).bind λb=>
  (rA b e (a.Jobs.length:Int)).bind λc=>
  bif !c then(some 80)
  else((kD a d) (w64 (e+1))))
  else(wI)
def nV(a:aI):Option Int:=
  kD a BIG 0
def dM(a:aI):Nat->Int->Option Int
 |0,_=>none
 | d+1,e=>
  bif decide (e<(a.Days.length:Int)) then((idx a.Days e).bind λb=>
  (idx a.Days 0).bind λc=>
  bif !decide ((b.length:Int)=(c.length:Int)) then(some 80)
  else(iC (dM a d) e a BIG 0))
  else(nV a)
def jJ(a:aI):Option Int:=
  (cU (a.Days.length:Int) 1 3).bind λb=>
  (bif !b then(some true) else((idx a.Days 0).bind λc=>
  (cU (c.length:Int) 1 3).bind λd=>
  some (!d))).bind λe=>
  (bif e then(some true) else((cU a.Rest 0 600).bind λf=>
  some (!f))).bind λg=>
  (bif g then(some true) else(some (decide (6<(a.Jobs.length:Int))))).bind λh=>
  bif h then(some 80)
  else(dM a BIG 0)
def oQ(a:eP):Option Bool:=
  (jJ (aI.mk a.Days a.Rest ([]:List bE))).bind λb=>
  (bif decide (b=0) then((idx a.Days 0).bind λc=>
  some (decide ((w64 ((a.Days.length:Int)*(c.length:Int)))<=4))) else(some false)).bind λd=>
  some d
def gT(a:eP):Nat->Int->Option Bool
 |0,_=>none
 | c+1,d=>
  bif decide (d<(a.Days.length:Int)) then((idx a.Days d).bind λb=>
  bif decide (4<(b.length:Int)) then(some false)
  else((gT a c) (w64 (d+1))))
  else(oQ a)
def nX(a:eP):Option Bool:=
  (bif decide (4<(a.Days.length:Int)) then(some true) else(some (decide (10<(a.Stages.length:Int))))).bind λb=>
  bif b then(some false)
  else(gT a BIG 0)
def sE:Option (aQ×aQ):=
  some ((aQ.mk 4 1 ([(cJ.mk 10 1 false),(cJ.mk 20 2 false),(cJ.mk 30 1 false)]) ([5,4])),(aQ.mk 4 0 ([(cJ.mk 1 1 false),(cJ.mk 2 1 false),(cJ.mk 3 2 false),(cJ.mk 4 0 false)]) ([]:List Int)))
def kR(a:Int)(b:Int)(c:Int):Option Bool:=
  (bif decide (b<=a) then(some (decide (a<=c))) else(some false)).bind λd=>
  some d
def nC:Option Int:=
  some (-1)
def eJ(a:List cJ)(b:cJ->Option Bool)(c:Int):Nat->Int->Option Int
 |0,_=>none
 | f+1,g=>
  bif decide (g<c) then((idx a g).bind λd=>
  (b d).bind λe=>
  bif e then(some g)
  else((eJ a b c f) (w64 (g+1))))
  else(nC)
def jA(a:List cJ)(b:cJ->Option Bool):Option Int:=
  eJ a b (a.length:Int) BIG 0
def gQ(a:List cJ)(b:cJ->Option Bool):Option Bool:=
  (jA a b).bind λc=>
  some (decide (0<=c))
def zP(a:cJ)(b:cJ):Option Bool:=
  some (decide (a.Player=b.Player))
def nQ:Option Int:=
  some (-1)
def dW(a:List Int)(b:Int->Option Bool)(c:Int):Nat->Int->Option Int
 |0,_=>none
 | f+1,g=>
  bif decide (g<c) then((idx a g).bind λd=>
  (b d).bind λe=>
  bif e then(some g)
  else((dW a b c f) (w64 (g+1))))
  else(nQ)
def jN(a:List Int)(b:Int->Option Bool):Option Int:=
  dW a b (a.length:Int) BIG 0
def fL(a:List Int)(b:Int->Option Bool):Option Bool:=
  (jN a b).bind λc=>
  some (decide (0<=c))
def zQ(a:Int):Option Bool:=
  (kR a 0 999999).bind λb=>
  some (!b)
def yQ(a:aQ):Option Int:=
  (fL a.Lots (λb=>zQ b)).bind λc=>
  bif c then(some 60)
  else(some 0)
def oG(a:List cJ)(b:Int)(c:aQ):Nat->Int->Option Int
 |0,_=>none
 | n+1,o=>
  bif decide (o<b) then((idx a o).bind λd=>
  (sub c.Persons 0 o).bind λe=>
  (gQ e (λf=>zP f d)).bind λg=>
  (bif g then(some true) else((kR d.Player 0 999).bind λh=>
  some (!h))).bind λi=>
  (bif i then(some true) else((kR d.Nation 0 9).bind λj=>
  some (!j))).bind λk=>
  (bif k then(some true) else((bif decide (o<c.Seeds) then(some d.Qualified) else(some false)).bind λl=>
  some l)).bind λm=>
  bif m then(some 60)
  else((oG a b c n) (w64 (o+1))))
  else(yQ c)
def vR(a:aQ):Option Int:=
  (bif !decide (a.Size=4) then(some (!decide (a.Size=8))) else(some false)).bind λb=>
  (bif b then(some true) else((kR (a.Persons.length:Int) 2 a.Size).bind λc=>
  some (!c))).bind λd=>
  (bif d then(some true) else(some (decide ((w64 (a.Size.tdiv 2))<(w64 (a.Size-(a.Persons.length:Int))))))).bind λe=>
  (bif e then(some true) else((kR a.Seeds 0 (min (w64 (a.Size.tdiv 2)) (a.Persons.length:Int))).bind λf=>
  some (!f))).bind λg=>
  (bif g then(some true) else(some (decide (10<(a.Lots.length:Int))))).bind λh=>
  bif h then(some 60)
  else(oG a.Persons (a.Persons.length:Int) a BIG 0)
def rU(x:List Int)(a:Int->Int->Option Int):Option (List Int):=aXc x a
def iH(a:Int)(b:Int)(c:aQ):Option Int:=
  (idx c.Persons a).bind λd=>
  (idx c.Persons b).bind λe=>
  some (w64 (d.Player-e.Player))
def oH(a:aQ)(b:List Int):Option (List Int):=
  (rU b (λc d=>iH c d a)).bind λe=>
  (app 8 ([(-1)]) e).bind λf=>
  some f
def oI(a:Int)(b:aQ):Nat->Int->(List Int)->Option (List Int)
 |0,_,_=>none
 | d+1,e,f=>
  bif decide (e<a) then((app 8 f ([e])).bind λc=>
  (oI a b d) (w64 (e+1)) c)
  else(oH b f)
def lP(a:aQ):Option (List Int):=
  oI (a.Persons.length:Int) a BIG 0 ([]:List Int)
def jM(a:List Int):Option ((List Int)):=
  (app 8 ([]:List Int) a).bind λb=>
  some b
def rT:Option Int:=
  some (-1)
def fH(a:List Int)(b:Int)(c:Int):Nat->Int->Option Int
 |0,_=>none
 | e+1,f=>
  bif decide (f<c) then((idx a f).bind λd=>
  bif decide (b=d) then(some f)
  else((fH a b c e) (w64 (f+1))))
  else(rT)
def fJ(a:List Int)(b:Int):Option Int:=
  fH a b (a.length:Int) BIG 0
def cN(a:List Int)(b:Int):Option Bool:=
  (fJ a b).bind λc=>
  some (decide (0<=c))
def aBc(a:aQ)(b:Int)(c:Int):Option Bool:=
  (bif decide (b=0) then(some (decide (0<a.Seeds))) else(some false)).bind λd=>
  bif d then(some (decide (c=0)))
  else((bif decide (b=(w64 (a.Size-1))) then(some (decide (1<a.Seeds))) else(some false)).bind λe=>
  bif e then(some (decide (c=1)))
  else((bif decide (c=(-1)) then(some true) else(some (decide (a.Seeds<=c)))).bind λf=>
  bif f then(some true)
  else((bif decide (1<c) then((cN ([w64 (a.Size.tdiv 4),w64 ((w64 (a.Size-1))-(w64 (a.Size.tdiv 4)))]) b).bind λg=>
  some g) else(some false)).bind λh=>
  some h)))
def zK(a:aQ)(b:Int)(c:Int):Option Bool:=
  (bif decide (b=(-1)) then(some true) else(some (decide (c=(-1))))).bind λd=>
  bif d then(some (!decide (b=c)))
  else((idx a.Persons b).bind λe=>
  (idx a.Persons c).bind λf=>
  (bif !decide (e.Nation=f.Nation) then(some true) else(some (decide (e.Nation=0)))).bind λg=>
  (bif g then((bif e.Qualified then(some f.Qualified) else(some false)).bind λh=>
  some (!h)) else(some false)).bind λi=>
  some i)
def sB(a:Int)(b:Int)(c:aQ)(d:Int):Option Bool:=
  (bif decide (a=(-1)) then(some true) else(some (decide (c.Seeds<=a)))).bind λe=>
  (bif e then(some true) else(some (decide ((decide (b=(-1)))=(decide (a<d)))))).bind λf=>
  some f
def vS(a:aQ)(b:Int)(c:Int):Option Bool:=
  (bif decide ((w64 (a.Size-(a.Persons.length:Int)))<=a.Seeds) then((bif decide (b=(-1)) then(some (decide (a.Seeds<=c))) else(some false)).bind λd=>
  (bif d then(some true) else((bif decide (c=(-1)) then(some (decide (a.Seeds<=b))) else(some false)).bind λe=>
  some e)).bind λf=>
  some f) else(some false)).bind λg=>
  bif g then(some false)
  else((zK a b c).bind λh=>
  (bif h then((sB b c a (w64 (a.Size-(a.Persons.length:Int)))).bind λi=>
  some i) else(some false)).bind λj=>
  (bif j then((sB c b a (w64 (a.Size-(a.Persons.length:Int)))).bind λk=>
  some k) else(some false)).bind λl=>
  some l)
def xR{S:Type}(_:S->(List Int)->Option (S×Bool))(_:(List Int)->Int->aQ->(List Int)->S->Option (S×Bool))(_:List Int)(a:S)(_:aQ)(_:List Int):Option (S×Bool):=
  some (a,true)
def iY{S:Type}(a:S->(List Int)->Option (S×Bool))(b:(List Int)->Int->aQ->(List Int)->S->Option (S×Bool))(c:Int)(d:aQ)(e:Int)(f:List Int)(g:Int)(h:List Int)(i:aQ)(j:List Int):Nat->Int->S->Option (S×Bool)
 |0,_,_=>none
 | x+1,y,z=>
  bif decide (y<g) then((idx f y).bind λk=>
  (bif decide (k=(-1)) then(some (w64 (c-1)))
  else(some c)).bind λl=>
  (bif decide (l<0) then(some true) else((bif !decide (k=(-1)) then((cN h k).bind λm=>
  some m) else(some false)).bind λn=>
  some n)).bind λo=>
  (bif o then(some true) else((aBc d e k).bind λp=>
  some (!p))).bind λq=>
  (bif q then(some true) else((bif decide ((e.tmod 2)=1) then((idx h (w64 (e-1))).bind λr=>
  (vS d r k).bind λs=>
  some (!s)) else(some false)).bind λt=>
  some t)).bind λu=>
  bif u then((iY a b c d e f g h i j x) (w64 (y+1)) z)
  else((aQg i.Size h ([k])).bind λv=>
  (b v l i j z).bind λw=>
  bif !w.2 then(some (w.1,false))
  else((iY a b c d e f g h i j x) (w64 (y+1)) w.1)))
  else(xR a b h z i j)
def iG{S:Type}(a:S->(List Int)->Option (S×Bool)):Nat->(List Int)->Int->aQ->(List Int)->S->Option (S×Bool)
 |0,_,_,_,_,_=>none
 | d+1,e,f,g,h,i=>
  bif decide ((e.length:Int)=g.Size) then((jM e).bind λb=>
  (a i b).bind λc=>
  some c)
  else(iY a (iG a d) f g (e.length:Int) h (h.length:Int) e g h BIG 0 i)
def aBb{S:Type}(a:S->(List Int)->Option (S×Bool)):(List Int)->Int->aQ->(List Int)->S->Option (S×Bool):=iG a BIG
def sA{S:Type}(a:S->(List Int)->Option (S×Bool))(b:aQ)(c:List Int)(d:S):Option (S×Bool):=
  (mk0 8 b.Size).bind λ_=>
  (aBb a ([]:List Int) (w64 (b.Size-(b.Persons.length:Int))) b c d).bind λe=>
  some e
def sX(a:aQ):Option (Int×Int):=
  (vR a).bind λb=>
  bif !decide (b=0) then(some (0,b))
  else((lP a).bind λc=>
  (sA (S:=Int) (λd _=>
  some ((w64 (d+1)),true)) a c 0).bind λe=>
  bif e.2 then(some (e.1,0))
  else(none))
def aCr(a:List Int):Option ((List Int)):=
  some a
def mE(a:List Int)(b:Int)(c:aQ):Nat->Int->(List Int)->Option ((List Int))
 |0,_,_=>none
 | h+1,i,j=>
  bif decide (i<b) then((idx a i).bind λd=>
  bif decide (d=(-1)) then((app 8 j ([(-1)])).bind λe=>
  (mE a b c h) (w64 (i+1)) e)
  else((idx c.Persons d).bind λf=>
  (app 8 j ([f.Player])).bind λg=>
  (mE a b c h) (w64 (i+1)) g))
  else(aCr j)
def sY(a:aQ)(b:List Int):Option ((List Int)):=
  mE b (b.length:Int) a BIG 0 ([]:List Int)
def vD(a:aQ)(b:Int):Option ((List Int)×Bool):=
  (lP a).bind λc=>
  (sA (S:=Int×(List Int)×Bool) (λd e=>
  bif decide (d.1=0) then((sY a e).bind λf=>
  some ((d.1,f,true),false))
  else(some ((w64 (d.1-1),d.2.1,d.2.2),true))) a c (b,([]:List Int),false)).bind λg=>
  bif g.2 then(some (([]:List Int),false))
  else(some (g.1.2.1,g.1.2.2))
def qB(a:Int)(b:Int)(c:aQ):Option ((List Int)×Int):=
  (chk (!decide (a=0))).bind λ_=>
  (vD c (b.tmod a)).bind λd=>
  some (d.1,0)
def kY(a:Int)(b:List Int)(c:Int)(d:aQ):Nat->Int->Int->Option ((List Int)×Int)
 |0,_,_=>none
 | f+1,g,h=>
  bif decide (h<c) then((idx b h).bind λe=>
  (kY a b c d f) (w64 (g+e)) (w64 (h+1)))
  else(qB a g d)
def oR(a:aQ):Option ((List Int)×Int):=
  (sX a).bind λb=>
  bif !decide (b.2=0) then(some (([]:List Int),b.2))
  else(bif decide (b.1=0) then(some (([]:List Int),3))
  else(kY b.1 a.Lots (a.Lots.length:Int) a BIG 0 0))
def oW:Option (aF×(List aB)):=
  some ((aF.mk 3 ([1,(-1),2,3,4,5,6,7])),[(aB.mk 1 1 0 2 0),(aB.mk 3 0 3 7 0),(aB.mk 5 0 4 8 4)])
def fU(a:Int)(b:Int)(c:Int):Option Bool:=
  (bif decide (b<=a) then(some (decide (a<=c))) else(some false)).bind λd=>
  some d
def yX:Option Bool:=
  some true
def jV(a:List Int)(b:Int)(c:aF):Nat->Int->(List (Int×Int))->Option Bool
 |0,_,_=>none
 | h+1,i,j=>
  bif decide (i<b) then((idx a i).bind λd=>
  bif decide (d=(-1)) then((idx c.Slots (aSn i 1)).bind λe=>
  bif decide (e=(-1)) then(some false)
  else((jV a b c h) (w64 (i+1)) j))
  else((bif decide (1<(bR d 0 (eK d (w64 ((bR d 0 j)+1)) j))) then(some true) else((fU d 0 999).bind λf=>
  some (!f))).bind λg=>
  bif g then(some false)
  else((jV a b c h) (w64 (i+1)) (eK d (w64 ((bR d 0 j)+1)) j))))
  else(yX)
def qR(a:aF):Option Bool:=
  (fU a.Rounds 1 5).bind λb=>
  (bif !b then(some true) else((chk (decide (0<=a.Rounds))).bind λ_=>
  some (!decide ((a.Slots.length:Int)=(w64 (1*2^(min a.Rounds.toNat 64))))))).bind λc=>
  bif c then(some false)
  else(jV a.Slots (a.Slots.length:Int) a BIG 0 ([]:List (Int×Int)))
def oO:Option Int:=
  some (-1)
def eT(a:List aB)(b:aB->Option Bool)(c:Int):Nat->Int->Option Int
 |0,_=>none
 | f+1,g=>
  bif decide (g<c) then((idx a g).bind λd=>
  (b d).bind λe=>
  bif e then(some g)
  else((eT a b c f) (w64 (g+1))))
  else(oO)
def kG(a:List aB)(b:aB->Option Bool):Option Int:=
  eT a b (a.length:Int) BIG 0
def iM(a:List aB)(b:aB->Option Bool):Option Bool:=
  (kG a b).bind λc=>
  some (decide (0<=c))
def oD(a:aA)(b:aF):Option Bool:=
  (fU a.round 0 (w64 (b.Rounds-1))).bind λc=>
  (bif c then((chk (decide (0<=(w64 (a.round+1))))).bind λ_=>
  (fU a.place 0 (w64 (((b.Slots.length:Int).fdiv (2^(min (w64 (a.round+1)).toNat 64)))-1))).bind λd=>
  some d) else(some false)).bind λe=>
  some e
def tM(a:aF)(b:aB):Option Bool:=
  (fU b.Player 0 999).bind λc=>
  bif !c then(some false)
  else(bif decide (b.Kind=5) then((bif decide (b.Round=0) then((fU b.Place 0 (w64 ((a.Slots.length:Int)-1))).bind λd=>
  some d) else(some false)).bind λe=>
  (bif e then((fU b.Old 0 999).bind λf=>
  some f) else(some false)).bind λg=>
  some g)
  else((fU b.Kind 1 4).bind λh=>
  (bif !h then(some true) else(some (!decide (b.Old=0)))).bind λi=>
  (bif i then(some true) else((oD (aA.mk b.Round b.Place) a).bind λj=>
  some (!j))).bind λk=>
  bif k then(some false)
  else((bif decide (0<b.Round) then(some true) else((sub a.Slots (w64 (2*b.Place)) (w64 ((w64 (2*b.Place))+2))).bind λl=>
  (cN l (-1)).bind λm=>
  some (!m))).bind λn=>
  some n)))
def qS(a:aB)(b:aF):Option Bool:=
  (tM b a).bind λc=>
  some (!c)
def qJ(a:(aB×Bool)->Prop)(_:List Int)(_:aF)(_:List (aB×Int))(_:aB):Prop:=
  a ((aB.mk 0 0 0 0 0),false)
def jD(a:(aB×Bool)->Prop)(b:Int)(c:List Int)(d:aF)(e:List (aB×Int)):Nat->aB->(List (aB×Int))->Prop
 |0,_,_=>False
 | j+1,k,l=>
  bEt l (qJ a c d e k)
  (λf g=>
  nb (bif decide (f.1.Place=b) then((idx c b).bind λh=>
  some (decide (f.1.Old=h))) else(some false)) λi=>
  bif i then(a (f.1,true))
  else((jD a b c d e j) k g))
def jU(a:aF)(b:List Int)(c:List (aB×Int))(d:Int)(Q:(aB×Bool)->Prop):Prop:=
  aKf c λe=>
  jD Q d b a c BIG (aB.mk 0 0 0 0 0) e
def nN(_:(Bool×(List Int)×(List (aB×Int)))->Prop)(a:Int->(List Int)->(List (aB×Int))->(List Int)->Prop)(_:Int)(b:Int)(c:List Int)(_:aF)(d:List (aB×Int))(e:List Int):Prop:=
  a (w64 (b+1)) c d e
def nO(a:(Bool×(List Int)×(List (aB×Int)))->Prop)(b:Int->(List Int)->(List (aB×Int))->(List Int)->Prop)(c:Int)(d:Int)(e:List Int)(f:aF)(g:List (aB×Int))(h:List Int):Prop:=
  nN a b c d e f g h
def dV(a:(Bool×(List Int)×(List (aB×Int)))->Prop)(b:Int->(List Int)->(List (aB×Int))->(List Int)->Prop)(c:Int)(d:Int)(e:Int)(f:aF):Nat->Bool->(List Int)->(List (aB×Int))->aB->(List Int)->Prop
 |0,_,_,_,_,_=>False
 | j+1,k,l,m,n,o=>
  bif k then(nb (cN o n.Player) λg=>
  bif g then(a (false,l,m))
  else(nb (idx l c) λ_=>
  nb (app 8 o ([n.Player])) λh=>
  jU f (l.set c.toNat n.Player) (tA n m) c λi=>
  (dV a b c d e f j) i.2 (l.set c.toNat n.Player) (tA n m) i.1 h))
  else(nO a b d e l f m o)
def nM(a:(Bool×(List Int)×(List (aB×Int)))->Prop)(b:List Int)(_:aF)(c:List (aB×Int)):Prop:=
  a (decide ((c.length:Int)=0),b,c)
def cV(a:(Bool×(List Int)×(List (aB×Int)))->Prop)(b:Int)(c:aF):Nat->Int->(List Int)->(List (aB×Int))->(List Int)->Prop
 |0,_,_,_,_=>False
 | e+1,f,g,h,i=>
  bif decide (f<b) then(jU c g h f λd=>
  dV a (cV a b c e) f b f c BIG d.2 g h d.1 i)
  else(nM a g c h)
def mN(a:aF)(b:List Int)(c:List (aB×Int))(Q:(Bool×(List Int)×(List (aB×Int)))->Prop):Prop:=
  nb (jM a.Slots) λd=>
  cV Q (b.length:Int) a BIG 0 b c d
def mO(a:Int)(b:Int):Option aA:=
  (chk (decide (0<=(w64 (a+1))))).bind λ_=>
  some (aA.mk a (b.fdiv (2^(min (w64 (a+1)).toNat 64))))
def uU(_:List Int)(a:List (aA×Int))(_:aF):Option (Bool×(List (aA×Int))):=
  some (true,a)
def jE(a:Int)(b:Int)(c:List Int)(d:aF):Nat->Int->(List (aA×Int))->Option (Bool×(List (aA×Int)))
 |0,_,_=>none
 | i+1,j,k=>
  bif decide (j<b) then((mO j a).bind λe=>
  (bif eB e k then((idx c a).bind λf=>
  some (!decide ((bR e 0 k)=f))) else(some false)).bind λg=>
  bif g then(some (false,k))
  else((idx c a).bind λh=>
  (jE a b c d i) (w64 (j+1)) (eK e h k)))
  else(uU c k d)
def nE(a:aF)(b:List Int)(c:List (aA×Int))(d:Int)(e:Int):Option (Bool×(List (aA×Int))):=
  jE d (w64 (e+1)) b a BIG 0 c
def zU(a:((Option aP)×Bool)->Prop)(b:List Int)(c:List (aA×Int))(d:aF):Prop:=
  a ((some (aP.mk d b c)),true)
def lS(a:((Option aP)×Bool)->Prop)(b:List Int)(c:aF)(d:List (aA×aB)):Nat->(List (aA×Int))->(List (aA×aB))->Prop
 |0,_,_=>False
 | k+1,l,m=>
  bEt m (zU a b l c)
  (λe f=>
  nb (fJ b e.2.Player) λg=>
  nb (bif decide (g<0) then(some true) else((mO e.1.round g).bind λh=>
  some (!decide (h=e.1)))) λi=>
  bif i then(a ((none:Option aP),false))
  else(nb (nE c b l g e.1.round) λj=>
  bif !j.1 then(a ((none:Option aP),false))
  else((lS a b c d k) j.2 f)))
def uS(a:((Option aP)×Bool)->Prop)(b:List Int)(c:List (aA×Int))(d:aF)(e:List (aA×aB)):Prop:=
  aKf e λf=>
  lS a b d e BIG c f
def jC(a:((Option aP)×Bool)->Prop)(b:Int)(c:List Int)(d:aF)(e:List (aA×aB)):Nat->Int->(List (aA×Int))->Prop
 |0,_,_=>False
 | h+1,i,j=>
  bif decide (i<b) then(nb (idx c i) λf=>
  bif decide (f=(-1)) then(nb (nE d c j (aSn i 1) 0) λg=>
  (jC a b c d e h) (w64 (i+1)) g.2)
  else((jC a b c d e h) (w64 (i+1)) j))
  else(uS a c j d e)
def uR(a:((Option aP)×Bool)->Prop)(b:List Int)(c:List (aA×Int))(d:aF)(e:List (aB×Int))(f:List (aA×aB)):Prop:=
  mN d b e λg=>
  bif !g.1 then(a ((none:Option aP),false))
  else(jC a (g.2.1.length:Int) g.2.1 d f BIG 0 c)
def jB(a:((Option aP)×Bool)->Prop)(b:List aB)(c:Int)(d:List Int)(e:List (aA×Int))(f:aF):Nat->Int->(List (aB×Int))->(List (aA×aB))->Prop
 |0,_,_,_=>False
 | i+1,j,k,l=>
  bif decide (j<c) then(nb (idx b j) λg=>
  bif decide (g.Kind=5) then((jB a b c d e f i) (w64 (j+1)) (eK g (w64 ((bR g 0 k)+1)) k) l)
  else(nb (bif eB (aA.mk g.Round g.Place) l then(some (!decide ((bR (aA.mk g.Round g.Place) (aB.mk 0 0 0 0 0) l)=g))) else(some false)) λh=>
  bif h then(a ((none:Option aP),false))
  else((jB a b c d e f i) (w64 (j+1)) k (eK (aA.mk g.Round g.Place) g l))))
  else(uR a d e f k l)
def vM(a:aF)(b:List aB)(Q:((Option aP)×Bool)->Prop):Prop:=
  nb (jM a.Slots) λc=>
  jB Q b (b.length:Int) c ([]:List (aA×Int)) a BIG 0 ([]:List (aB×Int)) ([]:List (aA×aB))
def kN(a:aF)(b:List aB)(Q:((Option aP)×Int)->Prop):Prop:=
  nb (qR a) λc=>
  bif !c then(Q ((none:Option aP),70))
  else(nb (bif decide (60<(b.length:Int)) then(some true) else((iM b (λd=>qS d a)).bind λe=>
  some e)) λf=>
  bif f then(Q ((none:Option aP),71))
  else(vM a b λg=>
  bif !g.2 then(Q ((none:Option aP),72))
  else(Q (g.1,0))))
def xC(b:aF)(c:List aB)(Q:(Int×Int)->Prop):Prop:=
  kN b c λd=>
  bif !decide (d.2=0) then(Q (0,d.2))
  else(nb (d.1) λe=>
  nb (d.1) λf=>
  Q (w64 ((w64 ((e.Tree.Slots.length:Int)-1))-(((f.won.map λp:aA×Int=>((λa:aA=>Value.agg ((aC a).map bA).toArray) p.1,aD p.2))).length:Int)),0))
def oX:Option (aI×(List aG)):=
  some ((aI.mk ([[(aX.mk 600 900),(aX.mk 600 780)],[(aX.mk 600 800),(aX.mk 600 600)]]) 30 ([(bE.mk (aX.mk 60 120) ([]:List Int) ([]:List Int) 1 0),(bE.mk (aX.mk 60 100) ([]:List Int) ([]:List Int) 1 0),(bE.mk (aX.mk 90 150) ([0,1]) ([]:List Int) 1 0)])),[(aG.mk 0 0 0),(aG.mk 1 0 1),(aG.mk 2 0 0)])
def fS(a:Int)(b:Int)(c:Int):Option Bool:=
  (bif decide (b<=a) then(some (decide (a<=c))) else(some false)).bind λd=>
  some d
def oP:Option Int:=
  some (-1)
def eU(a:List aX)(b:aX->Option Bool)(c:Int):Nat->Int->Option Int
 |0,_=>none
 | f+1,g=>
  bif decide (g<c) then((idx a g).bind λd=>
  (b d).bind λe=>
  bif e then(some g)
  else((eU a b c f) (w64 (g+1))))
  else(oP)
def kH(a:List aX)(b:aX->Option Bool):Option Int:=
  eU a b (a.length:Int) BIG 0
def iN(a:List aX)(b:aX->Option Bool):Option Bool:=
  (kH a b).bind λc=>
  some (decide (0<=c))
def tC(a:aX)(b:Int)(c:Int):Option Bool:=
  (bif decide (a.Low<=a.High) then((fS a.Low b c).bind λd=>
  some d) else(some false)).bind λe=>
  (bif e then((fS a.High b c).bind λf=>
  some f) else(some false)).bind λg=>
  some g
def yD(a:aX):Option Bool:=
  (tC a 0 1440).bind λb=>
  some (!b)
def pK(a:aX)(b:Int):Option Bool:=
  (tC a 1 600).bind λc=>
  (bif c then((fS b 0 2).bind λd=>
  some d) else(some false)).bind λe=>
  some e
def aBp:Option Bool:=
  some true
def mZ(a:List Int)(b:Int)(c:List Int)(d:Int):Nat->Int->Option Bool
 |0,_=>none
 | j+1,k=>
  bif decide (k<d) then((idx c k).bind λe=>
  (fS e 0 (w64 (b-1))).bind λf=>
  (bif !f then(some true) else((bif decide (0<k) then((idx a (w64 (k-1))).bind λg=>
  some (decide (e<=g))) else(some false)).bind λh=>
  some h)).bind λi=>
  bif i then(some false)
  else((mZ a b c d j) (w64 (k+1))))
  else(aBp)
def uC(a:List Int)(b:Int):Option Bool:=
  mZ a b a (a.length:Int) BIG 0
def aEv:Option Int:=
  some 0
def qD(a:List bE)(b:Int)(c:aI):Nat->Int->Option Int
 |0,_=>none
 | n+1,o=>
  bif decide (o<b) then((idx a o).bind λd=>
  (pK d.Length d.Due).bind λe=>
  (bif !e then(some true) else((fS d.Earliest 0 1440).bind λf=>
  some (!f))).bind λg=>
  (bif g then(some true) else((uC d.After o).bind λh=>
  some (!h))).bind λi=>
  (bif i then(some true) else((uC d.With (c.Jobs.length:Int)).bind λj=>
  some (!j))).bind λk=>
  (bif k then(some true) else((cN d.With o).bind λl=>
  some l)).bind λm=>
  bif m then(some 80)
  else((qD a b c n) (w64 (o+1))))
  else(aEv)
def vO(a:aI):Option Int:=
  qD a.Jobs (a.Jobs.length:Int) a BIG 0
def nK(a:List (List aX))(b:Int)(c:aI):Nat->Int->Option Int
 |0,_=>none
 | j+1,k=>
  bif decide (k<b) then((idx a k).bind λd=>
  (fS (d.length:Int) 1 3).bind λe=>
  (bif !e then(some true) else((idx c.Days 0).bind λf=>
  some (!decide ((d.length:Int)=(f.length:Int))))).bind λg=>
  bif g then(some 80)
  else((iN d (λh=>yD h)).bind λi=>
  bif i then(some 80)
  else((nK a b c j) (w64 (k+1)))))
  else(vO c)
def sO(a:aI):Option Int:=
  (fS (a.Days.length:Int) 1 3).bind λb=>
  (bif !b then(some true) else((fS a.Rest 0 600).bind λc=>
  some (!c))).bind λd=>
  (bif d then(some true) else(some (decide (6<(a.Jobs.length:Int))))).bind λe=>
  bif e then(some 80)
  else(nK a.Days (a.Days.length:Int) a BIG 0)
def uD(a:Int)(b:List Int):Option Bool:=
  (cN b a).bind λc=>
  some (!c)
def aBq(a:aI)(b:List Int):Option Bool:=
  some (decide ((b.length:Int)=(a.Jobs.length:Int)))
def nA(a:List aG)(b:List aG)(c:Int)(d:aI):Nat->Int->(List Int)->Option Bool
 |0,_,_=>none
 | v+1,w,x=>
  bif decide (w<c) then((idx b w).bind λe=>
  (fS e.Job 0 (w64 ((d.Jobs.length:Int)-1))).bind λf=>
  (bif !f then(some true) else((cN x e.Job).bind λg=>
  some g)).bind λh=>
  (bif h then(some true) else((fS e.Day 0 (w64 ((d.Days.length:Int)-1))).bind λi=>
  some (!i))).bind λj=>
  (bif j then(some true) else((idx d.Days 0).bind λk=>
  (fS e.Court 0 (w64 ((k.length:Int)-1))).bind λl=>
  some (!l))).bind λm=>
  bif m then(some false)
  else((idx d.Jobs e.Job).bind λn=>
  (fL n.After (λo=>uD o x)).bind λp=>
  (bif decide (n.Due<e.Day) then(some true) else(some p)).bind λq=>
  (bif q then(some true) else((bif decide (0<w) then((idx a (w64 (w-1))).bind λr=>
  some (decide (e.Day<r.Day))) else(some false)).bind λs=>
  some s)).bind λt=>
  bif t then(some false)
  else((app 8 x ([e.Job])).bind λu=>
  (nA a b c d v) (w64 (w+1)) u)))
  else(aBq d x)
def rI(a:aI)(b:List aG):Option Bool:=
  nA b b (b.length:Int) a BIG 0 ([]:List Int)
def aHk(_:bW)(a:bW):Option bW:=
  some a
def pL(a:List aX)(b:Int)(c:bW):Nat->Int->bW->Option bW
 |0,_,_=>none
 | e+1,f,g=>
  bif decide (f<b) then((idx a f).bind λd=>
  (inb 3 f).bind λ_=>
  (pL a b c e) (w64 (f+1)) (bW.mk g.number (g.free.set f d.Low) g.ends))
  else(aHk c g)
def sP(a:aI)(b:Int):Option bW:=
  (idx a.Days b).bind λc=>
  pL c (c.length:Int) (bW.mk 0 (A3.mk 0 0 0) (A6.mk 0 0 0 0 0 0)) BIG 0 (bW.mk b (A3.mk 0 0 0) (A6.mk 0 0 0 0 0 0))
def yF(a:Int)(b:Int)(c:aI):Option Bool:=
  (idx c.Jobs a).bind λd=>
  (cN d.After b).bind λe=>
  (bif e then(some true) else((cN d.With b).bind λf=>
  some f)).bind λg=>
  some g
def aBu(a:aI)(b:Int)(c:Int):Option Bool:=
  (yF b c a).bind λd=>
  (bif d then(some true) else((yF c b a).bind λe=>
  some e)).bind λf=>
  some f
def vF(a:Int)(b:Int)(c:bW)(d:aG):Option (Int×Int×bW):=
  (inb 3 d.Court).bind λ_=>
  (inb 6 d.Job).bind λ_=>
  some (b,w64 (b+a),(bW.mk c.number (c.free.set d.Court (w64 (b+a))) (c.ends.set d.Job (w64 (b+a)))))
def kT(a:Int)(b:A6 Int)(c:bW)(d:aI)(e:aG):Nat->Int->Int->Option (Int×Int×bW)
 |0,_,_=>none
 | h+1,i,j=>
  bif decide (j<6) then((inb 6 j).bind λ_=>
  (bif decide (0<(b.at j)) then((aBu d e.Job j).bind λf=>
  some f) else(some false)).bind λg=>
  bif g then((kT a b c d e h) (max i (w64 ((b.at j)+d.Rest))) (w64 (j+1)))
  else((kT a b c d e h) i (w64 (j+1))))
  else(vF a i c e)
def lA(a:bW)(b:aI)(c:aG)(d:Int):Option (Int×Int×bW):=
  (inb 3 c.Court).bind λ_=>
  (idx b.Jobs c.Job).bind λe=>
  kT d a.ends a b c BIG (max (a.free.at c.Court) e.Earliest) 0
def aEx(a:List Int)(b:List Int):Option ((List Int)×(List Int)):=
  some (a,b)
def lR(a:aX->Option Int)(b:List aG)(c:Int)(d:aI):Nat->Int->bW->(List Int)->(List Int)->Option ((List Int)×(List Int))
 |0,_,_,_,_=>none
 | m+1,n,o,p,q=>
  bif decide (n<c) then((idx b n).bind λe=>
  bif !decide (e.Day=o.number) then((sP d e.Day).bind λf=>
  (idx d.Jobs e.Job).bind λg=>
  (a g.Length).bind λh=>
  (lA f d e h).bind λi=>
  (idx p e.Job).bind λ_=>
  (idx q e.Job).bind λ_=>
  (lR a b c d m) (w64 (n+1)) i.2.2 (p.set e.Job.toNat i.1) (q.set e.Job.toNat i.2.1))
  else((idx d.Jobs e.Job).bind λj=>
  (a j.Length).bind λk=>
  (lA o d e k).bind λl=>
  (idx p e.Job).bind λ_=>
  (idx q e.Job).bind λ_=>
  (lR a b c d m) (w64 (n+1)) l.2.2 (p.set e.Job.toNat l.1) (q.set e.Job.toNat l.2.1)))
  else(aEx p q)
def qM(a:aI)(b:List aG)(c:aX->Option Int):Option ((List Int)×(List Int)):=
  (mk 8 (a.Jobs.length:Int) 0).bind λd=>
  (mk 8 (a.Jobs.length:Int) 0).bind λe=>
  (sP a 0).bind λf=>
  lR c b (b.length:Int) a BIG 0 f d e
def uE(a:aX):Option Int:=
  some a.High
def aPv:Option (Bool×Int×Int):=
  some (true,(-1),0)
def aBn(a:List Int)(b:List aG)(c:Int)(d:aI):Nat->Int->Option (Bool×Int×Int)
 |0,_=>none
 | i+1,j=>
  bif decide (j<c) then((idx b j).bind λe=>
  (idx a e.Job).bind λf=>
  (idx d.Days e.Day).bind λg=>
  (idx g e.Court).bind λh=>
  bif decide (h.High<f) then(some (false,e.Job,0))
  else((aBn a b c d i) (w64 (j+1))))
  else(aPv)
def aIs(a:aI)(b:List aG):Option (Bool×Int×Int):=
  (sO a).bind λc=>
  bif !decide (c=0) then(some (false,0,c))
  else((rI a b).bind λd=>
  bif !d then(some (false,0,81))
  else((qM a b (λe=>uE e)).bind λf=>
  aBn f.2 b (b.length:Int) a BIG 0))
def yO(a:aF)(b:List aB):Option (Int×Int):=pQ a b
def cS:Option Bool:=
  (sE).bind λa=>
  (oR a.1).bind λb=>
  (oW).bind λc=>
  (yO c.1 c.2).bind λd=>
  (oX).bind λe=>
  (aIs e.1 e.2).bind λf=>
  (bif decide (b.2=0) then(some (decide (d.2=0))) else(some false)).bind λg=>
  (bif g then(some (decide (f.2.2=0))) else(some false)).bind λh=>
  (bif h then(some (decide ((b.1.length:Int)=4))) else(some false)).bind λi=>
  (bif i then((idx b.1 2).bind λj=>
  some (decide (j=30))) else(some false)).bind λk=>
  (bif k then(some (decide (d.1=3))) else(some false)).bind λl=>
  (bif l then(some f.1) else(some false)).bind λm=>
  (bif m then(some (decide (f.2.1=(-1)))) else(some false)).bind λn=>
  some n
def mR(a:Int):Option Int:=
  bif decide (a=4) then(some 2)
  else(some 3)
def vL(a:aF)(b:List aB)(Q:Int->Prop):Prop:=
  kN a b λc=>
  Q c.2
def aCo(a:((Option aP)×(List Int)×Int)->Prop)(b:Option aP)(c:List Int):Prop:=
  a (b,c,0)
def oE(a:((Option aP)×(List Int)×Int)->Prop)(b:List Int)(c:Int):Nat->(Option aP)->Int->(List Int)->Prop
 |0,_,_,_=>False
 | i+1,j,k,l=>
  bif decide (k<c) then(nb (idx b k) λd=>
  nb (fU d 0 999) λe=>
  bif !e then(a ((none:Option aP),([]:List Int),1))
  else(nb (j) λf=>
  nb (fJ f.players d) λg=>
  nb (app 8 l ([g])) λh=>
  (oE a b c i) j (w64 (k+1)) h))
  else(aCo a j l)
def sV(a:aF)(b:List aB)(c:List Int)(Q:((Option aP)×(List Int)×Int)->Prop):Prop:=
  kN a b λd=>
  bif !decide (d.2=0) then(Q ((none:Option aP),([]:List Int),d.2))
  else(oE Q c (c.length:Int) BIG d.1 0 ([]:List Int))
def zC(a:Int):Option Int:=
  some a
def lI(a:List Int):Nat->Int->Int->Option Int
 |0,_,_=>none
 | c+1,d,e=>
  bif decide (e<(a.length:Int)) then((idx a e).bind λb=>
  (lI a c) (min d b) (w64 (e+1)))
  else(zC d)
def uG(a:List Int):Option Int:=
  bif decide ((a.length:Int)<1) then(none)
  else((idx a 0).bind λb=>
  lI a BIG b 1)
def vX(a:aP):Option Int:=
  some a.Tree.Rounds
def jY(a:aP)(b:Int)(c:Int):Nat->Int->Option Int
 |0,_=>none
 | g+1,h=>
  bif decide (h<c) then((mO h b).bind λd=>
  (bif eB d a.won then((idx a.players b).bind λe=>
  some (!decide ((bR d 0 a.won)=e))) else(some false)).bind λf=>
  bif f then(some h)
  else((jY a b c g) (w64 (h+1))))
  else(vX a)
def oC(a:aP)(b:Int):Option Int:=
  jY a b a.Tree.Rounds BIG 0
def aIe(a:(Int×Int)->Prop):Prop:=
  a (0,3)
def mL(a:(Int×Int)->Prop)(b:Option aP)(c:List Int)(d:Int):Nat->Int->Prop
 |0,_=>False
 | n+1,o=>
  bif decide (o<d) then(nb (idx c 0) λe=>
  nb (mO o e) λf=>
  nb (idx c 1) λg=>
  nb (mO o g) λh=>
  bif decide (f=h) then(nb (b) λi=>
  nb (idx c 0) λj=>
  nb (oC i j) λk=>
  nb (idx c 1) λl=>
  nb (oC i l) λm=>
  bif decide ((min k m)<o) then(a (0,3))
  else(a (o,0)))
  else((mL a b c d n) (w64 (o+1))))
  else(aIe a)
def xD(a:aF)(b:List aB)(c:Int)(d:Int)(Q:(Int×Int)->Prop):Prop:=
  sV a b ([c,d]) λe=>
  bif !decide (e.2.2=0) then(Q (0,e.2.2))
  else(bif decide (c=d) then(Q (0,1))
  else(nb (uG e.2.1) λf=>
  bif decide (f<0) then(Q (0,3))
  else(nb (e.1) λg=>
  mL Q e.1 e.2.1 g.Tree.Rounds BIG 0)))
def nD(a:aP)(b:aA)(c:Int):Option Int:=
  bif decide (b.round=0) then((idx a.players (w64 ((w64 (2*b.place))+c))).bind λd=>
  some d)
  else(bif eB (aA.mk (w64 (b.round-1)) (w64 ((w64 (2*b.place))+c))) a.won then(some (bR (aA.mk (w64 (b.round-1)) (w64 ((w64 (2*b.place))+c))) 0 a.won))
  else(some (-2)))
def rX{S:Type}(_:S->aA->aN->Option S)(a:Int->S->Option S)(_:aP)(_:Int)(b:Int)(c:S):Option S:=
  a (w64 (b+1)) c
def lF{S:Type}(a:S->aA->aN->Option S)(b:Int->S->Option S)(c:aP)(d:Int)(e:Int)(f:S):Option S:=
  rX a b c d e f
def fK{S:Type}(a:S->aA->aN->Option S)(b:Int->S->Option S)(c:aP)(d:Int)(e:Int)(f:Int)(g:Int):Nat->Int->S->Option S
 |0,_,_=>none
 | k+1,l,m=>
  bif decide (l<g) then((nD c (aA.mk d l) 0).bind λh=>
  (nD c (aA.mk d l) 1).bind λi=>
  (a m (aA.mk d l) (aN.mk d l h i)).bind λj=>
  (fK a b c d e f g k) (w64 (l+1)) j)
  else(lF a b c e f m)
def rW{S:Type}(_:S->aA->aN->Option S)(a:S):Option S:=
  some a
def dA{S:Type}(a:S->aA->aN->Option S)(b:aP)(c:Int):Nat->Int->S->Option S
 |0,_,_=>none
 | d+1,e,f=>
  bif decide (e<c) then((chk (decide (0<=(w64 (e+1))))).bind λ_=>
  fK a (dA a b c d) b e c e ((b.Tree.Slots.length:Int).fdiv (2^(min (w64 (e+1)).toNat 64))) BIG 0 f)
  else(rW a f)
def mM{S:Type}(a:aP)(b:S->aA->aN->Option S)(c:S):Option S:=
  dA b a a.Tree.Rounds BIG 0 c
def vK(a:aF)(b:List aB)(Q:((List aN)×Int)->Prop):Prop:=
  kN a b λc=>
  bif !decide (c.2=0) then(Q (([]:List aN),c.2))
  else(nb (c.1) λd=>
  nb (mM (S:=(List aN)) d (λe _ f=>
  (app 32 e ([f])).bind λg=>
  some g) ([]:List aN)) λh=>
  Q (h,0))
def nL:Option Int:=
  some (-1)
def eO(a:List bU)(b:bU->Option Bool)(c:Int):Nat->Int->Option Int
 |0,_=>none
 | f+1,g=>
  bif decide (g<c) then((idx a g).bind λd=>
  (b d).bind λe=>
  bif e then(some g)
  else((eO a b c f) (w64 (g+1))))
  else(nL)
def jR(a:List bU)(b:bU->Option Bool):Option Int:=
  eO a b (a.length:Int) BIG 0
def gX(a:List bU)(b:bU->Option Bool):Option Bool:=
  (jR a b).bind λc=>
  some (decide (0<=c))
def zL(a:bU):Option Bool:=
  (pK a.Length a.Due).bind λb=>
  some (!b)
def uT(a:aF)(b:List aB)(c:Int)(d:Int)(Q:((Option aP)×aA×Int)->Prop):Prop:=
  kN a b λe=>
  nb (bif decide (e.2=0) then((oD (aA.mk c d) a).bind λf=>
  some (!f)) else(some false)) λg=>
  bif g then(Q (e.1,(aA.mk c d),1))
  else(Q (e.1,(aA.mk c d),e.2))
def tL(a:aF)(b:List aB)(c:Int)(d:Int)(Q:(Int×Int)->Prop):Prop:=
  uT a b c d λe=>
  bif !decide (e.2.2=0) then(Q (0,e.2.2))
  else(nb (e.1) λf=>
  bif !(eB e.2.1 f.won) then(Q (0,3))
  else(Q (bR e.2.1 0 f.won,0)))
def wQ(a:aF)(b:List aB):Option ((List aN)×Int):=jI a b
def uV(a:aF)(b:List aB)(c:Int)(d:Int):Option (Int×Int):=eX a b c d
def uB(a:Int->(List bE)->(List aN)->Option ((List bE)×(List aN)×Int))(_:List aB)(_:List bU)(_:List aN)(_:Int)(b:Int)(_:aF)(c:List bE)(d:List aN):Option ((List bE)×(List aN)×Int):=
  a (w64 (b+1)) c d
def aBo(a:Int->(List bE)->(List aN)->Option ((List bE)×(List aN)×Int))(b:List aB)(c:List bU)(d:List aN)(e:Int)(f:Int)(g:aF)(h:List bE)(i:List aN)(j:aN)(k:List Int)(l:aX)(m:List Int)(n:Int)(o:Int):Option ((List bE)×(List aN)×Int):=
  (app 80 h ([(bE.mk l k m n o)])).bind λp=>
  (app 32 i ([j])).bind λq=>
  uB a b c d e f g p q
def pJ(a:Int->(List bE)->(List aN)->Option ((List bE)×(List aN)×Int))(b:List aB)(c:List bU)(d:List aN)(e:Int)(f:Int)(g:Int)(h:aF)(i:List bE)(j:List aN)(k:aN):Nat->Int->(List Int)->aX->(List Int)->Int->Int->Option ((List bE)×(List aN)×Int)
 |0,_,_,_,_,_,_=>none
 | o+1,p,q,r,s,t,u=>
  bif decide (p<g) then((idx j p).bind λl=>
  (bif decide (l.Round=(w64 (k.Round-1))) then(some (decide ((w64 (l.Place.tdiv 2))=k.Place))) else(some false)).bind λm=>
  bif m then((app 8 q ([p])).bind λn=>
  (pJ a b c d e f g h i j k o) (w64 (p+1)) n r s t u)
  else((pJ a b c d e f g h i j k o) (w64 (p+1)) q r s t u))
  else(aBo a b c d e f h i j k q r s t u)
def yE(a:List bE)(b:List aN):Option ((List bE)×(List aN)×Int):=
  bif decide (6<(a.length:Int)) then(some (([]:List bE),([]:List aN),2))
  else(some (a,b,0))
def jP(a:List aB)(b:List bU)(c:List aN)(d:Int)(e:aF):Nat->Int->(List bE)->(List aN)->Option ((List bE)×(List aN)×Int)
 |0,_,_,_=>none
 | j+1,k,l,m=>
  bif decide (k<d) then((idx c k).bind λf=>
  (uV e a f.Round f.Place).bind λg=>
  bif decide (g.2=0) then(uB (jP a b c d e j) a b c d k e l m)
  else((idx b f.Round).bind λh=>
  (idx b f.Round).bind λi=>
  pJ (jP a b c d e j) a b c d k (m.length:Int) e l m f BIG 0 ([]:List Int) h.Length ([]:List Int) i.Due 0))
  else(yE l m)
def uM(a:aF)(b:List aB)(c:List bU):Option ((List bE)×(List aN)×Int):=
  (wQ a b).bind λd=>
  bif !decide (d.2=0) then(some (([]:List bE),([]:List aN),d.2))
  else((bif !decide ((c.length:Int)=a.Rounds) then(some true) else((gX c (λe=>zL e)).bind λf=>
  some f)).bind λg=>
  bif g then(some (([]:List bE),([]:List aN),82))
  else(jP b c d.1 (d.1.length:Int) a BIG 0 ([]:List bE) ([]:List aN)))
def xP(a:Int->(List bE)->Option ((List bE)×(List aN)×Int))(_:List bU)(b:Int)(_:List aN)(c:List bE):Option ((List bE)×(List aN)×Int):=
  a (w64 (b+1)) c
def sL(a:Int->(List bE)->Option ((List bE)×(List aN)×Int))(b:List bU)(c:Int)(d:List aN)(e:List bE)(f:List Int)(g:aX)(h:List Int)(i:Int)(j:Int):Option ((List bE)×(List aN)×Int):=
  (app 80 e ([(bE.mk g f h i j)])).bind λk=>
  xP a b c d k
def iX(a:Int->(List bE)->Option ((List bE)×(List aN)×Int))(b:List bU)(c:Int)(d:List aN)(e:List bE):Nat->Int->(List Int)->aX->(List Int)->Int->Int->Option ((List bE)×(List aN)×Int)
 |0,_,_,_,_,_,_=>none
 | l+1,m,n,o,p,q,r=>
  bif decide (m<c) then((idx d m).bind λf=>
  (idx d c).bind λg=>
  (bif decide (f.Round=(w64 (g.Round-1))) then((idx d m).bind λh=>
  (idx d c).bind λi=>
  some (decide ((w64 (h.Place.tdiv 2))=i.Place))) else(some false)).bind λj=>
  bif j then((app 8 n ([m])).bind λk=>
  (iX a b c d e l) (w64 (m+1)) k o p q r)
  else((iX a b c d e l) (w64 (m+1)) n o p q r))
  else(sL a b c d e n o p q r)
def sK(a:List aN)(b:List bE):Option ((List bE)×(List aN)×Int):=
  some (b,a,0)
def eN(a:List bU)(b:List aN):Nat->Int->(List bE)->Option ((List bE)×(List aN)×Int)
 |0,_,_=>none
 | g+1,h,i=>
  bif decide (h<(b.length:Int)) then((idx b h).bind λc=>
  (idx a c.Round).bind λd=>
  (idx b h).bind λe=>
  (idx a e.Round).bind λf=>
  iX (eN a b g) a h b i BIG 0 ([]:List Int) d.Length ([]:List Int) f.Due 0)
  else(sK b i)
def mC(a:List bU)(b:List aN):Option ((List bE)×(List aN)×Int):=
  bif decide (6<(b.length:Int)) then(some (([]:List bE),([]:List aN),2))
  else(eN a b BIG 0 ([]:List bE))
def gN(a:List aB)(b:List bU)(c:List aN)(d:aF):Nat->Int->(List aN)->Option ((List bE)×(List aN)×Int)
 |0,_,_=>none
 | j+1,k,l=>
  bif decide (k<(c.length:Int)) then((idx c k).bind λe=>
  (idx c k).bind λf=>
  (eX d a e.Round f.Place).bind λg=>
  bif decide (g.2=3) then((idx c k).bind λh=>
  (app 32 l ([h])).bind λi=>
  (gN a b c d j) (w64 (k+1)) i)
  else((gN a b c d j) (w64 (k+1)) l))
  else(mC b l)
def kQ(a:List aB)(b:List bU)(c:aF):Option ((List bE)×(List aN)×Int):=
  (jI c a).bind λd=>
  gN a b d.1 c BIG 0 ([]:List aN)
def gM(a:List aB)(b:List bU)(c:aF):Nat->Int->Option ((List bE)×(List aN)×Int)
 |0,_=>none
 | i+1,j=>
  bif decide (j<(b.length:Int)) then((idx b j).bind λd=>
  (gC d.Length).bind λe=>
  (bif !e then(some true) else((idx b j).bind λf=>
  (cU f.Due 0 2).bind λg=>
  some (!g))).bind λh=>
  bif h then(some (([]:List bE),([]:List aN),82))
  else((gM a b c i) (w64 (j+1))))
  else(kQ a b c)
def lL(a:aF)(b:List aB)(c:List bU):Option ((List bE)×(List aN)×Int):=
  (eS a b).bind λd=>
  bif !decide (d=0) then(some (([]:List bE),([]:List aN),d))
  else(bif !decide ((c.length:Int)=a.Rounds) then(some (([]:List bE),([]:List aN),82))
  else(gM b c a BIG 0))
def qV(a:aH)(b:Int):Option Bool:=
  (chk (decide (0<=b))).bind λ_=>
  some (decide ((bQm (a.done.fdiv (2^(min b.toNat 64))) 1)=1))
def rL:Option Int:=
  some (-1)
def gA(a:List aG)(b:Int)(c:aG):Nat->Int->Option Int
 |0,_=>none
 | e+1,f=>
  bif decide (f<b) then((idx a f).bind λd=>
  bif decide (c=d) then(some f)
  else((gA a b c e) (w64 (f+1))))
  else(rL)
def mH(a:List aG)(b:aG):Option Int:=
  gA a (a.length:Int) b BIG 0
def kU(a:List aG)(b:aG):Option Bool:=
  (mH a b).bind λc=>
  some (decide (0<=c))
def oL(a:dR)(b:aG):Option Int:=
  (bif a.old.isNone then(some true) else((kU (a.old.getD []) b).bind λc=>
  some c)).bind λd=>
  bif d then(some 0)
  else(some 1)
def gE(_:dR->(List (aH×Int))->aH->Option ((List aG)×Bool×(List (aH×Int))))(a:Int->(List (aH×Int))->Option ((List aG)×Bool×(List (aH×Int))))(_:aI)(_:Int)(_:Option (List aG))(_:List bE)(_:Int)(b:Int)(c:List (aH×Int))(_:aH):Option ((List aG)×Bool×(List (aH×Int))):=
  a (w64 (b+1)) c
def rQ(_:dR->(List (aH×Int))->aH->Option ((List aG)×Bool×(List (aH×Int))))(_:Int->(List (aH×Int))->Option ((List aG)×Bool×(List (aH×Int))))(a:Int->(List (aH×Int))->Option ((List aG)×Bool×(List (aH×Int))))(_:aI)(_:Int)(_:Option (List aG))(_:Int)(b:Int)(_:List bE)(_:Int)(_:Int)(c:List (aH×Int))(_:aH)(_:bE):Option ((List aG)×Bool×(List (aH×Int))):=
  a (w64 (b+1)) c
def rR(a:dR->(List (aH×Int))->aH->Option ((List aG)×Bool×(List (aH×Int))))(b:Int->(List (aH×Int))->Option ((List aG)×Bool×(List (aH×Int))))(c:Int->(List (aH×Int))->Option ((List aG)×Bool×(List (aH×Int))))(d:aI)(e:Int)(f:Option (List aG))(g:Int)(h:Int)(i:List bE)(j:Int)(k:Int)(l:List (aH×Int))(m:aH)(n:bE):Option ((List aG)×Bool×(List (aH×Int))):=
  rQ a b c d e f g h i j k l m n
def eD(a:dR->(List (aH×Int))->aH->Option ((List aG)×Bool×(List (aH×Int))))(b:Int->(List (aH×Int))->Option ((List aG)×Bool×(List (aH×Int))))(c:Int->(List (aH×Int))->Option ((List aG)×Bool×(List (aH×Int))))(d:aI)(e:Int)(f:Option (List aG))(g:Int)(h:Int)(i:List bE)(j:Int)(k:Int)(l:List aX)(m:Int)(n:aH)(o:bE)(p:bW):Nat->Int->(List (aH×Int))->Option ((List aG)×Bool×(List (aH×Int)))
 |0,_,_=>none
 | w+1,x,y=>
  bif decide (x<m) then((idx l x).bind λq=>
  (chk (decide (0<=g))).bind λ_=>
  (oL (dR.mk d e f) (aG.mk g h x)).bind λr=>
  (lA p d (aG.mk g h x) o.Length.High).bind λs=>
  (bif decide (q.High<s.2.1) then(some true) else(some (decide ((w64 (n.moves-r))<0)))).bind λt=>
  bif t then((eD a b c d e f g h i j k l m n o p w) (w64 (x+1)) y)
  else((a (dR.mk d e f) y (aH.mk s.2.2 (bOr n.done (w64 (1*2^(min g.toNat 64)))) (w64 (n.moves-r)))).bind λu=>
  bif u.2.1 then((app 24 ([(aG.mk g h x)]) u.1).bind λv=>
  some (v,true,u.2.2))
  else((eD a b c d e f g h i j k l m n o p w) (w64 (x+1)) u.2.2)))
  else(rR a b c d e f g h i j k y n o)
def wN(a:dR->(List (aH×Int))->aH->Option ((List aG)×Bool×(List (aH×Int))))(b:Int->(List (aH×Int))->Option ((List aG)×Bool×(List (aH×Int))))(c:aI)(d:Int)(e:Option (List aG))(f:List bE)(g:Int)(h:Int)(i:List (aH×Int))(j:aH):Option ((List aG)×Bool×(List (aH×Int))):=
  gE a b c d e f g h i j
def eR(a:dR->(List (aH×Int))->aH->Option ((List aG)×Bool×(List (aH×Int))))(b:Int->(List (aH×Int))->Option ((List aG)×Bool×(List (aH×Int))))(c:aI)(d:Int)(e:Option (List aG))(f:Int)(g:List bE)(h:Int)(i:Int)(j:aH)(k:bE):Nat->Int->(List (aH×Int))->Option ((List aG)×Bool×(List (aH×Int)))
 |0,_,_=>none
 | p+1,q,r=>
  (bif decide (q<d) then(some (decide (q<=k.Due))) else(some false)).bind λl=>
  bif l then(bif decide (j.day.number<q) then((sP c q).bind λm=>
  (idx c.Days q).bind λn=>
  eD a b (eR a b c d e f g h i j k p) c d e f q g h i n (n.length:Int) j k m BIG 0 r)
  else((idx c.Days q).bind λo=>
  eD a b (eR a b c d e f g h i j k p) c d e f q g h i o (o.length:Int) j k j.day BIG 0 r))
  else(wN a b c d e g h i r j)
def rP(a:dR->(List (aH×Int))->aH->Option ((List aG)×Bool×(List (aH×Int))))(b:Int->(List (aH×Int))->Option ((List aG)×Bool×(List (aH×Int))))(c:aI)(d:Int)(e:Option (List aG))(f:Int)(g:List bE)(h:Int)(i:Int)(j:List (aH×Int))(k:aH)(l:bE):Option ((List aG)×Bool×(List (aH×Int))):=
  eR a b c d e f g h i k l BIG k.day.number j
def iE(a:dR->(List (aH×Int))->aH->Option ((List aG)×Bool×(List (aH×Int))))(b:Int->(List (aH×Int))->Option ((List aG)×Bool×(List (aH×Int))))(c:aI)(d:Int)(e:Option (List aG))(f:Int)(g:List bE)(h:Int)(i:Int)(j:List Int)(k:Int)(l:List (aH×Int))(m:aH)(n:bE):Nat->Int->Option ((List aG)×Bool×(List (aH×Int)))
 |0,_=>none
 | q+1,r=>
  bif decide (r<k) then((idx j r).bind λo=>
  (qV m o).bind λp=>
  bif !p then(gE a b c d e g h i l m)
  else((iE a b c d e f g h i j k l m n q) (w64 (r+1))))
  else(rP a b c d e f g h i l m n)
def wM(_:dR->(List (aH×Int))->aH->Option ((List aG)×Bool×(List (aH×Int))))(a:List (aH×Int)):Option ((List aG)×Bool×(List (aH×Int))):=
  some (([]:List aG),false,a)
def cM(a:dR->(List (aH×Int))->aH->Option ((List aG)×Bool×(List (aH×Int))))(b:aI)(c:Int)(d:Option (List aG))(e:List bE)(f:Int)(g:aH):Nat->Int->(List (aH×Int))->Option ((List aG)×Bool×(List (aH×Int)))
 |0,_,_=>none
 | j+1,k,l=>
  bif decide (k<f) then((idx e k).bind λh=>
  (qV g k).bind λi=>
  bif i then(gE a (cM a b c d e f g j) b c d e f k l g)
  else(iE a (cM a b c d e f g j) b c d k e f k h.After (h.After.length:Int) l g h BIG 0))
  else(wM a l)
def cC:Nat->dR->(List (aH×Int))->aH->Option ((List aG)×Bool×(List (aH×Int)))
 |0,_,_,_=>none
 | a+1,b,c,d=>
  (chk (decide (0<=(b.Program.Jobs.length:Int)))).bind λ_=>
  bif decide (d.done=(w64 ((w64 (1*2^(min (b.Program.Jobs.length:Int).toNat 64)))-1))) then(some (([]:List aG),true,c))
  else(bif decide (1<(bR d 0 (eK d (w64 ((bR d 0 c)+1)) c))) then(some (([]:List aG),false,(eK d (w64 ((bR d 0 c)+1)) c)))
  else(cM (cC a) b.Program b.days b.old b.Program.Jobs (b.Program.Jobs.length:Int) d BIG 0 (eK d (w64 ((bR d 0 c)+1)) c)))
def aAa:dR->(List (aH×Int))->aH->Option ((List aG)×Bool×(List (aH×Int))):=cC BIG
def aBt(a:aI)(b:Int)(c:Option (List aG))(d:Int):Option ((List aG)×Bool):=
  bif decide (b=0) then(some (([]:List aG),decide ((a.Jobs.length:Int)=0)))
  else((sP a 0).bind λe=>
  (aAa (dR.mk a b c) ([]:List (aH×Int)) (aH.mk e 0 d)).bind λf=>
  some (f.1,f.2.1))
def aHi:Option (Int×(List aG)×Bool):=
  some (0,([]:List aG),false)
def rH(a:Int)(b:aI):Nat->Int->Option (Int×(List aG)×Bool)
 |0,_=>none
 | d+1,e=>
  bif decide (e<a) then((aBt b e none 0).bind λc=>
  bif c.2 then(some (e,c.1,true))
  else((rH a b d) (w64 (e+1))))
  else(aHi)
def aEi(a:aI):Option (Int×(List aG)×Bool):=
  rH (w64 ((a.Days.length:Int)+1)) a BIG 0
def uL(a:aI):Option ((List aG)×Int):=
  (sO a).bind λb=>
  bif !decide (b=0) then(some (([]:List aG),b))
  else((aEi a).bind λc=>
  bif !c.2.2 then(some (([]:List aG),3))
  else(some (c.2.1,0)))
def zA:Option Bool:=
  some false
def lG(a:List aG)(b:Int):Nat->Int->Option Bool
 |0,_=>none
 | d+1,e=>
  bif decide (e<(a.length:Int)) then((idx a e).bind λc=>
  bif decide (c.Job=b) then(some true)
  else((lG a b d) (w64 (e+1))))
  else(zA)
def qT(a:List aG)(b:Int):Option Bool:=
  lG a b BIG 0
def tV:Option Bool:=
  some true
def iL(a:List aG)(b:aI)(c:aG):Nat->Int->Option Bool
 |0,_=>none
 | h+1,i=>
  (idx b.Jobs c.Job).bind λd=>
  bif decide (i<(d.After.length:Int)) then((idx b.Jobs c.Job).bind λe=>
  (idx e.After i).bind λf=>
  (qT a f).bind λg=>
  bif !g then(some false)
  else((iL a b c h) (w64 (i+1))))
  else(tV)
def mD(a:List aG)(b:aI)(c:aG):Option Bool:=
  iL a b c BIG 0
def gG(a:List aG)(b:aI)(c:aG):Nat->Int->Option Bool
 |0,_=>none
 | e+1,f=>
  bif decide (f<(a.length:Int)) then((idx a f).bind λd=>
  bif decide (c.Day<d.Day) then(some false)
  else((gG a b c e) (w64 (f+1))))
  else(mD a b c)
def pD(a:aI)(b:List aG)(c:aG):Option Bool:=
  (cU c.Job 0 (w64 ((a.Jobs.length:Int)-1))).bind λd=>
  (bif !d then(some true) else((qT b c.Job).bind λe=>
  some e)).bind λf=>
  (bif f then(some true) else((idx a.Jobs c.Job).bind λg=>
  (cU c.Day 0 (min (w64 ((a.Days.length:Int)-1)) g.Due)).bind λh=>
  some (!h))).bind λi=>
  (bif i then(some true) else((idx a.Days 0).bind λj=>
  (cU c.Court 0 (w64 ((j.length:Int)-1))).bind λk=>
  some (!k))).bind λl=>
  bif l then(some false)
  else(gG b a c BIG 0)
def tU(a:List aG)(b:aI):Option Bool:=
  some (decide ((a.length:Int)=(b.Jobs.length:Int)))
def iK(a:List aG)(b:aI):Nat->Int->Option Bool
 |0,_=>none
 | f+1,g=>
  bif decide (g<(a.length:Int)) then((sub a 0 g).bind λc=>
  (idx a g).bind λd=>
  (pD b c d).bind λe=>
  bif !e then(some false)
  else((iK a b f) (w64 (g+1))))
  else(tU a b)
def iW(a:aI)(b:List aG):Option Bool:=
  iK b a BIG 0
def vP(a:aX):Option Int:=
  some a.Low
def aEw(a:List aX)(b:List aX):Option ((List aX)×(List aX)×Int):=
  some (a,b,0)
def qE(a:List Int)(b:List Int)(c:List Int)(d:List Int)(e:Int):Nat->Int->(List aX)->(List aX)->Option ((List aX)×(List aX)×Int)
 |0,_,_,_=>none
 | l+1,m,n,o=>
  bif decide (m<e) then((idx a m).bind λf=>
  (idx c m).bind λg=>
  (app 16 n ([(aX.mk f g)])).bind λh=>
  (idx b m).bind λi=>
  (idx d m).bind λj=>
  (app 16 o ([(aX.mk i j)])).bind λk=>
  (qE a b c d e l) (w64 (m+1)) h k)
  else(aEw n o)
def mY(a:aI)(b:List aG):Option ((List aX)×(List aX)×Int):=
  (sO a).bind λc=>
  bif !decide (c=0) then(some (([]:List aX),([]:List aX),c))
  else((rI a b).bind λd=>
  bif !d then(some (([]:List aX),([]:List aX),81))
  else((qM a b (λe=>vP e)).bind λf=>
  (qM a b (λg=>uE g)).bind λh=>
  qE f.1 f.2 h.1 h.2 (a.Jobs.length:Int) BIG 0 ([]:List aX) ([]:List aX)))
def wR(a:aF)(b:List aB):Option Int:=eS a b
def yP(a:aF)(b:List aB)(c:Int)(d:Int):Option (Int×Int):=pR a b c d
def mP(a:Int->Option Bool)(_:List bE)(_:List aX)(_:List aX)(b:Int)(_:eP)(_:List Int):Option Bool:=
  a (w64 (b+1))
def mQ(a:Int->Option Bool)(b:List bE)(c:List aX)(d:List aX)(e:Int)(f:eP)(g:List Int):Option Bool:=
  mP a b c d e f g
def dP(a:Int->Option Bool)(b:List bE)(c:List aX)(d:List aX)(e:Int)(f:eP)(g:List Int):Nat->Int->Option Bool
 |0,_=>none
 | v+1,w=>
  (idx b e).bind λh=>
  bif decide (w<(h.After.length:Int)) then((idx b e).bind λi=>
  (idx i.After w).bind λj=>
  (idx g j).bind λk=>
  (idx g e).bind λl=>
  (bif decide (l<k) then(some true) else((idx g j).bind λm=>
  (idx g e).bind λn=>
  (bif decide (m=n) then((idx c e).bind λo=>
  (idx d j).bind λp=>
  (bif decide (o.Low<(w64 (p.Low+f.Rest))) then(some true) else((idx c e).bind λq=>
  (idx d j).bind λr=>
  some (decide (q.High<(w64 (r.High+f.Rest)))))).bind λs=>
  some s) else(some false)).bind λt=>
  some t)).bind λu=>
  bif u then(some false)
  else((dP a b c d e f g v) (w64 (w+1))))
  else(mQ a b c d e f g)
def fX:Option Bool:=
  (cS).bind λa=>
  some a
def dO(a:List bE)(b:List aX)(c:List aX)(d:eP)(e:List Int):Nat->Int->Option Bool
 |0,_=>none
 | f+1,g=>
  bif decide (g<(a.length:Int)) then(dP (dO a b c d e f) a b c g d e BIG 0)
  else(fX)
def rB(a:List bE)(b:List aX)(c:List aX)(d:eP)(e:List Int):Option Bool:=
  dO a b c d e BIG 0
def cX(a:List bE)(b:List aG)(c:List aX)(d:List aX)(e:eP):Nat->Int->(List Int)->Option Bool
 |0,_,_=>none
 | h+1,i,j=>
  bif decide (i<(b.length:Int)) then((idx b i).bind λf=>
  (idx b i).bind λg=>
  (idx j f.Job).bind λ_=>
  (cX a b c d e h) (w64 (i+1)) (j.set f.Job.toNat g.Day))
  else(rB a c d e j)
def pV(a:aQ)(b:eP):Option Bool:=
  (tP a).bind λc=>
  (bif c then(some true) else((oF a).bind λd=>
  some (!decide (d=0)))).bind λe=>
  (bif e then(some true) else((nX b).bind λf=>
  some (!f))).bind λg=>
  bif g then((cS).bind λh=>
  some h)
  else((oR a).bind λi=>
  bif decide (i.2=3) then((cS).bind λj=>
  some j)
  else((bif !decide (i.2=0) then(some true) else(some (!decide ((i.1.length:Int)=a.Size)))).bind λk=>
  bif k then(some false)
  else((mR a.Size).bind λl=>
  (wR (aF.mk l i.1) ([]:List aB)).bind λm=>
  bif !decide (m=0) then(some false)
  else(bif decide (2<=a.Seeds) then((idx a.Persons 0).bind λn=>
  (idx a.Persons 1).bind λo=>
  (yP (aF.mk l i.1) ([]:List aB) n.Player o.Player).bind λp=>
  (bif !decide (p.2=0) then(some true) else(some (!decide (p.1=(w64 (l-1)))))).bind λq=>
  bif q then(some false)
  else((uM (aF.mk l i.1) ([]:List aB) b.Stages).bind λr=>
  (lL (aF.mk l i.1) ([]:List aB) b.Stages).bind λs=>
  bif decide (s.2.2=82) then((bif decide (r.2.2=s.2.2) then((cS).bind λt=>
  some t) else(some false)).bind λu=>
  some u)
  else(bif decide (6<(w64 ((a.Persons.length:Int)-1))) then((bif decide (r.2.2=2) then((cS).bind λv=>
  some v) else(some false)).bind λw=>
  some w)
  else((bif !decide (r.2.2=0) then(some true) else(some (!decide ((r.1.length:Int)=(w64 ((a.Persons.length:Int)-1)))))).bind λx=>
  (bif x then(some true) else(some (!decide ((r.2.1.length:Int)=(r.1.length:Int))))).bind λy=>
  (bif y then(some true) else((idx r.2.1 (w64 ((r.2.1.length:Int)-1))).bind λz=>
  some (!decide (z.Round=(w64 (l-1)))))).bind λa0=>
  bif a0 then(some false)
  else(bif decide (4<(r.1.length:Int)) then((cS).bind λa1=>
  some a1)
  else((jJ (aI.mk b.Days b.Rest r.1)).bind λa2=>
  bif !decide (a2=0) then(some false)
  else((uL (aI.mk b.Days b.Rest r.1)).bind λa3=>
  bif decide (a3.2=3) then((cS).bind λa4=>
  some a4)
  else((bif !decide (a3.2=0) then(some true) else((iW (aI.mk b.Days b.Rest r.1) a3.1).bind λa5=>
  some (!a5))).bind λa6=>
  (bif a6 then(some true) else((idx a3.1 (w64 ((a3.1.length:Int)-1))).bind λa7=>
  some (!decide (a7.Job=(w64 ((r.1.length:Int)-1)))))).bind λa8=>
  bif a8 then(some false)
  else((mY (aI.mk b.Days b.Rest r.1) a3.1).bind λa9=>
  (bif !decide (a9.2.2=0) then(some true) else(some (!decide ((a9.1.length:Int)=(r.1.length:Int))))).bind λb0=>
  (bif b0 then(some true) else(some (!decide ((a9.2.1.length:Int)=(r.1.length:Int))))).bind λb1=>
  bif b1 then(some false)
  else((mk 8 (r.1.length:Int) 0).bind λb2=>
  cX r.1 a3.1 a9.1 a9.2.1 b BIG 0 b2))))))))))
  else((uM (aF.mk l i.1) ([]:List aB) b.Stages).bind λb3=>
  (lL (aF.mk l i.1) ([]:List aB) b.Stages).bind λb4=>
  bif decide (b4.2.2=82) then((bif decide (b3.2.2=b4.2.2) then((cS).bind λb6=>
  some b6) else(some false)).bind λb8=>
  some b8)
  else(bif decide (6<(w64 ((a.Persons.length:Int)-1))) then((bif decide (b3.2.2=2) then((cS).bind λb9=>
  some b9) else(some false)).bind λc0=>
  some c0)
  else((bif !decide (b3.2.2=0) then(some true) else(some (!decide ((b3.1.length:Int)=(w64 ((a.Persons.length:Int)-1)))))).bind λc1=>
  (bif c1 then(some true) else(some (!decide ((b3.2.1.length:Int)=(b3.1.length:Int))))).bind λc2=>
  (bif c2 then(some true) else((idx b3.2.1 (w64 ((b3.2.1.length:Int)-1))).bind λc3=>
  some (!decide (c3.Round=(w64 (l-1)))))).bind λc4=>
  bif c4 then(some false)
  else(bif decide (4<(b3.1.length:Int)) then((cS).bind λc5=>
  some c5)
  else((jJ (aI.mk b.Days b.Rest b3.1)).bind λc6=>
  bif !decide (c6=0) then(some false)
  else((uL (aI.mk b.Days b.Rest b3.1)).bind λc7=>
  bif decide (c7.2=3) then((cS).bind λc8=>
  some c8)
  else((bif !decide (c7.2=0) then(some true) else((iW (aI.mk b.Days b.Rest b3.1) c7.1).bind λc9=>
  some (!c9))).bind λd0=>
  (bif d0 then(some true) else((idx c7.1 (w64 ((c7.1.length:Int)-1))).bind λd1=>
  some (!decide (d1.Job=(w64 ((b3.1.length:Int)-1)))))).bind λd2=>
  bif d2 then(some false)
  else((mY (aI.mk b.Days b.Rest b3.1) c7.1).bind λd3=>
  (bif !decide (d3.2.2=0) then(some true) else(some (!decide ((d3.1.length:Int)=(b3.1.length:Int))))).bind λd4=>
  (bif d4 then(some true) else(some (!decide ((d3.2.1.length:Int)=(b3.1.length:Int))))).bind λd5=>
  bif d5 then(some false)
  else((mk 8 (b3.1.length:Int) 0).bind λd6=>
  cX b3.1 c7.1 d3.1 d3.2.1 b BIG 0 d6)))))))))))))
def aCg(a:aP):Option Int:=
  some a.Tree.Rounds
def nR(a:aP)(b:Int)(c:Int):Nat->Int->Option Int
 |0,_=>none
 | g+1,h=>
  bif decide (h<c) then((mO h b).bind λd=>
  (bif !(eB d a.won) then(some true) else((idx a.players b).bind λe=>
  some (!decide ((bR d 0 a.won)=e)))).bind λf=>
  bif f then(some h)
  else((nR a b c g) (w64 (h+1))))
  else(aCg a)
def aGk(a:aP)(b:Int):Option Int:=
  nR a b a.Tree.Rounds BIG 0
end Go.Am
