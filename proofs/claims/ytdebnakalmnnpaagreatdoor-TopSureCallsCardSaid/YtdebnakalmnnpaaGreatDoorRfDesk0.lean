/- The desk of the referee: its objects, begin, close. -/
import Derived.Test.YtdebnakalmnnpaaGreatDoorRfSh
import Derived.Test.YtdebnakalmnnpaaGreatDoorRfStrShelf
import Derived.Test.YtdebnakalmnnpaaGreatDoorRfAmb
import Derived.Test.YtdebnakalmnnpaaGreatDoorAmVal
import Derived.Test.YtdebnakalmnnpaaGreatDoorAmEnt
import Derived.Test.YtdebnakalmnnpaaGreatDoorAmByt
import Derived.Test.YtdebnakalmnnpaaGreatDoorChecked
namespace Go.Am
open Go.Proofs
set_option maxRecDepth 100000
set_option maxHeartbeats 4000000
def aNi(n s y:Value)(x:aK):List D:=[.lit (.int .i64 x.Desk.Field.Places),.lit (.int .i64 x.Desk.Field.Wilds),.lit (.int .i64 x.Desk.Field.Guards),.lit (.int .i64 x.Desk.Field.Close),.lit (.int .i64 x.Desk.Field.Freeze),.lit (.int .i64 x.Desk.Tree.Rounds),.sl 1 (x.Desk.Tree.Slots.map aI),.lit (.int .i64 x.Desk.Format.Sets),.lit (.int .i64 x.Desk.Format.Games),.lit (.bool x.Desk.Format.NoAd),.lit (.int .i64 x.Desk.Format.Tie),.lit (.int .i64 x.Desk.Format.To),.lit (.int .i64 x.Desk.Format.LastTie),.lit (.int .i64 x.Desk.Format.LastTo),.lit (.int .i64 x.Desk.Format.First),.lit (.int .i64 x.Desk.Format.Then),.lit (.bool x.Desk.Format.Doubles),.sl 1 (x.Desk.Days.map dD),.lit (.int .i64 x.Desk.Rest),.sl 3 (x.Desk.Stages.map cU),.lit (.int .i64 x.Register.Hour),.lit n,.lit s,.lit (.int .i64 x.Register.Round),.lit (.int .i64 x.Register.Place),.lit (.int .i64 x.Register.First),.sl 1 (x.Register.Points.map aI),.lit y,.lit (.int .i64 x.bout.Round),.lit (.int .i64 x.bout.Place),.lit (.int .i64 x.bout.One),.lit (.int .i64 x.bout.Two)]
def sY(b o:Nat)(n s y:Value)(vs:List Value)(x:aK):List MO:=
 [.box b o (aNi n s y x),.arr n 101 5 (x.Register.Notices.map dW),.arr s 103 5 (x.Register.Slips.map aG),.arr y 104 1 (vs.map λv=>[.lit v]),.fam 39 2 vs (x.Register.Days.map λr=>r.map cF)]
def kO:Value:=.slice none 0 0
end Go.Am
