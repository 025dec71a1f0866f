/- The desk of the referee: its objects, begin, close. -/
import Derived.Test.YtejdennodgdfhaaGreatDoorRfSh
import Derived.Test.YtejdennodgdfhaaGreatDoorRfStrShelf
import Derived.Test.YtejdennodgdfhaaGreatDoorRfAmb
import Derived.Test.YtejdennodgdfhaaGreatDoorAmVal
import Derived.Test.YtejdennodgdfhaaGreatDoorAmRange
import Derived.Test.YtejdennodgdfhaaGreatDoorAmClo
import Derived.Test.YtejdennodgdfhaaGreatDoorChecked
namespace Go.Am
open Go.Proofs
set_option maxRecDepth 100000
set_option maxHeartbeats 4000000
def aBw(n s y:Value)(x:aS):List D:=[.lit (.int .i64 x.Desk.Field.Places),.lit (.int .i64 x.Desk.Field.Wilds),.lit (.int .i64 x.Desk.Field.Guards),.lit (.int .i64 x.Desk.Field.Close),.lit (.int .i64 x.Desk.Field.Freeze),.lit (.int .i64 x.Desk.Tree.Rounds),.sl 1 (x.Desk.Tree.Slots.map aE),.lit (.int .i64 x.Desk.Format.Sets),.lit (.int .i64 x.Desk.Format.Games),.lit (.bool x.Desk.Format.NoAd),.lit (.int .i64 x.Desk.Format.Tie),.lit (.int .i64 x.Desk.Format.To),.lit (.int .i64 x.Desk.Format.LastTie),.lit (.int .i64 x.Desk.Format.LastTo),.lit (.int .i64 x.Desk.Format.First),.lit (.int .i64 x.Desk.Format.Then),.lit (.bool x.Desk.Format.Doubles),.sl 1 (x.Desk.Days.map bO),.lit (.int .i64 x.Desk.Rest),.sl 3 (x.Desk.Stages.map bS),.lit (.int .i64 x.Register.Hour),.lit n,.lit s,.lit (.int .i64 x.Register.Round),.lit (.int .i64 x.Register.Place),.lit (.int .i64 x.Register.First),.sl 1 (x.Register.Points.map aE),.lit y,.lit (.int .i64 x.bout.Round),.lit (.int .i64 x.bout.Place),.lit (.int .i64 x.bout.One),.lit (.int .i64 x.bout.Two)]
def jG(b o:Nat)(n s y:Value)(vs:List Value)(x:aS):List MO:=
 [.box b o (aBw n s y x),.arr n 145 5 (x.Register.Notices.map aH),.arr s 46 5 (x.Register.Slips.map aJ),.arr y 82 1 (vs.map λv=>[.lit v]),.fam 84 2 vs (x.Register.Days.map λr=>r.map cO)]
def iQ:Value:=.slice none 0 0
end Go.Am
