/- The desk of the referee: its objects, begin, close. -/
import Derived.Test.YtammglnfelkbpaaGreatDoorRfSh
import Derived.Test.YtammglnfelkbpaaGreatDoorRfStrShelf
import Derived.Test.YtammglnfelkbpaaGreatDoorRfAmb
import Derived.Test.YtammglnfelkbpaaGreatDoorAmX3
import Derived.Test.YtammglnfelkbpaaGreatDoorAmFam2
import Derived.Test.YtammglnfelkbpaaGreatDoorAmByt
import Derived.Test.YtammglnfelkbpaaGreatDoorChecked
namespace Go.Am
open Go.Proofs
set_option maxRecDepth 100000
set_option maxHeartbeats 4000000
def aBy(n s y:Value)(x:aJ):List D:=[.lit (.int .i64 x.Desk.Field.Places),.lit (.int .i64 x.Desk.Field.Wilds),.lit (.int .i64 x.Desk.Field.Guards),.lit (.int .i64 x.Desk.Field.Close),.lit (.int .i64 x.Desk.Field.Freeze),.lit (.int .i64 x.Desk.Tree.Rounds),.sl 1 (x.Desk.Tree.Slots.map aP),.lit (.int .i64 x.Desk.Format.Sets),.lit (.int .i64 x.Desk.Format.Games),.lit (.bool x.Desk.Format.NoAd),.lit (.int .i64 x.Desk.Format.Tie),.lit (.int .i64 x.Desk.Format.To),.lit (.int .i64 x.Desk.Format.LastTie),.lit (.int .i64 x.Desk.Format.LastTo),.lit (.int .i64 x.Desk.Format.First),.lit (.int .i64 x.Desk.Format.Then),.lit (.bool x.Desk.Format.Doubles),.sl 1 (x.Desk.Days.map aO),.lit (.int .i64 x.Desk.Rest),.sl 3 (x.Desk.Stages.map fR),.lit (.int .i64 x.Register.Hour),.lit n,.lit s,.lit (.int .i64 x.Register.Round),.lit (.int .i64 x.Register.Place),.lit (.int .i64 x.Register.First),.sl 1 (x.Register.Points.map aP),.lit y,.lit (.int .i64 x.bout.Round),.lit (.int .i64 x.bout.Place),.lit (.int .i64 x.bout.One),.lit (.int .i64 x.bout.Two)]
def lP(b o:Nat)(n s y:Value)(vs:List Value)(x:aJ):List MO:=
 [.box b o (aBy n s y x),.arr n 166 5 (x.Register.Notices.map cY),.arr s 60 5 (x.Register.Slips.map aL),.arr y 99 1 (vs.map λv=>[.lit v]),.fam 81 2 vs (x.Register.Days.map λr=>r.map bS)]
def kX:Value:=.slice none 0 0
end Go.Am
