/- The functions compute what the shallow ones say: printed by program. -/
import Derived.Test.YtejdennodgdfhaaGreatDoorRgSh
import Derived.Test.YtejdennodgdfhaaGreatDoorRfStrShelf
import Derived.Test.YtejdennodgdfhaaGreatDoorRfAmb
import Derived.Test.YtejdennodgdfhaaGreatDoorEnDet
import Derived.Test.YtejdennodgdfhaaGreatDoorAmVal
import Derived.Test.YtejdennodgdfhaaGreatDoorAmRange
import Derived.Test.YtejdennodgdfhaaGreatDoorAmClo
import Derived.Test.YtejdennodgdfhaaGreatDoorRfShelf
import Derived.Test.YtejdennodgdfhaaGreatDoorAmRangeC
import Derived.Test.YtejdennodgdfhaaGreatDoorAmSub
import Derived.Test.YtejdennodgdfhaaGreatDoorBbDet
import Derived.Test.YtejdennodgdfhaaGreatDoorChecked
import Derived.Test.YtejdennodgdfhaaGreatDoorAmAuto
import Derived.KernelRfl
import Derived.Test.YtejdennodgdfhaaGreatDoorAmX13
namespace Go.Am
open Go.Proofs
open Go.Proofs.Tryz
set_option maxRecDepth 100000
set_option maxHeartbeats 40000000
attribute [local instance] zI

abbrev D.j(n:Int):D:=.lit (.int .i64 n)
abbrev D.k(b:Bool):D:=.lit (.bool b)
abbrev VI(n:Int):Value:=.int .i64 n
abbrev Z0:=aD.mk false false 0 0 false false false false
abbrev Z1(p0:Nat)(p1:Nat)(p2:aS)(p3:Value)(p4:Value)(p5:Value):List MO:=[.box p0 p1 [.j p2.Desk.Field.Places,.j p2.Desk.Field.Wilds,.j p2.Desk.Field.Guards,.j p2.Desk.Field.Close,.j p2.Desk.Field.Freeze,.j p2.Desk.Tree.Rounds,.sl 1 (p2.Desk.Tree.Slots.map aE),.j p2.Desk.Format.Sets,.j p2.Desk.Format.Games,.k p2.Desk.Format.NoAd,.j p2.Desk.Format.Tie,.j p2.Desk.Format.To,.j p2.Desk.Format.LastTie,.j p2.Desk.Format.LastTo,.j p2.Desk.Format.First,.j p2.Desk.Format.Then,.k p2.Desk.Format.Doubles,.sl 1 (p2.Desk.Days.map bO),.j p2.Desk.Rest,.sl 3 (p2.Desk.Stages.map bS),.j p2.Register.Hour,.lit p3,.lit p4,.j p2.Register.Round,.j p2.Register.Place,.j p2.Register.First,.sl 1 (p2.Register.Points.map aE),.lit p5,.j p2.bout.Round,.j p2.bout.Place,.j p2.bout.One,.j p2.bout.Two],.arr p3 145 5 (p2.Register.Notices.map aH),.arr p4 46 5 (p2.Register.Slips.map aJ)]
abbrev Z2(p0:bZ):AV:=.cp [.j p0.Field.Places,.j p0.Field.Wilds,.j p0.Field.Guards,.j p0.Field.Close,.j p0.Field.Freeze,.mp true (p0.players.map λp:Int×aD=>(VI p.1,aG p.2)),.sl 1 (p0.wilds.map aE),.k p0.frozen,.sl 1 (p0.first.map aE),.sl 1 (p0.late.map aE),.j p0.more,.j p0.entered]
abbrev Z3(p0:aS)(p1:Value):AV:=.cp [.j p0.Desk.Field.Places,.j p0.Desk.Field.Wilds,.j p0.Desk.Field.Guards,.j p0.Desk.Field.Close,.j p0.Desk.Field.Freeze,.j p0.Desk.Tree.Rounds,.sl 1 (p0.Desk.Tree.Slots.map aE),.j p0.Desk.Format.Sets,.j p0.Desk.Format.Games,.k p0.Desk.Format.NoAd,.j p0.Desk.Format.Tie,.j p0.Desk.Format.To,.j p0.Desk.Format.LastTie,.j p0.Desk.Format.LastTo,.j p0.Desk.Format.First,.j p0.Desk.Format.Then,.k p0.Desk.Format.Doubles,.sl 1 (p0.Desk.Days.map bO),.j p0.Desk.Rest,.sl 3 (p0.Desk.Stages.map bS),.j p0.Register.Hour,.sl 5 (p0.Register.Notices.map aH),.sl 5 (p0.Register.Slips.map aJ),.j p0.Register.Round,.j p0.Register.Place,.j p0.Register.First,.sl 1 (p0.Register.Points.map aE),.lit p1,.j p0.bout.Round,.j p0.bout.Place,.j p0.bout.One,.j p0.bout.Two]
abbrev Z4(p0:aT)(p1:bZ):=aR p0.Player Z0 p1.players
abbrev Z5(p0:aS)(p1:Value):List AV:=[.cp [.j p0.Desk.Field.Places,.j p0.Desk.Field.Wilds,.j p0.Desk.Field.Guards,.j p0.Desk.Field.Close,.j p0.Desk.Field.Freeze,.j p0.Desk.Tree.Rounds,.sl 1 (p0.Desk.Tree.Slots.map aE),.j p0.Desk.Format.Sets,.j p0.Desk.Format.Games,.k p0.Desk.Format.NoAd,.j p0.Desk.Format.Tie,.j p0.Desk.Format.To,.j p0.Desk.Format.LastTie,.j p0.Desk.Format.LastTo,.j p0.Desk.Format.First,.j p0.Desk.Format.Then,.k p0.Desk.Format.Doubles,.sl 1 (p0.Desk.Days.map bO),.j p0.Desk.Rest,.sl 3 (p0.Desk.Stages.map bS),.j p0.Register.Hour,.sl 5 (p0.Register.Notices.map aH),.sl 5 (p0.Register.Slips.map aJ),.j p0.Register.Round,.j p0.Register.Place,.j p0.Register.First,.sl 1 (p0.Register.Points.map aE),.lit p1,.j p0.bout.Round,.j p0.bout.Place,.j p0.bout.One,.j p0.bout.Two]]
abbrev Z6(p0:aT)(p1:bZ):=aD.mk true (decide (p0.Kind=2)) p0.Rank (w64 (p1.entered+1)) ((Z4 p0 p1).quit) ((Z4 p0 p1).signed) ((Z4 p0 p1).wild) ((Z4 p0 p1).had)
abbrev Z7(p0:aB)(p1:Int):=aB.mk (w64 (p0.round-1)) (w64 ((w64 (2*p0.place))+p1))
abbrev Z8(p0:Nat)(p1:Nat)(p2:bT)(p3:Value)(p4:Value)(p5:Value):List MO:=[.box p0 p1 [.j p2.rules.Format.Sets,.j p2.rules.Format.Games,.k p2.rules.Format.NoAd,.j p2.rules.Format.Tie,.j p2.rules.Format.To,.j p2.rules.Format.LastTie,.j p2.rules.Format.LastTo,.j p2.rules.Format.First,.j p2.rules.Format.Then,.k p2.rules.Format.Doubles,.lit p3,.j p2.Score.Board.Games.A,.j p2.Score.Board.Games.B,.j p2.Score.Board.Points.A,.j p2.Score.Board.Points.B,.j p2.Score.Server,.j p2.Score.Ends,.j p2.Score.Balls,.j p2.Score.Winner,.j p2.first,.j p2.won.A,.j p2.won.B,.lit p4,.lit p5],.arr p3 56 2 (p2.Score.Board.Sets.map aU),.arr p4 4 1 (p2.ties.map gT),.arr p5 251 7 (p2.games.map bU)]
abbrev Z9(p0:Nat)(p1:Nat)(p2:aI)(p3:Value)(p4:Nat)(p5:List Int)(p6:Nat)(p7:List (aC×Int))(p8:List Nat)(p9:Nat):List MO:=[.box p0 p1 [.j p2.Rounds,.sl 1 (p2.Slots.map aE),.lit p3,.lit (.map (some p4))],.arr p3 3 1 (p5.map aE),.map p6 (p7.map λp:aC×Int=>((λa:aC=>Value.agg ((aJ a).map bD).toArray) p.1,(λv:Int=>AV.i v) p.2)) p8 p9]
abbrev Z10(p0:bC):AV:=.cp [.j p0.Tree.Rounds,.sl 1 (p0.Tree.Slots.map aE),.sl 1 (p0.players.map aE),.mp false (p0.won.map λp:aB×Int=>((λa:aB=>Value.agg ((aF a).map bD).toArray) p.1,aE p.2))]
abbrev Z11(p0:aS):=p0.Register.Notices.map aH
abbrev Z12(p0:bZ):List AV:=[.cp [.j p0.Field.Places,.j p0.Field.Wilds,.j p0.Field.Guards,.j p0.Field.Close,.j p0.Field.Freeze,.mp true (p0.players.map λp:Int×aD=>(VI p.1,aG p.2)),.sl 1 (p0.wilds.map aE),.k p0.frozen,.sl 1 (p0.first.map aE),.sl 1 (p0.late.map aE),.j p0.more,.j p0.entered]]
abbrev Z13(p0:aS):=p0.Register.Points.map aE
abbrev Z14(p0:aS):=p0.Register.Slips.map aJ
abbrev Z15:List MO:=[.arr (.slice none 0 0) 145 5 (([]:List aT).map aH)]
abbrev Z16(p0:aI):=p0.Slots.map aE
abbrev Z17(p0:aS):=p0.Desk.Tree.Slots.map aE
abbrev Z18:List D:=[.lit .nilFunc]
abbrev Z19:List D:=[.lit (.int .u64 0),.lit (.int .u64 0),.lit (.int .u32 0),.lit (.int .u8 0),.lit (.int .u8 0),.lit (.int .u8 0),.lit (.int .u8 0),.lit .nilFunc,.lit (.pointer none),.lit (.int .i32 0),.lit (.int .i32 0)]
abbrev Z20(p0:Int)(p1:bZ):=aR p0 Z0 p1.players
abbrev Z21:List D:=[.sl 1 ((([]:List Int)).map aE),.sl 1 ((([]:List Int)).map aE),.sl 1 ((([]:List Int)).map aE),.j 0]
abbrev Z22(p0:aT)(p1:bZ):=aG (aD.mk true (decide (p0.Kind=2)) p0.Rank ((Z4 p0 p1).turn) ((Z4 p0 p1).quit) ((Z4 p0 p1).signed) ((Z4 p0 p1).wild) ((Z4 p0 p1).had))
abbrev Z23:List D:=[.lit (.pointer none)]
abbrev Z24(p0:bT):=p0.Score.Board.Sets.map aU
abbrev Z25(p0:List aC):D:=.sl 5 (p0.map aJ)
abbrev Z26(p0:aS):=p0.Desk.Stages.map bS
abbrev Z27(p0:Nat)(p1:Nat)(p2:aS)(p3:Value)(p4:Value)(p5:Value):=Z1 p0 p1 p2 p3 p4 p5
abbrev Z28(p0:Nat)(p1:Nat)(p2:aS)(p3:Value)(p4:Value)(p5:Value):=Z27 p0 p1 p2 p3 p4 p5
abbrev Z29(p0:Nat)(p1:Nat)(p2:aS)(p3:Value)(p4:Value)(p5:Value):=Z28 p0 p1 p2 p3 p4 p5
abbrev Z30(p0:Nat)(p1:Nat)(p2:aS)(p3:Value)(p4:Value)(p5:Value):=Z29 p0 p1 p2 p3 p4 p5
abbrev Z31(p0:Nat)(p1:Nat)(p2:aS)(p3:Value)(p4:Value)(p5:Value):=Z30 p0 p1 p2 p3 p4 p5
abbrev Z32(p0:Nat)(p1:Nat)(p2:aS)(p3:Value)(p4:Value)(p5:Value):=Z31 p0 p1 p2 p3 p4 p5
abbrev Z33(p0:Nat)(p1:Nat)(p2:aS)(p3:Value)(p4:Value)(p5:Value):=Z32 p0 p1 p2 p3 p4 p5
abbrev Z34(p0:Nat)(p1:Nat)(p2:aS)(p3:Value)(p4:Value)(p5:Value):=Z33 p0 p1 p2 p3 p4 p5
abbrev Z35(p0:Nat)(p1:Nat)(p2:aS)(p3:Value)(p4:Value)(p5:Value):=Z34 p0 p1 p2 p3 p4 p5
abbrev Z36(p0:Nat)(p1:Nat)(p2:aS)(p3:Value)(p4:Value)(p5:Value):=Z35 p0 p1 p2 p3 p4 p5
abbrev Z37(p0:Nat)(p1:Nat)(p2:aS)(p3:Value)(p4:Value)(p5:Value):=Z36 p0 p1 p2 p3 p4 p5
abbrev Z38(p0:Nat)(p1:Nat)(p2:aS)(p3:Value)(p4:Value)(p5:Value):=Z37 p0 p1 p2 p3 p4 p5
abbrev Z39(p0:Nat)(p1:Nat)(p2:aS)(p3:Value)(p4:Value)(p5:Value):=Z38 p0 p1 p2 p3 p4 p5
abbrev Z40(p0:Nat)(p1:Nat)(p2:aS)(p3:Value)(p4:Value)(p5:Value):=Z39 p0 p1 p2 p3 p4 p5
abbrev Z41(p0:Nat)(p1:Nat)(p2:aS)(p3:Value)(p4:Value)(p5:Value):=Z40 p0 p1 p2 p3 p4 p5
abbrev Z42(p0:Nat)(p1:Nat)(p2:aS)(p3:Value)(p4:Value)(p5:Value):=Z41 p0 p1 p2 p3 p4 p5
abbrev Z43(p0:Nat)(p1:Nat)(p2:aS)(p3:Value)(p4:Value)(p5:Value):=Z42 p0 p1 p2 p3 p4 p5
abbrev Z44(p0:Nat)(p1:Nat)(p2:aS)(p3:Value)(p4:Value)(p5:Value):=Z43 p0 p1 p2 p3 p4 p5
abbrev Z45(p0:Nat)(p1:Nat)(p2:aS)(p3:Value)(p4:Value)(p5:Value):=Z44 p0 p1 p2 p3 p4 p5
abbrev Z46(p0:Nat)(p1:Nat)(p2:aS)(p3:Value)(p4:Value)(p5:Value):=Z45 p0 p1 p2 p3 p4 p5
abbrev Z47(p0:Nat)(p1:Nat)(p2:aS)(p3:Value)(p4:Value)(p5:Value):=Z46 p0 p1 p2 p3 p4 p5
abbrev Z48(p0:Nat)(p1:Nat)(p2:aS)(p3:Value)(p4:Value)(p5:Value):=Z47 p0 p1 p2 p3 p4 p5
abbrev Z49(p0:Nat)(p1:Nat)(p2:aS)(p3:Value)(p4:Value)(p5:Value):=Z48 p0 p1 p2 p3 p4 p5
abbrev Z50(p0:Nat)(p1:Nat)(p2:aS)(p3:Value)(p4:Value)(p5:Value):=Z49 p0 p1 p2 p3 p4 p5
abbrev Z51(p0:Nat)(p1:Nat)(p2:aS)(p3:Value)(p4:Value)(p5:Value):=Z50 p0 p1 p2 p3 p4 p5
abbrev Z52(p0:Nat)(p1:Nat)(p2:aS)(p3:Value)(p4:Value)(p5:Value):=Z51 p0 p1 p2 p3 p4 p5
abbrev Z53(p0:Nat)(p1:Nat)(p2:aS)(p3:Value)(p4:Value)(p5:Value):=Z52 p0 p1 p2 p3 p4 p5
abbrev Z54(p0:Nat)(p1:Nat)(p2:aS)(p3:Value)(p4:Value)(p5:Value):=Z53 p0 p1 p2 p3 p4 p5
abbrev Z55(p0:Nat)(p1:Nat)(p2:aS)(p3:Value)(p4:Value)(p5:Value):=Z54 p0 p1 p2 p3 p4 p5
abbrev Z56(p0:Nat)(p1:Nat)(p2:aS)(p3:Value)(p4:Value)(p5:Value):=Z55 p0 p1 p2 p3 p4 p5
abbrev Z57(p0:Nat)(p1:Nat)(p2:aS)(p3:Value)(p4:Value)(p5:Value):=Z56 p0 p1 p2 p3 p4 p5
abbrev Z58(p0:Nat)(p1:Nat)(p2:aS)(p3:Value)(p4:Value)(p5:Value):=Z57 p0 p1 p2 p3 p4 p5
abbrev Z59(p0:Nat)(p1:Nat)(p2:aS)(p3:Value)(p4:Value)(p5:Value):=Z58 p0 p1 p2 p3 p4 p5
abbrev Z60(p0:Nat)(p1:Nat)(p2:aS)(p3:Value)(p4:Value)(p5:Value):=Z59 p0 p1 p2 p3 p4 p5
abbrev Z61(p0:Nat)(p1:Nat)(p2:aS)(p3:Value)(p4:Value)(p5:Value):=Z60 p0 p1 p2 p3 p4 p5
abbrev Z62(p0:Nat)(p1:Nat)(p2:aS)(p3:Value)(p4:Value)(p5:Value):=Z61 p0 p1 p2 p3 p4 p5
abbrev Z63(p0:Nat)(p1:Nat)(p2:aS)(p3:Value)(p4:Value)(p5:Value):=Z62 p0 p1 p2 p3 p4 p5
abbrev Z64(p0:Nat)(p1:Nat)(p2:aS)(p3:Value)(p4:Value)(p5:Value):=Z63 p0 p1 p2 p3 p4 p5
abbrev Z65(p0:Nat)(p1:Nat)(p2:aS)(p3:Value)(p4:Value)(p5:Value):=Z64 p0 p1 p2 p3 p4 p5
abbrev Z66(p0:Nat)(p1:Nat)(p2:aS)(p3:Value)(p4:Value)(p5:Value):=Z65 p0 p1 p2 p3 p4 p5
abbrev Z67(p0:Nat)(p1:Nat)(p2:aS)(p3:Value)(p4:Value)(p5:Value):=Z66 p0 p1 p2 p3 p4 p5
abbrev Z68(p0:Nat)(p1:Nat)(p2:aS)(p3:Value)(p4:Value)(p5:Value):=Z67 p0 p1 p2 p3 p4 p5
abbrev Z69(p0:Nat)(p1:Nat)(p2:aS)(p3:Value)(p4:Value)(p5:Value):=Z68 p0 p1 p2 p3 p4 p5
abbrev Z70(p0:Nat)(p1:Nat)(p2:aS)(p3:Value)(p4:Value)(p5:Value):=Z69 p0 p1 p2 p3 p4 p5
abbrev Z71(p0:Nat)(p1:Nat)(p2:aS)(p3:Value)(p4:Value)(p5:Value):=Z70 p0 p1 p2 p3 p4 p5
abbrev Z72(p0:Nat)(p1:Nat)(p2:aS)(p3:Value)(p4:Value)(p5:Value):=Z71 p0 p1 p2 p3 p4 p5
abbrev Z73(p0:Nat)(p1:Nat)(p2:aS)(p3:Value)(p4:Value)(p5:Value):=Z72 p0 p1 p2 p3 p4 p5
abbrev Z74(p0:Nat)(p1:Nat)(p2:aS)(p3:Value)(p4:Value)(p5:Value):=Z73 p0 p1 p2 p3 p4 p5
abbrev Z75(p0:Nat)(p1:Nat)(p2:aS)(p3:Value)(p4:Value)(p5:Value):=Z74 p0 p1 p2 p3 p4 p5
abbrev Z76(p0:Nat)(p1:Nat)(p2:aS)(p3:Value)(p4:Value)(p5:Value):=Z75 p0 p1 p2 p3 p4 p5
abbrev Z77(p0:Nat)(p1:Nat)(p2:aS)(p3:Value)(p4:Value)(p5:Value):=Z76 p0 p1 p2 p3 p4 p5
abbrev Z78(p0:Nat)(p1:Nat)(p2:aS)(p3:Value)(p4:Value)(p5:Value):=Z77 p0 p1 p2 p3 p4 p5
abbrev Z79(p0:Nat)(p1:Nat)(p2:aS)(p3:Value)(p4:Value)(p5:Value):=Z78 p0 p1 p2 p3 p4 p5
abbrev Z80(p0:Nat)(p1:Nat)(p2:aS)(p3:Value)(p4:Value)(p5:Value):=Z79 p0 p1 p2 p3 p4 p5
abbrev Z81(p0:Nat)(p1:Nat)(p2:aS)(p3:Value)(p4:Value)(p5:Value):=Z80 p0 p1 p2 p3 p4 p5
abbrev Z82(p0:Nat)(p1:Nat)(p2:aS)(p3:Value)(p4:Value)(p5:Value):=Z81 p0 p1 p2 p3 p4 p5
abbrev Z83(p0:Nat)(p1:Nat)(p2:aS)(p3:Value)(p4:Value)(p5:Value):=Z82 p0 p1 p2 p3 p4 p5
abbrev Z84(p0:Nat)(p1:Nat)(p2:aS)(p3:Value)(p4:Value)(p5:Value):=Z83 p0 p1 p2 p3 p4 p5
abbrev Z85(p0:Nat)(p1:Nat)(p2:aS)(p3:Value)(p4:Value)(p5:Value):=Z84 p0 p1 p2 p3 p4 p5
abbrev Z86(p0:Nat)(p1:Nat)(p2:aS)(p3:Value)(p4:Value)(p5:Value):=Z85 p0 p1 p2 p3 p4 p5
abbrev Z87(p0:Nat)(p1:Nat)(p2:aS)(p3:Value)(p4:Value)(p5:Value):=Z86 p0 p1 p2 p3 p4 p5
abbrev Z88(p0:Nat)(p1:Nat)(p2:aS)(p3:Value)(p4:Value)(p5:Value):=Z87 p0 p1 p2 p3 p4 p5
abbrev Z89(p0:Nat)(p1:Nat)(p2:aS)(p3:Value)(p4:Value)(p5:Value):=Z88 p0 p1 p2 p3 p4 p5
abbrev Z90(p0:Nat)(p1:Nat)(p2:aS)(p3:Value)(p4:Value)(p5:Value):=Z89 p0 p1 p2 p3 p4 p5
abbrev Z91(p0:Nat)(p1:Nat)(p2:aS)(p3:Value)(p4:Value)(p5:Value):=Z90 p0 p1 p2 p3 p4 p5
abbrev Z92(p0:Nat)(p1:Nat)(p2:aS)(p3:Value)(p4:Value)(p5:Value):=Z91 p0 p1 p2 p3 p4 p5
abbrev Z93(p0:Nat)(p1:Nat)(p2:aS)(p3:Value)(p4:Value)(p5:Value):=Z92 p0 p1 p2 p3 p4 p5
abbrev Z94(p0:Nat)(p1:Nat)(p2:aS)(p3:Value)(p4:Value)(p5:Value):=Z93 p0 p1 p2 p3 p4 p5
abbrev Z95(p0:Nat)(p1:Nat)(p2:aS)(p3:Value)(p4:Value)(p5:Value):=Z94 p0 p1 p2 p3 p4 p5
abbrev Z96(p0:Nat)(p1:Nat)(p2:aS)(p3:Value)(p4:Value)(p5:Value):=Z95 p0 p1 p2 p3 p4 p5
abbrev Z97(p0:Nat)(p1:Nat)(p2:aS)(p3:Value)(p4:Value)(p5:Value):=Z96 p0 p1 p2 p3 p4 p5
abbrev Z98(p0:Nat)(p1:Nat)(p2:aS)(p3:Value)(p4:Value)(p5:Value):=Z97 p0 p1 p2 p3 p4 p5
abbrev Z99(p0:Nat)(p1:Nat)(p2:aS)(p3:Value)(p4:Value)(p5:Value):=Z98 p0 p1 p2 p3 p4 p5
abbrev Z100(p0:Nat)(p1:Nat)(p2:aS)(p3:Value)(p4:Value)(p5:Value):=Z99 p0 p1 p2 p3 p4 p5
abbrev Z101(p0:Nat)(p1:Nat)(p2:aS)(p3:Value)(p4:Value)(p5:Value):=Z100 p0 p1 p2 p3 p4 p5
abbrev Z102(p0:Nat)(p1:Nat)(p2:aS)(p3:Value)(p4:Value)(p5:Value):=Z101 p0 p1 p2 p3 p4 p5
abbrev Z103(p0:Nat)(p1:Nat)(p2:aS)(p3:Value)(p4:Value)(p5:Value):=Z102 p0 p1 p2 p3 p4 p5
abbrev Z104(p0:Nat)(p1:Nat)(p2:aS)(p3:Value)(p4:Value)(p5:Value):=Z103 p0 p1 p2 p3 p4 p5
abbrev Z105(p0:Nat)(p1:Nat)(p2:aS)(p3:Value)(p4:Value)(p5:Value):=Z104 p0 p1 p2 p3 p4 p5
abbrev Z106(p0:Nat)(p1:Nat)(p2:aS)(p3:Value)(p4:Value)(p5:Value):=Z105 p0 p1 p2 p3 p4 p5
abbrev Z107(p0:Nat)(p1:Nat)(p2:aS)(p3:Value)(p4:Value)(p5:Value):=Z106 p0 p1 p2 p3 p4 p5
abbrev Z108(p0:Nat)(p1:Nat)(p2:aS)(p3:Value)(p4:Value)(p5:Value):=Z107 p0 p1 p2 p3 p4 p5
abbrev Z109(p0:Nat)(p1:Nat)(p2:aS)(p3:Value)(p4:Value)(p5:Value):=Z108 p0 p1 p2 p3 p4 p5
abbrev Z110(p0:Nat)(p1:Nat)(p2:aS)(p3:Value)(p4:Value)(p5:Value):=Z109 p0 p1 p2 p3 p4 p5
abbrev Z111(p0:Nat)(p1:Nat)(p2:aS)(p3:Value)(p4:Value)(p5:Value):=Z110 p0 p1 p2 p3 p4 p5
abbrev Z112(p0:Nat)(p1:Nat)(p2:aS)(p3:Value)(p4:Value)(p5:Value):=Z111 p0 p1 p2 p3 p4 p5
abbrev Z113(p0:Nat)(p1:Nat)(p2:aS)(p3:Value)(p4:Value)(p5:Value):=Z112 p0 p1 p2 p3 p4 p5
abbrev Z114(p0:Nat)(p1:Nat)(p2:aS)(p3:Value)(p4:Value)(p5:Value):=Z113 p0 p1 p2 p3 p4 p5
abbrev Z115(p0:Nat)(p1:Nat)(p2:aS)(p3:Value)(p4:Value)(p5:Value):=Z114 p0 p1 p2 p3 p4 p5
abbrev Z116(p0:Nat)(p1:Nat)(p2:aS)(p3:Value)(p4:Value)(p5:Value):=Z115 p0 p1 p2 p3 p4 p5
abbrev Z117(p0:Nat)(p1:Nat)(p2:aS)(p3:Value)(p4:Value)(p5:Value):=Z116 p0 p1 p2 p3 p4 p5
abbrev Z118(p0:Nat)(p1:Nat)(p2:aS)(p3:Value)(p4:Value)(p5:Value):=Z117 p0 p1 p2 p3 p4 p5
abbrev Z119(p0:Nat)(p1:Nat)(p2:aS)(p3:Value)(p4:Value)(p5:Value):=Z118 p0 p1 p2 p3 p4 p5
abbrev Z120(p0:Nat)(p1:Nat)(p2:aS)(p3:Value)(p4:Value)(p5:Value):=Z119 p0 p1 p2 p3 p4 p5
abbrev Z121(p0:Nat)(p1:Nat)(p2:aS)(p3:Value)(p4:Value)(p5:Value):=Z120 p0 p1 p2 p3 p4 p5
abbrev Z122(p0:Nat)(p1:Nat)(p2:aS)(p3:Value)(p4:Value)(p5:Value):=Z121 p0 p1 p2 p3 p4 p5
abbrev Z123(p0:Nat)(p1:Nat)(p2:aS)(p3:Value)(p4:Value)(p5:Value):=Z122 p0 p1 p2 p3 p4 p5
abbrev Z124(p0:Nat)(p1:Nat)(p2:aS)(p3:Value)(p4:Value)(p5:Value):=Z123 p0 p1 p2 p3 p4 p5
abbrev Z125(p0:Nat)(p1:Nat)(p2:aS)(p3:Value)(p4:Value)(p5:Value):=Z124 p0 p1 p2 p3 p4 p5
abbrev Z126(p0:Nat)(p1:Nat)(p2:aS)(p3:Value)(p4:Value)(p5:Value):=Z125 p0 p1 p2 p3 p4 p5
abbrev Z127(p0:Nat)(p1:Nat)(p2:aS)(p3:Value)(p4:Value)(p5:Value):=Z126 p0 p1 p2 p3 p4 p5
abbrev Z128(p0:Nat)(p1:Nat)(p2:aS)(p3:Value)(p4:Value)(p5:Value):=Z127 p0 p1 p2 p3 p4 p5
abbrev Z129(p0:Nat)(p1:Nat)(p2:aS)(p3:Value)(p4:Value)(p5:Value):=Z128 p0 p1 p2 p3 p4 p5
abbrev Z130(p0:Nat)(p1:Nat)(p2:aS)(p3:Value)(p4:Value)(p5:Value):=Z129 p0 p1 p2 p3 p4 p5
abbrev Z131(p0:Nat)(p1:Nat)(p2:aS)(p3:Value)(p4:Value)(p5:Value):=Z130 p0 p1 p2 p3 p4 p5
abbrev Z132(p0:Nat)(p1:Nat)(p2:aS)(p3:Value)(p4:Value)(p5:Value):=Z131 p0 p1 p2 p3 p4 p5
abbrev Z133(p0:Nat)(p1:Nat)(p2:aS)(p3:Value)(p4:Value)(p5:Value):=Z132 p0 p1 p2 p3 p4 p5
abbrev Z134(p0:Nat)(p1:Nat)(p2:aS)(p3:Value)(p4:Value)(p5:Value):=Z133 p0 p1 p2 p3 p4 p5
abbrev Z135(p0:Nat)(p1:Nat)(p2:aS)(p3:Value)(p4:Value)(p5:Value):=Z134 p0 p1 p2 p3 p4 p5
abbrev Z136(p0:Nat)(p1:Nat)(p2:aS)(p3:Value)(p4:Value)(p5:Value):=Z135 p0 p1 p2 p3 p4 p5
abbrev Z137(p0:Nat)(p1:Nat)(p2:aS)(p3:Value)(p4:Value)(p5:Value):=Z136 p0 p1 p2 p3 p4 p5
abbrev Z138(p0:Nat)(p1:Nat)(p2:aS)(p3:Value)(p4:Value)(p5:Value):=Z137 p0 p1 p2 p3 p4 p5
abbrev Z139(p0:Nat)(p1:Nat)(p2:aS)(p3:Value)(p4:Value)(p5:Value):=Z138 p0 p1 p2 p3 p4 p5
abbrev Z140(p0:Nat)(p1:Nat)(p2:aS)(p3:Value)(p4:Value)(p5:Value):=Z139 p0 p1 p2 p3 p4 p5
abbrev Z141(p0:Nat)(p1:Nat)(p2:aS)(p3:Value)(p4:Value)(p5:Value):=Z140 p0 p1 p2 p3 p4 p5
abbrev Z142(p0:Nat)(p1:Nat)(p2:aS)(p3:Value)(p4:Value)(p5:Value):=Z141 p0 p1 p2 p3 p4 p5
abbrev Z143(p0:Nat)(p1:Nat)(p2:aS)(p3:Value)(p4:Value)(p5:Value):=Z142 p0 p1 p2 p3 p4 p5
abbrev Z144(p0:Nat)(p1:Nat)(p2:aS)(p3:Value)(p4:Value)(p5:Value):=Z143 p0 p1 p2 p3 p4 p5
abbrev Z145(p0:Nat)(p1:Nat)(p2:aS)(p3:Value)(p4:Value)(p5:Value):=Z144 p0 p1 p2 p3 p4 p5
abbrev Z146(p0:Nat)(p1:Nat)(p2:aS)(p3:Value)(p4:Value)(p5:Value):=Z145 p0 p1 p2 p3 p4 p5
abbrev Z147(p0:Nat)(p1:Nat)(p2:aS)(p3:Value)(p4:Value)(p5:Value):=Z146 p0 p1 p2 p3 p4 p5
abbrev Z148(p0:Nat)(p1:Nat)(p2:aS)(p3:Value)(p4:Value)(p5:Value):=Z147 p0 p1 p2 p3 p4 p5
abbrev Z149(p0:Nat)(p1:Nat)(p2:aS)(p3:Value)(p4:Value)(p5:Value):=Z148 p0 p1 p2 p3 p4 p5
abbrev Z150(p0:Nat)(p1:Nat)(p2:aS)(p3:Value)(p4:Value)(p5:Value):=Z149 p0 p1 p2 p3 p4 p5
abbrev Z151(p0:Nat)(p1:Nat)(p2:aS)(p3:Value)(p4:Value)(p5:Value):=Z150 p0 p1 p2 p3 p4 p5
abbrev Z152(p0:Nat)(p1:Nat)(p2:aS)(p3:Value)(p4:Value)(p5:Value):=Z151 p0 p1 p2 p3 p4 p5
abbrev Z153(p0:Nat)(p1:Nat)(p2:aS)(p3:Value)(p4:Value)(p5:Value):=Z152 p0 p1 p2 p3 p4 p5
abbrev Z154(p0:Nat)(p1:Nat)(p2:aS)(p3:Value)(p4:Value)(p5:Value):=Z153 p0 p1 p2 p3 p4 p5
abbrev Z155(p0:Nat)(p1:Nat)(p2:aS)(p3:Value)(p4:Value)(p5:Value):=Z154 p0 p1 p2 p3 p4 p5
abbrev Z156(p0:Nat)(p1:Nat)(p2:aS)(p3:Value)(p4:Value)(p5:Value):=Z155 p0 p1 p2 p3 p4 p5
abbrev Z157(p0:Nat)(p1:Nat)(p2:aS)(p3:Value)(p4:Value)(p5:Value):=Z156 p0 p1 p2 p3 p4 p5
abbrev Z158(p0:Nat)(p1:Nat)(p2:aS)(p3:Value)(p4:Value)(p5:Value):=Z157 p0 p1 p2 p3 p4 p5
abbrev Z159(p0:Nat)(p1:Nat)(p2:aS)(p3:Value)(p4:Value)(p5:Value):=Z158 p0 p1 p2 p3 p4 p5
abbrev Z160(p0:Nat)(p1:Nat)(p2:aS)(p3:Value)(p4:Value)(p5:Value):=Z159 p0 p1 p2 p3 p4 p5
abbrev Z161(p0:Nat)(p1:Nat)(p2:aS)(p3:Value)(p4:Value)(p5:Value):=Z160 p0 p1 p2 p3 p4 p5
abbrev Z162(p0:Nat)(p1:Nat)(p2:aS)(p3:Value)(p4:Value)(p5:Value):=Z161 p0 p1 p2 p3 p4 p5
abbrev Z163(p0:Nat)(p1:Nat)(p2:aS)(p3:Value)(p4:Value)(p5:Value):=Z162 p0 p1 p2 p3 p4 p5
abbrev Z164(p0:Nat)(p1:Nat)(p2:aS)(p3:Value)(p4:Value)(p5:Value):=Z163 p0 p1 p2 p3 p4 p5
abbrev Z165(p0:Nat)(p1:Nat)(p2:aS)(p3:Value)(p4:Value)(p5:Value):=Z164 p0 p1 p2 p3 p4 p5
abbrev Z166(p0:Nat)(p1:Nat)(p2:aS)(p3:Value)(p4:Value)(p5:Value):=Z165 p0 p1 p2 p3 p4 p5
abbrev Z167(p0:Nat)(p1:Nat)(p2:aS)(p3:Value)(p4:Value)(p5:Value):=Z166 p0 p1 p2 p3 p4 p5
abbrev Z168(p0:Nat)(p1:Nat)(p2:aS)(p3:Value)(p4:Value)(p5:Value):=Z167 p0 p1 p2 p3 p4 p5
abbrev Z169(p0:Nat)(p1:Nat)(p2:aS)(p3:Value)(p4:Value)(p5:Value):=Z168 p0 p1 p2 p3 p4 p5
abbrev Z170(p0:Nat)(p1:Nat)(p2:aS)(p3:Value)(p4:Value)(p5:Value):=Z169 p0 p1 p2 p3 p4 p5
abbrev Z171(p0:Nat)(p1:Nat)(p2:aS)(p3:Value)(p4:Value)(p5:Value):=Z170 p0 p1 p2 p3 p4 p5
abbrev Z172(p0:Nat)(p1:Nat)(p2:aS)(p3:Value)(p4:Value)(p5:Value):=Z171 p0 p1 p2 p3 p4 p5
abbrev Z173(p0:Nat)(p1:Nat)(p2:aS)(p3:Value)(p4:Value)(p5:Value):=Z172 p0 p1 p2 p3 p4 p5
abbrev Z174(p0:Nat)(p1:Nat)(p2:aS)(p3:Value)(p4:Value)(p5:Value):=Z173 p0 p1 p2 p3 p4 p5
abbrev Z175(p0:Nat)(p1:Nat)(p2:aS)(p3:Value)(p4:Value)(p5:Value):=Z174 p0 p1 p2 p3 p4 p5
abbrev Z176(p0:Nat)(p1:Nat)(p2:aS)(p3:Value)(p4:Value)(p5:Value):=Z175 p0 p1 p2 p3 p4 p5
abbrev Z177(p0:Nat)(p1:Nat)(p2:aS)(p3:Value)(p4:Value)(p5:Value):=Z176 p0 p1 p2 p3 p4 p5
abbrev Z178(p0:Nat)(p1:Nat)(p2:aS)(p3:Value)(p4:Value)(p5:Value):=Z177 p0 p1 p2 p3 p4 p5
abbrev Z179(p0:Nat)(p1:Nat)(p2:aS)(p3:Value)(p4:Value)(p5:Value):=Z178 p0 p1 p2 p3 p4 p5
abbrev Z180(p0:Nat)(p1:Nat)(p2:aS)(p3:Value)(p4:Value)(p5:Value):=Z179 p0 p1 p2 p3 p4 p5
abbrev Z181(p0:Nat)(p1:Nat)(p2:aS)(p3:Value)(p4:Value)(p5:Value):=Z180 p0 p1 p2 p3 p4 p5
abbrev Z182(p0:Nat)(p1:Nat)(p2:aS)(p3:Value)(p4:Value)(p5:Value):=Z181 p0 p1 p2 p3 p4 p5
abbrev Z183(p0:Nat)(p1:Nat)(p2:aS)(p3:Value)(p4:Value)(p5:Value):=Z182 p0 p1 p2 p3 p4 p5
abbrev Z184(p0:Nat)(p1:Nat)(p2:aS)(p3:Value)(p4:Value)(p5:Value):=Z183 p0 p1 p2 p3 p4 p5
abbrev Z185(p0:Nat)(p1:Nat)(p2:aS)(p3:Value)(p4:Value)(p5:Value):=Z184 p0 p1 p2 p3 p4 p5
abbrev Z186(p0:Nat)(p1:Nat)(p2:aS)(p3:Value)(p4:Value)(p5:Value):=Z185 p0 p1 p2 p3 p4 p5
abbrev Z187(p0:Nat)(p1:Nat)(p2:aS)(p3:Value)(p4:Value)(p5:Value):=Z186 p0 p1 p2 p3 p4 p5
abbrev Z188(p0:Nat)(p1:Nat)(p2:aS)(p3:Value)(p4:Value)(p5:Value):=Z187 p0 p1 p2 p3 p4 p5
abbrev Z189(p0:Nat)(p1:Nat)(p2:aS)(p3:Value)(p4:Value)(p5:Value):=Z188 p0 p1 p2 p3 p4 p5
abbrev Z190(p0:Nat)(p1:Nat)(p2:aS)(p3:Value)(p4:Value)(p5:Value):=Z189 p0 p1 p2 p3 p4 p5
abbrev Z191(p0:Nat)(p1:Nat)(p2:aS)(p3:Value)(p4:Value)(p5:Value):=Z190 p0 p1 p2 p3 p4 p5
abbrev Z192(p0:Nat)(p1:Nat)(p2:aS)(p3:Value)(p4:Value)(p5:Value):=Z191 p0 p1 p2 p3 p4 p5
abbrev Z193(p0:Nat)(p1:Nat)(p2:aS)(p3:Value)(p4:Value)(p5:Value):=Z192 p0 p1 p2 p3 p4 p5
abbrev Z194(p0:Nat)(p1:Nat)(p2:aS)(p3:Value)(p4:Value)(p5:Value):=Z193 p0 p1 p2 p3 p4 p5
abbrev Z195(p0:Nat)(p1:Nat)(p2:aS)(p3:Value)(p4:Value)(p5:Value):=Z194 p0 p1 p2 p3 p4 p5
abbrev Z196(p0:Nat)(p1:Nat)(p2:aS)(p3:Value)(p4:Value)(p5:Value):=Z195 p0 p1 p2 p3 p4 p5
abbrev Z197(p0:Nat)(p1:Nat)(p2:aS)(p3:Value)(p4:Value)(p5:Value):=Z196 p0 p1 p2 p3 p4 p5
abbrev Z198(p0:Nat)(p1:Nat)(p2:aS)(p3:Value)(p4:Value)(p5:Value):=Z197 p0 p1 p2 p3 p4 p5
abbrev Z199(p0:Nat)(p1:Nat)(p2:aS)(p3:Value)(p4:Value)(p5:Value):=Z198 p0 p1 p2 p3 p4 p5
abbrev Z200(p0:Nat)(p1:Nat)(p2:aS)(p3:Value)(p4:Value)(p5:Value):=Z199 p0 p1 p2 p3 p4 p5
abbrev Z201(p0:Nat)(p1:Nat)(p2:aS)(p3:Value)(p4:Value)(p5:Value):=Z200 p0 p1 p2 p3 p4 p5
abbrev Z202(p0:Nat)(p1:Nat)(p2:aS)(p3:Value)(p4:Value)(p5:Value):=Z201 p0 p1 p2 p3 p4 p5
abbrev Z203(p0:Nat)(p1:Nat)(p2:aS)(p3:Value)(p4:Value)(p5:Value):=Z202 p0 p1 p2 p3 p4 p5
abbrev Z204(p0:Nat)(p1:Nat)(p2:aS)(p3:Value)(p4:Value)(p5:Value):=Z203 p0 p1 p2 p3 p4 p5
abbrev Z205(p0:Nat)(p1:Nat)(p2:aS)(p3:Value)(p4:Value)(p5:Value):=Z204 p0 p1 p2 p3 p4 p5
abbrev Z206(p0:Nat)(p1:Nat)(p2:aS)(p3:Value)(p4:Value)(p5:Value):=Z205 p0 p1 p2 p3 p4 p5
abbrev Z207(p0:Nat)(p1:Nat)(p2:aS)(p3:Value)(p4:Value)(p5:Value):=Z206 p0 p1 p2 p3 p4 p5
abbrev Z208(p0:Nat)(p1:Nat)(p2:aS)(p3:Value)(p4:Value)(p5:Value):=Z207 p0 p1 p2 p3 p4 p5
abbrev Z209(p0:Nat)(p1:Nat)(p2:aS)(p3:Value)(p4:Value)(p5:Value):=Z208 p0 p1 p2 p3 p4 p5
abbrev Z210(p0:Nat)(p1:Nat)(p2:aS)(p3:Value)(p4:Value)(p5:Value):=Z209 p0 p1 p2 p3 p4 p5
abbrev Z211(p0:Nat)(p1:Nat)(p2:aS)(p3:Value)(p4:Value)(p5:Value):=Z210 p0 p1 p2 p3 p4 p5
abbrev Z212(p0:Nat)(p1:Nat)(p2:aS)(p3:Value)(p4:Value)(p5:Value):=Z211 p0 p1 p2 p3 p4 p5
abbrev Z213(p0:Nat)(p1:Nat)(p2:aS)(p3:Value)(p4:Value)(p5:Value):=Z212 p0 p1 p2 p3 p4 p5
abbrev Z214(p0:Nat)(p1:Nat)(p2:aS)(p3:Value)(p4:Value)(p5:Value):=Z213 p0 p1 p2 p3 p4 p5
abbrev Z215(p0:Nat)(p1:Nat)(p2:aS)(p3:Value)(p4:Value)(p5:Value):=Z214 p0 p1 p2 p3 p4 p5
abbrev Z216(p0:Nat)(p1:Nat)(p2:aS)(p3:Value)(p4:Value)(p5:Value):=Z215 p0 p1 p2 p3 p4 p5
abbrev Z217(p0:Nat)(p1:Nat)(p2:aS)(p3:Value)(p4:Value)(p5:Value):=Z216 p0 p1 p2 p3 p4 p5
abbrev Z218(p0:Nat)(p1:Nat)(p2:aS)(p3:Value)(p4:Value)(p5:Value):=Z217 p0 p1 p2 p3 p4 p5
abbrev Z219(p0:Nat)(p1:Nat)(p2:aS)(p3:Value)(p4:Value)(p5:Value):=Z218 p0 p1 p2 p3 p4 p5
abbrev Z220(p0:Nat)(p1:Nat)(p2:aS)(p3:Value)(p4:Value)(p5:Value):=Z219 p0 p1 p2 p3 p4 p5
abbrev Z221(p0:Nat)(p1:Nat)(p2:aS)(p3:Value)(p4:Value)(p5:Value):=Z220 p0 p1 p2 p3 p4 p5
abbrev Z222(p0:Nat)(p1:Nat)(p2:aS)(p3:Value)(p4:Value)(p5:Value):=Z221 p0 p1 p2 p3 p4 p5
abbrev Z223(p0:Nat)(p1:Nat)(p2:aS)(p3:Value)(p4:Value)(p5:Value):=Z222 p0 p1 p2 p3 p4 p5
abbrev Z224(p0:Nat)(p1:Nat)(p2:aS)(p3:Value)(p4:Value)(p5:Value):=Z223 p0 p1 p2 p3 p4 p5
abbrev Z225(p0:Nat)(p1:Nat)(p2:aS)(p3:Value)(p4:Value)(p5:Value):=Z224 p0 p1 p2 p3 p4 p5
abbrev Z226(p0:Nat)(p1:Nat)(p2:aS)(p3:Value)(p4:Value)(p5:Value):=Z225 p0 p1 p2 p3 p4 p5
abbrev Z227(p0:Nat)(p1:Nat)(p2:aS)(p3:Value)(p4:Value)(p5:Value):=Z226 p0 p1 p2 p3 p4 p5
abbrev Z228(p0:Nat)(p1:Nat)(p2:aS)(p3:Value)(p4:Value)(p5:Value):=Z227 p0 p1 p2 p3 p4 p5
abbrev Z229(p0:Nat)(p1:Nat)(p2:aS)(p3:Value)(p4:Value)(p5:Value):=Z228 p0 p1 p2 p3 p4 p5
abbrev Z230(p0:Nat)(p1:Nat)(p2:aS)(p3:Value)(p4:Value)(p5:Value):=Z229 p0 p1 p2 p3 p4 p5
abbrev Z231(p0:Nat)(p1:Nat)(p2:aS)(p3:Value)(p4:Value)(p5:Value):=Z230 p0 p1 p2 p3 p4 p5
abbrev Z232(p0:Nat)(p1:Nat)(p2:aS)(p3:Value)(p4:Value)(p5:Value):=Z231 p0 p1 p2 p3 p4 p5
abbrev Z233(p0:Nat)(p1:Nat)(p2:aS)(p3:Value)(p4:Value)(p5:Value):=Z232 p0 p1 p2 p3 p4 p5
abbrev Z234(p0:Nat)(p1:Nat)(p2:aS)(p3:Value)(p4:Value)(p5:Value):=Z233 p0 p1 p2 p3 p4 p5
abbrev Z235(p0:Nat)(p1:Nat)(p2:aS)(p3:Value)(p4:Value)(p5:Value):=Z234 p0 p1 p2 p3 p4 p5
abbrev Z236(p0:Nat)(p1:Nat)(p2:aS)(p3:Value)(p4:Value)(p5:Value):=Z235 p0 p1 p2 p3 p4 p5
abbrev Z237(p0:Nat)(p1:Nat)(p2:aS)(p3:Value)(p4:Value)(p5:Value):=Z236 p0 p1 p2 p3 p4 p5
abbrev Z238(p0:Nat)(p1:Nat)(p2:aS)(p3:Value)(p4:Value)(p5:Value):=Z237 p0 p1 p2 p3 p4 p5
abbrev Z239(p0:Nat)(p1:Nat)(p2:aS)(p3:Value)(p4:Value)(p5:Value):=Z238 p0 p1 p2 p3 p4 p5
abbrev Z240(p0:Nat)(p1:Nat)(p2:aS)(p3:Value)(p4:Value)(p5:Value):=Z239 p0 p1 p2 p3 p4 p5
abbrev Z241(p0:Nat)(p1:Nat)(p2:aS)(p3:Value)(p4:Value)(p5:Value):=Z240 p0 p1 p2 p3 p4 p5
abbrev Z242(p0:Nat)(p1:Nat)(p2:aS)(p3:Value)(p4:Value)(p5:Value):=Z241 p0 p1 p2 p3 p4 p5
abbrev Z243(p0:Nat)(p1:Nat)(p2:aS)(p3:Value)(p4:Value)(p5:Value):=Z242 p0 p1 p2 p3 p4 p5
abbrev Z244(p0:Nat)(p1:Nat)(p2:aS)(p3:Value)(p4:Value)(p5:Value):=Z243 p0 p1 p2 p3 p4 p5
abbrev Z245(p0:Nat)(p1:Nat)(p2:aS)(p3:Value)(p4:Value)(p5:Value):=Z244 p0 p1 p2 p3 p4 p5
abbrev Z246(p0:Nat)(p1:Nat)(p2:aS)(p3:Value)(p4:Value)(p5:Value):=Z245 p0 p1 p2 p3 p4 p5
abbrev Z247(p0:Nat)(p1:Nat)(p2:aS)(p3:Value)(p4:Value)(p5:Value):=Z246 p0 p1 p2 p3 p4 p5
abbrev Z248(p0:Nat)(p1:Nat)(p2:aS)(p3:Value)(p4:Value)(p5:Value):=Z247 p0 p1 p2 p3 p4 p5
abbrev Z249(p0:Nat)(p1:Nat)(p2:aS)(p3:Value)(p4:Value)(p5:Value):=Z248 p0 p1 p2 p3 p4 p5
abbrev Z250(p0:Nat)(p1:Nat)(p2:aS)(p3:Value)(p4:Value)(p5:Value):=Z249 p0 p1 p2 p3 p4 p5
abbrev Z251(p0:Nat)(p1:Nat)(p2:aS)(p3:Value)(p4:Value)(p5:Value):=Z250 p0 p1 p2 p3 p4 p5
abbrev Z252(p0:Nat)(p1:Nat)(p2:aS)(p3:Value)(p4:Value)(p5:Value):=Z251 p0 p1 p2 p3 p4 p5
abbrev Z253(p0:Nat)(p1:Nat)(p2:aS)(p3:Value)(p4:Value)(p5:Value):=Z252 p0 p1 p2 p3 p4 p5
abbrev Z254(p0:Nat)(p1:Nat)(p2:aS)(p3:Value)(p4:Value)(p5:Value):=Z253 p0 p1 p2 p3 p4 p5
abbrev Z255(p0:Nat)(p1:Nat)(p2:aS)(p3:Value)(p4:Value)(p5:Value):=Z254 p0 p1 p2 p3 p4 p5
abbrev Z256(p0:Nat)(p1:Nat)(p2:aS)(p3:Value)(p4:Value)(p5:Value):=Z255 p0 p1 p2 p3 p4 p5
abbrev Z257(p0:Nat)(p1:Nat)(p2:aS)(p3:Value)(p4:Value)(p5:Value):=Z256 p0 p1 p2 p3 p4 p5
abbrev Z258(p0:Nat)(p1:Nat)(p2:aS)(p3:Value)(p4:Value)(p5:Value):=Z257 p0 p1 p2 p3 p4 p5
abbrev Z259(p0:Nat)(p1:Nat)(p2:aS)(p3:Value)(p4:Value)(p5:Value):=Z258 p0 p1 p2 p3 p4 p5
abbrev Z260(p0:Nat)(p1:Nat)(p2:aS)(p3:Value)(p4:Value)(p5:Value):=Z259 p0 p1 p2 p3 p4 p5
abbrev Z261(p0:Nat)(p1:Nat)(p2:aS)(p3:Value)(p4:Value)(p5:Value):=Z260 p0 p1 p2 p3 p4 p5
abbrev Z262(p0:Nat)(p1:Nat)(p2:aS)(p3:Value)(p4:Value)(p5:Value):=Z261 p0 p1 p2 p3 p4 p5
abbrev Z263(p0:Nat)(p1:Nat)(p2:aS)(p3:Value)(p4:Value)(p5:Value):=Z262 p0 p1 p2 p3 p4 p5
abbrev Z264(p0:Nat)(p1:Nat)(p2:aS)(p3:Value)(p4:Value)(p5:Value):=Z263 p0 p1 p2 p3 p4 p5
abbrev Z265(p0:Nat)(p1:Nat)(p2:aS)(p3:Value)(p4:Value)(p5:Value):=Z264 p0 p1 p2 p3 p4 p5
abbrev Z266(p0:Nat)(p1:Nat)(p2:aS)(p3:Value)(p4:Value)(p5:Value):=Z265 p0 p1 p2 p3 p4 p5
abbrev Z267(p0:Nat)(p1:Nat)(p2:aS)(p3:Value)(p4:Value)(p5:Value):=Z266 p0 p1 p2 p3 p4 p5
abbrev Z268(p0:Nat)(p1:Nat)(p2:aS)(p3:Value)(p4:Value)(p5:Value):=Z267 p0 p1 p2 p3 p4 p5
abbrev Z269(p0:Nat)(p1:Nat)(p2:aS)(p3:Value)(p4:Value)(p5:Value):=Z268 p0 p1 p2 p3 p4 p5
abbrev Z270(p0:Nat)(p1:Nat)(p2:aS)(p3:Value)(p4:Value)(p5:Value):=Z269 p0 p1 p2 p3 p4 p5
abbrev Z271(p0:Nat)(p1:Nat)(p2:aS)(p3:Value)(p4:Value)(p5:Value):=Z270 p0 p1 p2 p3 p4 p5
abbrev Z272(p0:Nat)(p1:Nat)(p2:aS)(p3:Value)(p4:Value)(p5:Value):=Z271 p0 p1 p2 p3 p4 p5
abbrev Z273(p0:Nat)(p1:Nat)(p2:aS)(p3:Value)(p4:Value)(p5:Value):=Z272 p0 p1 p2 p3 p4 p5
abbrev Z274(p0:Nat)(p1:Nat)(p2:aS)(p3:Value)(p4:Value)(p5:Value):=Z273 p0 p1 p2 p3 p4 p5
abbrev Z275(p0:Nat)(p1:Nat)(p2:aS)(p3:Value)(p4:Value)(p5:Value):=Z274 p0 p1 p2 p3 p4 p5
abbrev Z276(p0:Nat)(p1:Nat)(p2:aS)(p3:Value)(p4:Value)(p5:Value):=Z275 p0 p1 p2 p3 p4 p5
abbrev Z277(p0:Nat)(p1:Nat)(p2:aS)(p3:Value)(p4:Value)(p5:Value):=Z276 p0 p1 p2 p3 p4 p5
abbrev Z278(p0:Nat)(p1:Nat)(p2:aS)(p3:Value)(p4:Value)(p5:Value):=Z277 p0 p1 p2 p3 p4 p5
abbrev Z279(p0:Nat)(p1:Nat)(p2:aS)(p3:Value)(p4:Value)(p5:Value):=Z278 p0 p1 p2 p3 p4 p5
abbrev Z280(p0:Nat)(p1:Nat)(p2:aS)(p3:Value)(p4:Value)(p5:Value):=Z279 p0 p1 p2 p3 p4 p5
abbrev Z281(p0:Nat)(p1:Nat)(p2:aS)(p3:Value)(p4:Value)(p5:Value):=Z280 p0 p1 p2 p3 p4 p5
abbrev Z282(p0:Nat)(p1:Nat)(p2:aS)(p3:Value)(p4:Value)(p5:Value):=Z281 p0 p1 p2 p3 p4 p5
abbrev Z283(p0:Nat)(p1:Nat)(p2:aS)(p3:Value)(p4:Value)(p5:Value):=Z282 p0 p1 p2 p3 p4 p5
abbrev Z284(p0:Nat)(p1:Nat)(p2:aS)(p3:Value)(p4:Value)(p5:Value):=Z283 p0 p1 p2 p3 p4 p5
abbrev Z285(p0:Nat)(p1:Nat)(p2:aS)(p3:Value)(p4:Value)(p5:Value):=Z284 p0 p1 p2 p3 p4 p5
abbrev Z286(p0:Nat)(p1:Nat)(p2:aS)(p3:Value)(p4:Value)(p5:Value):=Z285 p0 p1 p2 p3 p4 p5
abbrev Z287(p0:Nat)(p1:Nat)(p2:aS)(p3:Value)(p4:Value)(p5:Value):=Z286 p0 p1 p2 p3 p4 p5
abbrev Z288(p0:Nat)(p1:Nat)(p2:aS)(p3:Value)(p4:Value)(p5:Value):=Z287 p0 p1 p2 p3 p4 p5
abbrev Z289(p0:Nat)(p1:Nat)(p2:aS)(p3:Value)(p4:Value)(p5:Value):=Z288 p0 p1 p2 p3 p4 p5
abbrev Z290(p0:Nat)(p1:Nat)(p2:aS)(p3:Value)(p4:Value)(p5:Value):=Z289 p0 p1 p2 p3 p4 p5
abbrev Z291(p0:Nat)(p1:Nat)(p2:aS)(p3:Value)(p4:Value)(p5:Value):=Z290 p0 p1 p2 p3 p4 p5
abbrev Z292(p0:Nat)(p1:Nat)(p2:aS)(p3:Value)(p4:Value)(p5:Value):=Z291 p0 p1 p2 p3 p4 p5
abbrev Z293(p0:Nat)(p1:Nat)(p2:aS)(p3:Value)(p4:Value)(p5:Value):=Z292 p0 p1 p2 p3 p4 p5
abbrev Z294(p0:Nat)(p1:Nat)(p2:aS)(p3:Value)(p4:Value)(p5:Value):=Z293 p0 p1 p2 p3 p4 p5
abbrev Z295(p0:Nat)(p1:Nat)(p2:aS)(p3:Value)(p4:Value)(p5:Value):=Z294 p0 p1 p2 p3 p4 p5
abbrev Z296(p0:Nat)(p1:Nat)(p2:aS)(p3:Value)(p4:Value)(p5:Value):=Z295 p0 p1 p2 p3 p4 p5
abbrev Z297(p0:Nat)(p1:Nat)(p2:aS)(p3:Value)(p4:Value)(p5:Value):=Z296 p0 p1 p2 p3 p4 p5
abbrev Z298(p0:Nat)(p1:Nat)(p2:aS)(p3:Value)(p4:Value)(p5:Value):=Z297 p0 p1 p2 p3 p4 p5
abbrev Z299(p0:Nat)(p1:Nat)(p2:aS)(p3:Value)(p4:Value)(p5:Value):=Z298 p0 p1 p2 p3 p4 p5
abbrev Z300(p0:Nat)(p1:Nat)(p2:aS)(p3:Value)(p4:Value)(p5:Value):=Z299 p0 p1 p2 p3 p4 p5
abbrev Z301(p0:Nat)(p1:Nat)(p2:aS)(p3:Value)(p4:Value)(p5:Value):=Z300 p0 p1 p2 p3 p4 p5
abbrev Z302(p0:Nat)(p1:Nat)(p2:aS)(p3:Value)(p4:Value)(p5:Value):=Z301 p0 p1 p2 p3 p4 p5
abbrev Z303(p0:Nat)(p1:Nat)(p2:aS)(p3:Value)(p4:Value)(p5:Value):=Z302 p0 p1 p2 p3 p4 p5
abbrev Z304(p0:Nat)(p1:Nat)(p2:aS)(p3:Value)(p4:Value)(p5:Value):=Z303 p0 p1 p2 p3 p4 p5
abbrev Z305(p0:Nat)(p1:Nat)(p2:aS)(p3:Value)(p4:Value)(p5:Value):=Z304 p0 p1 p2 p3 p4 p5
abbrev Z306(p0:Nat)(p1:Nat)(p2:aS)(p3:Value)(p4:Value)(p5:Value):=Z305 p0 p1 p2 p3 p4 p5
abbrev Z307(p0:Nat)(p1:Nat)(p2:aS)(p3:Value)(p4:Value)(p5:Value):=Z306 p0 p1 p2 p3 p4 p5
abbrev Z308(p0:Nat)(p1:Nat)(p2:aS)(p3:Value)(p4:Value)(p5:Value):=Z307 p0 p1 p2 p3 p4 p5
abbrev Z309(p0:Nat)(p1:Nat)(p2:aS)(p3:Value)(p4:Value)(p5:Value):=Z308 p0 p1 p2 p3 p4 p5
abbrev Z310(p0:Nat)(p1:Nat)(p2:aS)(p3:Value)(p4:Value)(p5:Value):=Z309 p0 p1 p2 p3 p4 p5
abbrev Z311(p0:Nat)(p1:Nat)(p2:aS)(p3:Value)(p4:Value)(p5:Value):=Z310 p0 p1 p2 p3 p4 p5
abbrev Z312(p0:Nat)(p1:Nat)(p2:aS)(p3:Value)(p4:Value)(p5:Value):=Z311 p0 p1 p2 p3 p4 p5
abbrev Z313(p0:Nat)(p1:Nat)(p2:aS)(p3:Value)(p4:Value)(p5:Value):=Z312 p0 p1 p2 p3 p4 p5
abbrev Z314(p0:Nat)(p1:Nat)(p2:aS)(p3:Value)(p4:Value)(p5:Value):=Z313 p0 p1 p2 p3 p4 p5
abbrev Z315(p0:Nat)(p1:Nat)(p2:aS)(p3:Value)(p4:Value)(p5:Value):=Z314 p0 p1 p2 p3 p4 p5
abbrev Z316(p0:Nat)(p1:Nat)(p2:aS)(p3:Value)(p4:Value)(p5:Value):=Z315 p0 p1 p2 p3 p4 p5
abbrev Z317(p0:Nat)(p1:Nat)(p2:aS)(p3:Value)(p4:Value)(p5:Value):=Z316 p0 p1 p2 p3 p4 p5
abbrev Z318(p0:Nat)(p1:Nat)(p2:aS)(p3:Value)(p4:Value)(p5:Value):=Z317 p0 p1 p2 p3 p4 p5
abbrev Z319(p0:Nat)(p1:Nat)(p2:aS)(p3:Value)(p4:Value)(p5:Value):=Z318 p0 p1 p2 p3 p4 p5
abbrev Z320(p0:Nat)(p1:Nat)(p2:aS)(p3:Value)(p4:Value)(p5:Value):=Z319 p0 p1 p2 p3 p4 p5
abbrev Z321(p0:Nat)(p1:Nat)(p2:aS)(p3:Value)(p4:Value)(p5:Value):=Z320 p0 p1 p2 p3 p4 p5
abbrev Z322(p0:Nat)(p1:Nat)(p2:aS)(p3:Value)(p4:Value)(p5:Value):=Z321 p0 p1 p2 p3 p4 p5
abbrev Z323(p0:Nat)(p1:Nat)(p2:aS)(p3:Value)(p4:Value)(p5:Value):=Z322 p0 p1 p2 p3 p4 p5
abbrev Z324(p0:Nat)(p1:Nat)(p2:aS)(p3:Value)(p4:Value)(p5:Value):=Z323 p0 p1 p2 p3 p4 p5
abbrev Z325(p0:Nat)(p1:Nat)(p2:aS)(p3:Value)(p4:Value)(p5:Value):=Z324 p0 p1 p2 p3 p4 p5
abbrev Z326(p0:Nat)(p1:Nat)(p2:aS)(p3:Value)(p4:Value)(p5:Value):=Z325 p0 p1 p2 p3 p4 p5
abbrev Z327(p0:Nat)(p1:Nat)(p2:aS)(p3:Value)(p4:Value)(p5:Value):=Z326 p0 p1 p2 p3 p4 p5
abbrev Z328(p0:Nat)(p1:Nat)(p2:aS)(p3:Value)(p4:Value)(p5:Value):=Z327 p0 p1 p2 p3 p4 p5
abbrev Z329(p0:Nat)(p1:Nat)(p2:aS)(p3:Value)(p4:Value)(p5:Value):=Z328 p0 p1 p2 p3 p4 p5
abbrev Z330(p0:Nat)(p1:Nat)(p2:aS)(p3:Value)(p4:Value)(p5:Value):=Z329 p0 p1 p2 p3 p4 p5
abbrev Z331(p0:Nat)(p1:Nat)(p2:aS)(p3:Value)(p4:Value)(p5:Value):=Z330 p0 p1 p2 p3 p4 p5
abbrev Z332(p0:Nat)(p1:Nat)(p2:aS)(p3:Value)(p4:Value)(p5:Value):=Z331 p0 p1 p2 p3 p4 p5
abbrev Z333(p0:Nat)(p1:Nat)(p2:aS)(p3:Value)(p4:Value)(p5:Value):=Z332 p0 p1 p2 p3 p4 p5
abbrev Z334(p0:Nat)(p1:Nat)(p2:aS)(p3:Value)(p4:Value)(p5:Value):=Z333 p0 p1 p2 p3 p4 p5
abbrev Z335(p0:Nat)(p1:Nat)(p2:aS)(p3:Value)(p4:Value)(p5:Value):=Z334 p0 p1 p2 p3 p4 p5
abbrev Z336(p0:Nat)(p1:Nat)(p2:aS)(p3:Value)(p4:Value)(p5:Value):=Z335 p0 p1 p2 p3 p4 p5
abbrev Z337(p0:Nat)(p1:Nat)(p2:aS)(p3:Value)(p4:Value)(p5:Value):=Z336 p0 p1 p2 p3 p4 p5
abbrev Z338(p0:Nat)(p1:Nat)(p2:aS)(p3:Value)(p4:Value)(p5:Value):=Z337 p0 p1 p2 p3 p4 p5
abbrev Z339(p0:Nat)(p1:Nat)(p2:aS)(p3:Value)(p4:Value)(p5:Value):=Z338 p0 p1 p2 p3 p4 p5
abbrev Z340(p0:Nat)(p1:Nat)(p2:aS)(p3:Value)(p4:Value)(p5:Value):=Z339 p0 p1 p2 p3 p4 p5
abbrev Z341(p0:Nat)(p1:Nat)(p2:aS)(p3:Value)(p4:Value)(p5:Value):=Z340 p0 p1 p2 p3 p4 p5
abbrev Z342(p0:Nat)(p1:Nat)(p2:aS)(p3:Value)(p4:Value)(p5:Value):=Z341 p0 p1 p2 p3 p4 p5
abbrev Z343(p0:Nat)(p1:Nat)(p2:aS)(p3:Value)(p4:Value)(p5:Value):=Z342 p0 p1 p2 p3 p4 p5
abbrev Z344(p0:Nat)(p1:Nat)(p2:aS)(p3:Value)(p4:Value)(p5:Value):=Z343 p0 p1 p2 p3 p4 p5
abbrev Z345(p0:Nat)(p1:Nat)(p2:aS)(p3:Value)(p4:Value)(p5:Value):=Z344 p0 p1 p2 p3 p4 p5
abbrev Z346(p0:Nat)(p1:Nat)(p2:aS)(p3:Value)(p4:Value)(p5:Value):=Z345 p0 p1 p2 p3 p4 p5
abbrev Z347(p0:Nat)(p1:Nat)(p2:aS)(p3:Value)(p4:Value)(p5:Value):=Z346 p0 p1 p2 p3 p4 p5
abbrev Z348(p0:Nat)(p1:Nat)(p2:aS)(p3:Value)(p4:Value)(p5:Value):=Z347 p0 p1 p2 p3 p4 p5
abbrev Z349(p0:Nat)(p1:Nat)(p2:aS)(p3:Value)(p4:Value)(p5:Value):=Z348 p0 p1 p2 p3 p4 p5
abbrev Z350(p0:Nat)(p1:Nat)(p2:aS)(p3:Value)(p4:Value)(p5:Value):=Z349 p0 p1 p2 p3 p4 p5
abbrev Z351(p0:Nat)(p1:Nat)(p2:aS)(p3:Value)(p4:Value)(p5:Value):=Z350 p0 p1 p2 p3 p4 p5
abbrev Z352(p0:Nat)(p1:Nat)(p2:aS)(p3:Value)(p4:Value)(p5:Value):=Z351 p0 p1 p2 p3 p4 p5
abbrev Z353(p0:Nat)(p1:Nat)(p2:aS)(p3:Value)(p4:Value)(p5:Value):=Z352 p0 p1 p2 p3 p4 p5
abbrev Z354(p0:Nat)(p1:Nat)(p2:aS)(p3:Value)(p4:Value)(p5:Value):=Z353 p0 p1 p2 p3 p4 p5
abbrev Z355(p0:Nat)(p1:Nat)(p2:aS)(p3:Value)(p4:Value)(p5:Value):=Z354 p0 p1 p2 p3 p4 p5
abbrev Z356(p0:Nat)(p1:Nat)(p2:aS)(p3:Value)(p4:Value)(p5:Value):=Z355 p0 p1 p2 p3 p4 p5
abbrev Z357(p0:Nat)(p1:Nat)(p2:aS)(p3:Value)(p4:Value)(p5:Value):=Z356 p0 p1 p2 p3 p4 p5
abbrev Z358(p0:Nat)(p1:Nat)(p2:aS)(p3:Value)(p4:Value)(p5:Value):=Z357 p0 p1 p2 p3 p4 p5
abbrev Z359(p0:Nat)(p1:Nat)(p2:aS)(p3:Value)(p4:Value)(p5:Value):=Z358 p0 p1 p2 p3 p4 p5
abbrev Z360(p0:Nat)(p1:Nat)(p2:aS)(p3:Value)(p4:Value)(p5:Value):=Z359 p0 p1 p2 p3 p4 p5
abbrev Z361(p0:Nat)(p1:Nat)(p2:aS)(p3:Value)(p4:Value)(p5:Value):=Z360 p0 p1 p2 p3 p4 p5
abbrev Z362(p0:Nat)(p1:Nat)(p2:aS)(p3:Value)(p4:Value)(p5:Value):=Z361 p0 p1 p2 p3 p4 p5
abbrev Z363(p0:Nat)(p1:Nat)(p2:aS)(p3:Value)(p4:Value)(p5:Value):=Z362 p0 p1 p2 p3 p4 p5
abbrev Z364(p0:Nat)(p1:Nat)(p2:aS)(p3:Value)(p4:Value)(p5:Value):=Z363 p0 p1 p2 p3 p4 p5
abbrev Z365(p0:Nat)(p1:Nat)(p2:aS)(p3:Value)(p4:Value)(p5:Value):=Z364 p0 p1 p2 p3 p4 p5
abbrev Z366(p0:Nat)(p1:Nat)(p2:aS)(p3:Value)(p4:Value)(p5:Value):=Z365 p0 p1 p2 p3 p4 p5
abbrev Z367(p0:Nat)(p1:Nat)(p2:aS)(p3:Value)(p4:Value)(p5:Value):=Z366 p0 p1 p2 p3 p4 p5
abbrev Z368(p0:Nat)(p1:Nat)(p2:aS)(p3:Value)(p4:Value)(p5:Value):=Z367 p0 p1 p2 p3 p4 p5
abbrev Z369(p0:Nat)(p1:Nat)(p2:aS)(p3:Value)(p4:Value)(p5:Value):=Z368 p0 p1 p2 p3 p4 p5
abbrev Z370(p0:Nat)(p1:Nat)(p2:aS)(p3:Value)(p4:Value)(p5:Value):=Z369 p0 p1 p2 p3 p4 p5
abbrev Z371(p0:Nat)(p1:Nat)(p2:aS)(p3:Value)(p4:Value)(p5:Value):=Z370 p0 p1 p2 p3 p4 p5
abbrev Z372(p0:Nat)(p1:Nat)(p2:aS)(p3:Value)(p4:Value)(p5:Value):=Z371 p0 p1 p2 p3 p4 p5
abbrev Z373(p0:Nat)(p1:Nat)(p2:aS)(p3:Value)(p4:Value)(p5:Value):=Z372 p0 p1 p2 p3 p4 p5
abbrev Z374(p0:Nat)(p1:Nat)(p2:aS)(p3:Value)(p4:Value)(p5:Value):=Z373 p0 p1 p2 p3 p4 p5
abbrev Z375(p0:Nat)(p1:Nat)(p2:aS)(p3:Value)(p4:Value)(p5:Value):=Z374 p0 p1 p2 p3 p4 p5
abbrev Z376(p0:Nat)(p1:Nat)(p2:aS)(p3:Value)(p4:Value)(p5:Value):=Z375 p0 p1 p2 p3 p4 p5
abbrev Z377(p0:Nat)(p1:Nat)(p2:aS)(p3:Value)(p4:Value)(p5:Value):=Z376 p0 p1 p2 p3 p4 p5
abbrev Z378(p0:Nat)(p1:Nat)(p2:aS)(p3:Value)(p4:Value)(p5:Value):=Z377 p0 p1 p2 p3 p4 p5
abbrev Z379(p0:Nat)(p1:Nat)(p2:aS)(p3:Value)(p4:Value)(p5:Value):=Z378 p0 p1 p2 p3 p4 p5
abbrev Z380(p0:Nat)(p1:Nat)(p2:aS)(p3:Value)(p4:Value)(p5:Value):=Z379 p0 p1 p2 p3 p4 p5
abbrev Z381(p0:Nat)(p1:Nat)(p2:aS)(p3:Value)(p4:Value)(p5:Value):=Z380 p0 p1 p2 p3 p4 p5
abbrev Z382(p0:Nat)(p1:Nat)(p2:aS)(p3:Value)(p4:Value)(p5:Value):=Z381 p0 p1 p2 p3 p4 p5
abbrev Z383(p0:Nat)(p1:Nat)(p2:aS)(p3:Value)(p4:Value)(p5:Value):=Z382 p0 p1 p2 p3 p4 p5
abbrev Z384(p0:Nat)(p1:Nat)(p2:aS)(p3:Value)(p4:Value)(p5:Value):=Z383 p0 p1 p2 p3 p4 p5
abbrev Z385(p0:Nat)(p1:Nat)(p2:aS)(p3:Value)(p4:Value)(p5:Value):=Z384 p0 p1 p2 p3 p4 p5
abbrev Z386(p0:Nat)(p1:Nat)(p2:aS)(p3:Value)(p4:Value)(p5:Value):=Z385 p0 p1 p2 p3 p4 p5
abbrev Z387(p0:Nat)(p1:Nat)(p2:aS)(p3:Value)(p4:Value)(p5:Value):=Z386 p0 p1 p2 p3 p4 p5
abbrev Z388(p0:Nat)(p1:Nat)(p2:aS)(p3:Value)(p4:Value)(p5:Value):=Z387 p0 p1 p2 p3 p4 p5
abbrev Z389(p0:Nat)(p1:Nat)(p2:aS)(p3:Value)(p4:Value)(p5:Value):=Z388 p0 p1 p2 p3 p4 p5
abbrev Z390(p0:Nat)(p1:Nat)(p2:aS)(p3:Value)(p4:Value)(p5:Value):=Z389 p0 p1 p2 p3 p4 p5
abbrev Z391(p0:Nat)(p1:Nat)(p2:aS)(p3:Value)(p4:Value)(p5:Value):=Z390 p0 p1 p2 p3 p4 p5
abbrev Z392(p0:Nat)(p1:Nat)(p2:aS)(p3:Value)(p4:Value)(p5:Value):=Z391 p0 p1 p2 p3 p4 p5
abbrev Z393(p0:Nat)(p1:Nat)(p2:aS)(p3:Value)(p4:Value)(p5:Value):=Z392 p0 p1 p2 p3 p4 p5
abbrev Z394(p0:Nat)(p1:Nat)(p2:aS)(p3:Value)(p4:Value)(p5:Value):=Z393 p0 p1 p2 p3 p4 p5
abbrev Z395(p0:Nat)(p1:Nat)(p2:aS)(p3:Value)(p4:Value)(p5:Value):=Z394 p0 p1 p2 p3 p4 p5
abbrev Z396(p0:Nat)(p1:Nat)(p2:aS)(p3:Value)(p4:Value)(p5:Value):=Z395 p0 p1 p2 p3 p4 p5
abbrev Z397(p0:Nat)(p1:Nat)(p2:aS)(p3:Value)(p4:Value)(p5:Value):=Z396 p0 p1 p2 p3 p4 p5
abbrev Z398(p0:Nat)(p1:Nat)(p2:aS)(p3:Value)(p4:Value)(p5:Value):=Z397 p0 p1 p2 p3 p4 p5
abbrev Z399(p0:Nat)(p1:Nat)(p2:aS)(p3:Value)(p4:Value)(p5:Value):=Z398 p0 p1 p2 p3 p4 p5
abbrev Z400(p0:Nat)(p1:Nat)(p2:aS)(p3:Value)(p4:Value)(p5:Value):=Z399 p0 p1 p2 p3 p4 p5
abbrev Z401(p0:Nat)(p1:Nat)(p2:aS)(p3:Value)(p4:Value)(p5:Value):=Z400 p0 p1 p2 p3 p4 p5
abbrev Z402(p0:Nat)(p1:Nat)(p2:aS)(p3:Value)(p4:Value)(p5:Value):=Z401 p0 p1 p2 p3 p4 p5
abbrev Z403(p0:Nat)(p1:Nat)(p2:aS)(p3:Value)(p4:Value)(p5:Value):=Z402 p0 p1 p2 p3 p4 p5
abbrev Z404(p0:Nat)(p1:Nat)(p2:aS)(p3:Value)(p4:Value)(p5:Value):=Z403 p0 p1 p2 p3 p4 p5
abbrev Z405(p0:Nat)(p1:Nat)(p2:aS)(p3:Value)(p4:Value)(p5:Value):=Z404 p0 p1 p2 p3 p4 p5
abbrev Z406(p0:Nat)(p1:Nat)(p2:aS)(p3:Value)(p4:Value)(p5:Value):=Z405 p0 p1 p2 p3 p4 p5
abbrev Z407(p0:Nat)(p1:Nat)(p2:aS)(p3:Value)(p4:Value)(p5:Value):=Z406 p0 p1 p2 p3 p4 p5
abbrev Z408(p0:Nat)(p1:Nat)(p2:aS)(p3:Value)(p4:Value)(p5:Value):=Z407 p0 p1 p2 p3 p4 p5
abbrev Z409(p0:Nat)(p1:Nat)(p2:aS)(p3:Value)(p4:Value)(p5:Value):=Z408 p0 p1 p2 p3 p4 p5
abbrev Z410(p0:Nat)(p1:Nat)(p2:aS)(p3:Value)(p4:Value)(p5:Value):=Z409 p0 p1 p2 p3 p4 p5
abbrev Z411(p0:Nat)(p1:Nat)(p2:aS)(p3:Value)(p4:Value)(p5:Value):=Z410 p0 p1 p2 p3 p4 p5
abbrev Z412(p0:Nat)(p1:Nat)(p2:aS)(p3:Value)(p4:Value)(p5:Value):=Z411 p0 p1 p2 p3 p4 p5
abbrev Z413(p0:Nat)(p1:Nat)(p2:aS)(p3:Value)(p4:Value)(p5:Value):=Z412 p0 p1 p2 p3 p4 p5
abbrev Z414(p0:Nat)(p1:Nat)(p2:aS)(p3:Value)(p4:Value)(p5:Value):=Z413 p0 p1 p2 p3 p4 p5
abbrev Z415(p0:Nat)(p1:Nat)(p2:aS)(p3:Value)(p4:Value)(p5:Value):=Z414 p0 p1 p2 p3 p4 p5
abbrev Z416(p0:Nat)(p1:Nat)(p2:aS)(p3:Value)(p4:Value)(p5:Value):=Z415 p0 p1 p2 p3 p4 p5
abbrev Z417(p0:Nat)(p1:Nat)(p2:aS)(p3:Value)(p4:Value)(p5:Value):=Z416 p0 p1 p2 p3 p4 p5
abbrev Z418(p0:Nat)(p1:Nat)(p2:aS)(p3:Value)(p4:Value)(p5:Value):=Z417 p0 p1 p2 p3 p4 p5
abbrev Z419(p0:Nat)(p1:Nat)(p2:aS)(p3:Value)(p4:Value)(p5:Value):=Z418 p0 p1 p2 p3 p4 p5
abbrev Z420(p0:Nat)(p1:Nat)(p2:aS)(p3:Value)(p4:Value)(p5:Value):=Z419 p0 p1 p2 p3 p4 p5
abbrev Z421(p0:Nat)(p1:Nat)(p2:aS)(p3:Value)(p4:Value)(p5:Value):=Z420 p0 p1 p2 p3 p4 p5
abbrev Z422(p0:Nat)(p1:Nat)(p2:aS)(p3:Value)(p4:Value)(p5:Value):=Z421 p0 p1 p2 p3 p4 p5
abbrev Z423(p0:Nat)(p1:Nat)(p2:aS)(p3:Value)(p4:Value)(p5:Value):=Z422 p0 p1 p2 p3 p4 p5
abbrev Z424(p0:Nat)(p1:Nat)(p2:aS)(p3:Value)(p4:Value)(p5:Value):=Z423 p0 p1 p2 p3 p4 p5
abbrev Z425(p0:Nat)(p1:Nat)(p2:aS)(p3:Value)(p4:Value)(p5:Value):=Z424 p0 p1 p2 p3 p4 p5
abbrev Z426(p0:Nat)(p1:Nat)(p2:aS)(p3:Value)(p4:Value)(p5:Value):=Z425 p0 p1 p2 p3 p4 p5
abbrev Z427(p0:Nat)(p1:Nat)(p2:aS)(p3:Value)(p4:Value)(p5:Value):=Z426 p0 p1 p2 p3 p4 p5
abbrev Z428(p0:Nat)(p1:Nat)(p2:aS)(p3:Value)(p4:Value)(p5:Value):=Z427 p0 p1 p2 p3 p4 p5
abbrev Z429(p0:Nat)(p1:Nat)(p2:aS)(p3:Value)(p4:Value)(p5:Value):=Z428 p0 p1 p2 p3 p4 p5
abbrev Z430(p0:Nat)(p1:Nat)(p2:aS)(p3:Value)(p4:Value)(p5:Value):=Z429 p0 p1 p2 p3 p4 p5
abbrev Z431(p0:Nat)(p1:Nat)(p2:aS)(p3:Value)(p4:Value)(p5:Value):=Z430 p0 p1 p2 p3 p4 p5
abbrev Z432(p0:Nat)(p1:Nat)(p2:aS)(p3:Value)(p4:Value)(p5:Value):=Z431 p0 p1 p2 p3 p4 p5
abbrev Z433(p0:Nat)(p1:Nat)(p2:aS)(p3:Value)(p4:Value)(p5:Value):=Z432 p0 p1 p2 p3 p4 p5
abbrev Z434(p0:Nat)(p1:Nat)(p2:aS)(p3:Value)(p4:Value)(p5:Value):=Z433 p0 p1 p2 p3 p4 p5
abbrev Z435(p0:Nat)(p1:Nat)(p2:aS)(p3:Value)(p4:Value)(p5:Value):=Z434 p0 p1 p2 p3 p4 p5
abbrev Z436(p0:Nat)(p1:Nat)(p2:aS)(p3:Value)(p4:Value)(p5:Value):=Z435 p0 p1 p2 p3 p4 p5
abbrev Z437(p0:Nat)(p1:Nat)(p2:aS)(p3:Value)(p4:Value)(p5:Value):=Z436 p0 p1 p2 p3 p4 p5
abbrev Z438(p0:Nat)(p1:Nat)(p2:aS)(p3:Value)(p4:Value)(p5:Value):=Z437 p0 p1 p2 p3 p4 p5
abbrev Z439(p0:Nat)(p1:Nat)(p2:aS)(p3:Value)(p4:Value)(p5:Value):=Z438 p0 p1 p2 p3 p4 p5
abbrev Z440(p0:Nat)(p1:Nat)(p2:aS)(p3:Value)(p4:Value)(p5:Value):=Z439 p0 p1 p2 p3 p4 p5
abbrev Z441(p0:Nat)(p1:Nat)(p2:aS)(p3:Value)(p4:Value)(p5:Value):=Z440 p0 p1 p2 p3 p4 p5
abbrev Z442(p0:Nat)(p1:Nat)(p2:aS)(p3:Value)(p4:Value)(p5:Value):=Z441 p0 p1 p2 p3 p4 p5
abbrev Z443(p0:Nat)(p1:Nat)(p2:aS)(p3:Value)(p4:Value)(p5:Value):=Z442 p0 p1 p2 p3 p4 p5
abbrev Z444(p0:Nat)(p1:Nat)(p2:aS)(p3:Value)(p4:Value)(p5:Value):=Z443 p0 p1 p2 p3 p4 p5
abbrev Z445(p0:Nat)(p1:Nat)(p2:aS)(p3:Value)(p4:Value)(p5:Value):=Z444 p0 p1 p2 p3 p4 p5
abbrev Z446(p0:Nat)(p1:Nat)(p2:aS)(p3:Value)(p4:Value)(p5:Value):=Z445 p0 p1 p2 p3 p4 p5
abbrev Z447(p0:Nat)(p1:Nat)(p2:aS)(p3:Value)(p4:Value)(p5:Value):=Z446 p0 p1 p2 p3 p4 p5
abbrev Z448(p0:Nat)(p1:Nat)(p2:aS)(p3:Value)(p4:Value)(p5:Value):=Z447 p0 p1 p2 p3 p4 p5
abbrev Z449(p0:Nat)(p1:Nat)(p2:aS)(p3:Value)(p4:Value)(p5:Value):=Z448 p0 p1 p2 p3 p4 p5
abbrev Z450(p0:Nat)(p1:Nat)(p2:aS)(p3:Value)(p4:Value)(p5:Value):=Z449 p0 p1 p2 p3 p4 p5
abbrev Z451(p0:Nat)(p1:Nat)(p2:aS)(p3:Value)(p4:Value)(p5:Value):=Z450 p0 p1 p2 p3 p4 p5
abbrev Z452(p0:Nat)(p1:Nat)(p2:aS)(p3:Value)(p4:Value)(p5:Value):=Z451 p0 p1 p2 p3 p4 p5
abbrev Z453(p0:Nat)(p1:Nat)(p2:aS)(p3:Value)(p4:Value)(p5:Value):=Z452 p0 p1 p2 p3 p4 p5
abbrev Z454(p0:Nat)(p1:Nat)(p2:aS)(p3:Value)(p4:Value)(p5:Value):=Z453 p0 p1 p2 p3 p4 p5
abbrev Z455(p0:Nat)(p1:Nat)(p2:aS)(p3:Value)(p4:Value)(p5:Value):=Z454 p0 p1 p2 p3 p4 p5
abbrev Z456(p0:Nat)(p1:Nat)(p2:aS)(p3:Value)(p4:Value)(p5:Value):=Z455 p0 p1 p2 p3 p4 p5
abbrev Z457(p0:Nat)(p1:Nat)(p2:aS)(p3:Value)(p4:Value)(p5:Value):=Z456 p0 p1 p2 p3 p4 p5
abbrev Z458(p0:Nat)(p1:Nat)(p2:aS)(p3:Value)(p4:Value)(p5:Value):=Z457 p0 p1 p2 p3 p4 p5
abbrev Z459(p0:Nat)(p1:Nat)(p2:aS)(p3:Value)(p4:Value)(p5:Value):=Z458 p0 p1 p2 p3 p4 p5
abbrev Z460(p0:Nat)(p1:Nat)(p2:aS)(p3:Value)(p4:Value)(p5:Value):=Z459 p0 p1 p2 p3 p4 p5
abbrev Z461(p0:Nat)(p1:Nat)(p2:aS)(p3:Value)(p4:Value)(p5:Value):=Z460 p0 p1 p2 p3 p4 p5
abbrev Z462(p0:Nat)(p1:Nat)(p2:aS)(p3:Value)(p4:Value)(p5:Value):=Z461 p0 p1 p2 p3 p4 p5
abbrev Z463(p0:Nat)(p1:Nat)(p2:aS)(p3:Value)(p4:Value)(p5:Value):=Z462 p0 p1 p2 p3 p4 p5
abbrev Z464(p0:Nat)(p1:Nat)(p2:aS)(p3:Value)(p4:Value)(p5:Value):=Z463 p0 p1 p2 p3 p4 p5
abbrev Z465(p0:Nat)(p1:Nat)(p2:aS)(p3:Value)(p4:Value)(p5:Value):=Z464 p0 p1 p2 p3 p4 p5
abbrev Z466(p0:Nat)(p1:Nat)(p2:aS)(p3:Value)(p4:Value)(p5:Value):=Z465 p0 p1 p2 p3 p4 p5
abbrev Z467(p0:Nat)(p1:Nat)(p2:aS)(p3:Value)(p4:Value)(p5:Value):=Z466 p0 p1 p2 p3 p4 p5
abbrev Z468(p0:Nat)(p1:Nat)(p2:aS)(p3:Value)(p4:Value)(p5:Value):=Z467 p0 p1 p2 p3 p4 p5
abbrev Z469(p0:Nat)(p1:Nat)(p2:aS)(p3:Value)(p4:Value)(p5:Value):=Z468 p0 p1 p2 p3 p4 p5
abbrev Z470(p0:Nat)(p1:Nat)(p2:aS)(p3:Value)(p4:Value)(p5:Value):=Z469 p0 p1 p2 p3 p4 p5
abbrev Z471(p0:Nat)(p1:Nat)(p2:aS)(p3:Value)(p4:Value)(p5:Value):=Z470 p0 p1 p2 p3 p4 p5
abbrev Z472(p0:Nat)(p1:Nat)(p2:aS)(p3:Value)(p4:Value)(p5:Value):=Z471 p0 p1 p2 p3 p4 p5
abbrev Z473(p0:Nat)(p1:Nat)(p2:aS)(p3:Value)(p4:Value)(p5:Value):=Z472 p0 p1 p2 p3 p4 p5
abbrev Z474(p0:Nat)(p1:Nat)(p2:aS)(p3:Value)(p4:Value)(p5:Value):=Z473 p0 p1 p2 p3 p4 p5
abbrev Z475(p0:Nat)(p1:Nat)(p2:aS)(p3:Value)(p4:Value)(p5:Value):=Z474 p0 p1 p2 p3 p4 p5
abbrev Z476(p0:Nat)(p1:Nat)(p2:aS)(p3:Value)(p4:Value)(p5:Value):=Z475 p0 p1 p2 p3 p4 p5
abbrev Z477(p0:Nat)(p1:Nat)(p2:aS)(p3:Value)(p4:Value)(p5:Value):=Z476 p0 p1 p2 p3 p4 p5
abbrev Z478(p0:Nat)(p1:Nat)(p2:aS)(p3:Value)(p4:Value)(p5:Value):=Z477 p0 p1 p2 p3 p4 p5
abbrev Z479(p0:Nat)(p1:Nat)(p2:aS)(p3:Value)(p4:Value)(p5:Value):=Z478 p0 p1 p2 p3 p4 p5
abbrev Z480(p0:Nat)(p1:Nat)(p2:aS)(p3:Value)(p4:Value)(p5:Value):=Z479 p0 p1 p2 p3 p4 p5
abbrev Z481(p0:Nat)(p1:Nat)(p2:aS)(p3:Value)(p4:Value)(p5:Value):=Z480 p0 p1 p2 p3 p4 p5
abbrev Z482(p0:Nat)(p1:Nat)(p2:aS)(p3:Value)(p4:Value)(p5:Value):=Z481 p0 p1 p2 p3 p4 p5
abbrev Z483(p0:Nat)(p1:Nat)(p2:aS)(p3:Value)(p4:Value)(p5:Value):=Z482 p0 p1 p2 p3 p4 p5
abbrev Z484(p0:Nat)(p1:Nat)(p2:aS)(p3:Value)(p4:Value)(p5:Value):=Z483 p0 p1 p2 p3 p4 p5
abbrev Z485(p0:Nat)(p1:Nat)(p2:aS)(p3:Value)(p4:Value)(p5:Value):=Z484 p0 p1 p2 p3 p4 p5
abbrev Z486(p0:Nat)(p1:Nat)(p2:aS)(p3:Value)(p4:Value)(p5:Value):=Z485 p0 p1 p2 p3 p4 p5
abbrev Z487(p0:Nat)(p1:Nat)(p2:aS)(p3:Value)(p4:Value)(p5:Value):=Z486 p0 p1 p2 p3 p4 p5
abbrev Z488(p0:Nat)(p1:Nat)(p2:aS)(p3:Value)(p4:Value)(p5:Value):=Z487 p0 p1 p2 p3 p4 p5
abbrev Z489(p0:Nat)(p1:Nat)(p2:aS)(p3:Value)(p4:Value)(p5:Value):=Z488 p0 p1 p2 p3 p4 p5
abbrev Z490(p0:Nat)(p1:Nat)(p2:aS)(p3:Value)(p4:Value)(p5:Value):=Z489 p0 p1 p2 p3 p4 p5
abbrev Z491(p0:Nat)(p1:Nat)(p2:aS)(p3:Value)(p4:Value)(p5:Value):=Z490 p0 p1 p2 p3 p4 p5
abbrev Z492(p0:Nat)(p1:Nat)(p2:aS)(p3:Value)(p4:Value)(p5:Value):=Z491 p0 p1 p2 p3 p4 p5
abbrev Z493(p0:Nat)(p1:Nat)(p2:aS)(p3:Value)(p4:Value)(p5:Value):=Z492 p0 p1 p2 p3 p4 p5
abbrev Z494(p0:Nat)(p1:Nat)(p2:aS)(p3:Value)(p4:Value)(p5:Value):=Z493 p0 p1 p2 p3 p4 p5
abbrev Z495(p0:Nat)(p1:Nat)(p2:aS)(p3:Value)(p4:Value)(p5:Value):=Z494 p0 p1 p2 p3 p4 p5
abbrev Z496(p0:Nat)(p1:Nat)(p2:aS)(p3:Value)(p4:Value)(p5:Value):=Z495 p0 p1 p2 p3 p4 p5
abbrev Z497(p0:Nat)(p1:Nat)(p2:aS)(p3:Value)(p4:Value)(p5:Value):=Z496 p0 p1 p2 p3 p4 p5
abbrev Z498(p0:Nat)(p1:Nat)(p2:aS)(p3:Value)(p4:Value)(p5:Value):=Z497 p0 p1 p2 p3 p4 p5
abbrev Z499(p0:Nat)(p1:Nat)(p2:aS)(p3:Value)(p4:Value)(p5:Value):=Z498 p0 p1 p2 p3 p4 p5
abbrev Z500(p0:Nat)(p1:Nat)(p2:aS)(p3:Value)(p4:Value)(p5:Value):=Z499 p0 p1 p2 p3 p4 p5
abbrev Z501(p0:Nat)(p1:Nat)(p2:aS)(p3:Value)(p4:Value)(p5:Value):=Z500 p0 p1 p2 p3 p4 p5
abbrev Z502(p0:Nat)(p1:Nat)(p2:aS)(p3:Value)(p4:Value)(p5:Value):=Z501 p0 p1 p2 p3 p4 p5
abbrev Z503(p0:Nat)(p1:Nat)(p2:aS)(p3:Value)(p4:Value)(p5:Value):=Z502 p0 p1 p2 p3 p4 p5
abbrev Z504(p0:Nat)(p1:Nat)(p2:aS)(p3:Value)(p4:Value)(p5:Value):=Z503 p0 p1 p2 p3 p4 p5
abbrev Z505(p0:Nat)(p1:Nat)(p2:aS)(p3:Value)(p4:Value)(p5:Value):=Z504 p0 p1 p2 p3 p4 p5
abbrev Z506(p0:Nat)(p1:Nat)(p2:aS)(p3:Value)(p4:Value)(p5:Value):=Z505 p0 p1 p2 p3 p4 p5
abbrev Z507(p0:Nat)(p1:Nat)(p2:aS)(p3:Value)(p4:Value)(p5:Value):=Z506 p0 p1 p2 p3 p4 p5
abbrev Z508(p0:Nat)(p1:Nat)(p2:aS)(p3:Value)(p4:Value)(p5:Value):=Z507 p0 p1 p2 p3 p4 p5
abbrev Z509(p0:Nat)(p1:Nat)(p2:aS)(p3:Value)(p4:Value)(p5:Value):=Z508 p0 p1 p2 p3 p4 p5
abbrev Z510(p0:Nat)(p1:Nat)(p2:aS)(p3:Value)(p4:Value)(p5:Value):=Z509 p0 p1 p2 p3 p4 p5
abbrev Z511(p0:Nat)(p1:Nat)(p2:aS)(p3:Value)(p4:Value)(p5:Value):=Z510 p0 p1 p2 p3 p4 p5
abbrev Z512(p0:Nat)(p1:Nat)(p2:aS)(p3:Value)(p4:Value)(p5:Value):=Z511 p0 p1 p2 p3 p4 p5
abbrev Z513(p0:Nat)(p1:Nat)(p2:aS)(p3:Value)(p4:Value)(p5:Value):=Z512 p0 p1 p2 p3 p4 p5
abbrev Z514(p0:Nat)(p1:Nat)(p2:aS)(p3:Value)(p4:Value)(p5:Value):=Z513 p0 p1 p2 p3 p4 p5
abbrev Z515(p0:Nat)(p1:Nat)(p2:aS)(p3:Value)(p4:Value)(p5:Value):=Z514 p0 p1 p2 p3 p4 p5
abbrev Z516(p0:Nat)(p1:Nat)(p2:aS)(p3:Value)(p4:Value)(p5:Value):=Z515 p0 p1 p2 p3 p4 p5
abbrev Z517(p0:Nat)(p1:Nat)(p2:aS)(p3:Value)(p4:Value)(p5:Value):=Z516 p0 p1 p2 p3 p4 p5
abbrev Z518(p0:Nat)(p1:Nat)(p2:aS)(p3:Value)(p4:Value)(p5:Value):=Z517 p0 p1 p2 p3 p4 p5
abbrev Z519(p0:Nat)(p1:Nat)(p2:aS)(p3:Value)(p4:Value)(p5:Value):=Z518 p0 p1 p2 p3 p4 p5
abbrev Z520(p0:Nat)(p1:Nat)(p2:aS)(p3:Value)(p4:Value)(p5:Value):=Z519 p0 p1 p2 p3 p4 p5
abbrev Z521(p0:Nat)(p1:Nat)(p2:aS)(p3:Value)(p4:Value)(p5:Value):=Z520 p0 p1 p2 p3 p4 p5
abbrev Z522(p0:Nat)(p1:Nat)(p2:aS)(p3:Value)(p4:Value)(p5:Value):=Z521 p0 p1 p2 p3 p4 p5
abbrev Z523(p0:Nat)(p1:Nat)(p2:aS)(p3:Value)(p4:Value)(p5:Value):=Z522 p0 p1 p2 p3 p4 p5
abbrev Z524(p0:Nat)(p1:Nat)(p2:aS)(p3:Value)(p4:Value)(p5:Value):=Z523 p0 p1 p2 p3 p4 p5
abbrev Z525(p0:Nat)(p1:Nat)(p2:aS)(p3:Value)(p4:Value)(p5:Value):=Z524 p0 p1 p2 p3 p4 p5
abbrev Z526(p0:Nat)(p1:Nat)(p2:aS)(p3:Value)(p4:Value)(p5:Value):=Z525 p0 p1 p2 p3 p4 p5
abbrev Z527(p0:Nat)(p1:Nat)(p2:aS)(p3:Value)(p4:Value)(p5:Value):=Z526 p0 p1 p2 p3 p4 p5
abbrev Z528(p0:Nat)(p1:Nat)(p2:aS)(p3:Value)(p4:Value)(p5:Value):=Z527 p0 p1 p2 p3 p4 p5
abbrev Z529(p0:Nat)(p1:Nat)(p2:aS)(p3:Value)(p4:Value)(p5:Value):=Z528 p0 p1 p2 p3 p4 p5
abbrev Z530(p0:Nat)(p1:Nat)(p2:aS)(p3:Value)(p4:Value)(p5:Value):=Z529 p0 p1 p2 p3 p4 p5
abbrev Z531(p0:Nat)(p1:Nat)(p2:aS)(p3:Value)(p4:Value)(p5:Value):=Z530 p0 p1 p2 p3 p4 p5
abbrev Z532(p0:Nat)(p1:Nat)(p2:aS)(p3:Value)(p4:Value)(p5:Value):=Z531 p0 p1 p2 p3 p4 p5
abbrev Z533(p0:Nat)(p1:Nat)(p2:aS)(p3:Value)(p4:Value)(p5:Value):=Z532 p0 p1 p2 p3 p4 p5
abbrev Z534(p0:Nat)(p1:Nat)(p2:aS)(p3:Value)(p4:Value)(p5:Value):=Z533 p0 p1 p2 p3 p4 p5
abbrev Z535(p0:Nat)(p1:Nat)(p2:aS)(p3:Value)(p4:Value)(p5:Value):=Z534 p0 p1 p2 p3 p4 p5
abbrev Z536(p0:Nat)(p1:Nat)(p2:aS)(p3:Value)(p4:Value)(p5:Value):=Z535 p0 p1 p2 p3 p4 p5
abbrev Z537(p0:Nat)(p1:Nat)(p2:aS)(p3:Value)(p4:Value)(p5:Value):=Z536 p0 p1 p2 p3 p4 p5
abbrev Z538(p0:Nat)(p1:Nat)(p2:aS)(p3:Value)(p4:Value)(p5:Value):=Z537 p0 p1 p2 p3 p4 p5
abbrev Z539(p0:Nat)(p1:Nat)(p2:aS)(p3:Value)(p4:Value)(p5:Value):=Z538 p0 p1 p2 p3 p4 p5
abbrev Z540(p0:Nat)(p1:Nat)(p2:aS)(p3:Value)(p4:Value)(p5:Value):=Z539 p0 p1 p2 p3 p4 p5
abbrev Z541(p0:Nat)(p1:Nat)(p2:aS)(p3:Value)(p4:Value)(p5:Value):=Z540 p0 p1 p2 p3 p4 p5
abbrev Z542(p0:Nat)(p1:Nat)(p2:aS)(p3:Value)(p4:Value)(p5:Value):=Z541 p0 p1 p2 p3 p4 p5
abbrev Z543(p0:Nat)(p1:Nat)(p2:aS)(p3:Value)(p4:Value)(p5:Value):=Z542 p0 p1 p2 p3 p4 p5
abbrev Z544(p0:Nat)(p1:Nat)(p2:aS)(p3:Value)(p4:Value)(p5:Value):=Z543 p0 p1 p2 p3 p4 p5
abbrev Z545(p0:Nat)(p1:Nat)(p2:aS)(p3:Value)(p4:Value)(p5:Value):=Z544 p0 p1 p2 p3 p4 p5
abbrev Z546(p0:Nat)(p1:Nat)(p2:aS)(p3:Value)(p4:Value)(p5:Value):=Z545 p0 p1 p2 p3 p4 p5
abbrev Z547(p0:Nat)(p1:Nat)(p2:aS)(p3:Value)(p4:Value)(p5:Value):=Z546 p0 p1 p2 p3 p4 p5
abbrev Z548(p0:Nat)(p1:Nat)(p2:aS)(p3:Value)(p4:Value)(p5:Value):=Z547 p0 p1 p2 p3 p4 p5
abbrev Z549(p0:Nat)(p1:Nat)(p2:aS)(p3:Value)(p4:Value)(p5:Value):=Z548 p0 p1 p2 p3 p4 p5
abbrev Z550(p0:Nat)(p1:Nat)(p2:aS)(p3:Value)(p4:Value)(p5:Value):=Z549 p0 p1 p2 p3 p4 p5
abbrev Z551(p0:Nat)(p1:Nat)(p2:aS)(p3:Value)(p4:Value)(p5:Value):=Z550 p0 p1 p2 p3 p4 p5
abbrev Z552(p0:Nat)(p1:Nat)(p2:aS)(p3:Value)(p4:Value)(p5:Value):=Z551 p0 p1 p2 p3 p4 p5
abbrev Z553(p0:Nat)(p1:Nat)(p2:aS)(p3:Value)(p4:Value)(p5:Value):=Z552 p0 p1 p2 p3 p4 p5
abbrev Z554(p0:Nat)(p1:Nat)(p2:aS)(p3:Value)(p4:Value)(p5:Value):=Z553 p0 p1 p2 p3 p4 p5
abbrev Z555(p0:Nat)(p1:Nat)(p2:aS)(p3:Value)(p4:Value)(p5:Value):=Z554 p0 p1 p2 p3 p4 p5
abbrev Z556(p0:Nat)(p1:Nat)(p2:aS)(p3:Value)(p4:Value)(p5:Value):=Z555 p0 p1 p2 p3 p4 p5
abbrev Z557(p0:Nat)(p1:Nat)(p2:aS)(p3:Value)(p4:Value)(p5:Value):=Z556 p0 p1 p2 p3 p4 p5
abbrev Z558(p0:Nat)(p1:Nat)(p2:aS)(p3:Value)(p4:Value)(p5:Value):=Z557 p0 p1 p2 p3 p4 p5
abbrev Z559(p0:Nat)(p1:Nat)(p2:aS)(p3:Value)(p4:Value)(p5:Value):=Z558 p0 p1 p2 p3 p4 p5
abbrev Z560(p0:Nat)(p1:Nat)(p2:aS)(p3:Value)(p4:Value)(p5:Value):=Z559 p0 p1 p2 p3 p4 p5
abbrev Z561(p0:Nat)(p1:Nat)(p2:aS)(p3:Value)(p4:Value)(p5:Value):=Z560 p0 p1 p2 p3 p4 p5
abbrev Z562(p0:Nat)(p1:Nat)(p2:aS)(p3:Value)(p4:Value)(p5:Value):=Z561 p0 p1 p2 p3 p4 p5
abbrev Z563(p0:Nat)(p1:Nat)(p2:aS)(p3:Value)(p4:Value)(p5:Value):=Z562 p0 p1 p2 p3 p4 p5
abbrev Z564(p0:Nat)(p1:Nat)(p2:aS)(p3:Value)(p4:Value)(p5:Value):=Z563 p0 p1 p2 p3 p4 p5
abbrev Z565(p0:Nat)(p1:Nat)(p2:aS)(p3:Value)(p4:Value)(p5:Value):=Z564 p0 p1 p2 p3 p4 p5
abbrev Z566(p0:Nat)(p1:Nat)(p2:aS)(p3:Value)(p4:Value)(p5:Value):=Z565 p0 p1 p2 p3 p4 p5
abbrev Z567(p0:Nat)(p1:Nat)(p2:aS)(p3:Value)(p4:Value)(p5:Value):=Z566 p0 p1 p2 p3 p4 p5
abbrev Z568(p0:Nat)(p1:Nat)(p2:aS)(p3:Value)(p4:Value)(p5:Value):=Z567 p0 p1 p2 p3 p4 p5
abbrev Z569(p0:Nat)(p1:Nat)(p2:aS)(p3:Value)(p4:Value)(p5:Value):=Z568 p0 p1 p2 p3 p4 p5
abbrev Z570(p0:Nat)(p1:Nat)(p2:aS)(p3:Value)(p4:Value)(p5:Value):=Z569 p0 p1 p2 p3 p4 p5
abbrev Z571(p0:Nat)(p1:Nat)(p2:aS)(p3:Value)(p4:Value)(p5:Value):=Z570 p0 p1 p2 p3 p4 p5
abbrev Z572(p0:Nat)(p1:Nat)(p2:aS)(p3:Value)(p4:Value)(p5:Value):=Z571 p0 p1 p2 p3 p4 p5
abbrev Z573(p0:Nat)(p1:Nat)(p2:aS)(p3:Value)(p4:Value)(p5:Value):=Z572 p0 p1 p2 p3 p4 p5
abbrev Z574(p0:Nat)(p1:Nat)(p2:aS)(p3:Value)(p4:Value)(p5:Value):=Z573 p0 p1 p2 p3 p4 p5
abbrev Z575(p0:Nat)(p1:Nat)(p2:aS)(p3:Value)(p4:Value)(p5:Value):=Z574 p0 p1 p2 p3 p4 p5
abbrev Z576(p0:Nat)(p1:Nat)(p2:aS)(p3:Value)(p4:Value)(p5:Value):=Z575 p0 p1 p2 p3 p4 p5
abbrev Z577(p0:Nat)(p1:Nat)(p2:aS)(p3:Value)(p4:Value)(p5:Value):=Z576 p0 p1 p2 p3 p4 p5
abbrev Z578(p0:Nat)(p1:Nat)(p2:aS)(p3:Value)(p4:Value)(p5:Value):=Z577 p0 p1 p2 p3 p4 p5
abbrev Z579(p0:Nat)(p1:Nat)(p2:aS)(p3:Value)(p4:Value)(p5:Value):=Z578 p0 p1 p2 p3 p4 p5
abbrev Z580(p0:Nat)(p1:Nat)(p2:aS)(p3:Value)(p4:Value)(p5:Value):=Z579 p0 p1 p2 p3 p4 p5
abbrev Z581(p0:Nat)(p1:Nat)(p2:aS)(p3:Value)(p4:Value)(p5:Value):=Z580 p0 p1 p2 p3 p4 p5
abbrev Z582(p0:Nat)(p1:Nat)(p2:aS)(p3:Value)(p4:Value)(p5:Value):=Z581 p0 p1 p2 p3 p4 p5
abbrev Z583(p0:Nat)(p1:Nat)(p2:aS)(p3:Value)(p4:Value)(p5:Value):=Z582 p0 p1 p2 p3 p4 p5
abbrev Z584(p0:Nat)(p1:Nat)(p2:aS)(p3:Value)(p4:Value)(p5:Value):=Z583 p0 p1 p2 p3 p4 p5
abbrev Z585(p0:Nat)(p1:Nat)(p2:aS)(p3:Value)(p4:Value)(p5:Value):=Z584 p0 p1 p2 p3 p4 p5
abbrev Z586(p0:Nat)(p1:Nat)(p2:aS)(p3:Value)(p4:Value)(p5:Value):=Z585 p0 p1 p2 p3 p4 p5
abbrev Z587(p0:Nat)(p1:Nat)(p2:aS)(p3:Value)(p4:Value)(p5:Value):=Z586 p0 p1 p2 p3 p4 p5
abbrev Z588(p0:Nat)(p1:Nat)(p2:aS)(p3:Value)(p4:Value)(p5:Value):=Z587 p0 p1 p2 p3 p4 p5
abbrev Z589(p0:Nat)(p1:Nat)(p2:aS)(p3:Value)(p4:Value)(p5:Value):=Z588 p0 p1 p2 p3 p4 p5
abbrev Z590(p0:Nat)(p1:Nat)(p2:aS)(p3:Value)(p4:Value)(p5:Value):=Z589 p0 p1 p2 p3 p4 p5
abbrev Z591(p0:Nat)(p1:Nat)(p2:aS)(p3:Value)(p4:Value)(p5:Value):=Z590 p0 p1 p2 p3 p4 p5
abbrev Z592(p0:Nat)(p1:Nat)(p2:aS)(p3:Value)(p4:Value)(p5:Value):=Z591 p0 p1 p2 p3 p4 p5
abbrev Z593(p0:Nat)(p1:Nat)(p2:aS)(p3:Value)(p4:Value)(p5:Value):=Z592 p0 p1 p2 p3 p4 p5
abbrev Z594(p0:Nat)(p1:Nat)(p2:aS)(p3:Value)(p4:Value)(p5:Value):=Z593 p0 p1 p2 p3 p4 p5
abbrev Z595(p0:Nat)(p1:Nat)(p2:aS)(p3:Value)(p4:Value)(p5:Value):=Z594 p0 p1 p2 p3 p4 p5
abbrev Z596(p0:Nat)(p1:Nat)(p2:aS)(p3:Value)(p4:Value)(p5:Value):=Z595 p0 p1 p2 p3 p4 p5
abbrev Z597(p0:Nat)(p1:Nat)(p2:aS)(p3:Value)(p4:Value)(p5:Value):=Z596 p0 p1 p2 p3 p4 p5
abbrev Z598(p0:Nat)(p1:Nat)(p2:aS)(p3:Value)(p4:Value)(p5:Value):=Z597 p0 p1 p2 p3 p4 p5
abbrev Z599(p0:Nat)(p1:Nat)(p2:aS)(p3:Value)(p4:Value)(p5:Value):=Z598 p0 p1 p2 p3 p4 p5
abbrev Z600(p0:Nat)(p1:Nat)(p2:aS)(p3:Value)(p4:Value)(p5:Value):=Z599 p0 p1 p2 p3 p4 p5
abbrev Z601(p0:Nat)(p1:Nat)(p2:aS)(p3:Value)(p4:Value)(p5:Value):=Z600 p0 p1 p2 p3 p4 p5
abbrev Z602(p0:Nat)(p1:Nat)(p2:aS)(p3:Value)(p4:Value)(p5:Value):=Z601 p0 p1 p2 p3 p4 p5
abbrev Z603(p0:Nat)(p1:Nat)(p2:aS)(p3:Value)(p4:Value)(p5:Value):=Z602 p0 p1 p2 p3 p4 p5
abbrev Z604(p0:Nat)(p1:Nat)(p2:aS)(p3:Value)(p4:Value)(p5:Value):=Z603 p0 p1 p2 p3 p4 p5
abbrev Z605(p0:Nat)(p1:Nat)(p2:aS)(p3:Value)(p4:Value)(p5:Value):=Z604 p0 p1 p2 p3 p4 p5
abbrev Z606(p0:Nat)(p1:Nat)(p2:aS)(p3:Value)(p4:Value)(p5:Value):=Z605 p0 p1 p2 p3 p4 p5
abbrev Z607(p0:Nat)(p1:Nat)(p2:aS)(p3:Value)(p4:Value)(p5:Value):=Z606 p0 p1 p2 p3 p4 p5
abbrev Z608(p0:Nat)(p1:Nat)(p2:aS)(p3:Value)(p4:Value)(p5:Value):=Z607 p0 p1 p2 p3 p4 p5
abbrev Z609(p0:Nat)(p1:Nat)(p2:aS)(p3:Value)(p4:Value)(p5:Value):=Z608 p0 p1 p2 p3 p4 p5
abbrev Z610(p0:Nat)(p1:Nat)(p2:aS)(p3:Value)(p4:Value)(p5:Value):=Z609 p0 p1 p2 p3 p4 p5
abbrev Z611(p0:Nat)(p1:Nat)(p2:aS)(p3:Value)(p4:Value)(p5:Value):=Z610 p0 p1 p2 p3 p4 p5
abbrev Z612(p0:Nat)(p1:Nat)(p2:aS)(p3:Value)(p4:Value)(p5:Value):=Z611 p0 p1 p2 p3 p4 p5
abbrev Z613(p0:Nat)(p1:Nat)(p2:aS)(p3:Value)(p4:Value)(p5:Value):=Z612 p0 p1 p2 p3 p4 p5
abbrev Z614(p0:Nat)(p1:Nat)(p2:aS)(p3:Value)(p4:Value)(p5:Value):=Z613 p0 p1 p2 p3 p4 p5
abbrev Z615(p0:Nat)(p1:Nat)(p2:aS)(p3:Value)(p4:Value)(p5:Value):=Z614 p0 p1 p2 p3 p4 p5
abbrev Z616(p0:Nat)(p1:Nat)(p2:aS)(p3:Value)(p4:Value)(p5:Value):=Z615 p0 p1 p2 p3 p4 p5
abbrev Z617(p0:Nat)(p1:Nat)(p2:aS)(p3:Value)(p4:Value)(p5:Value):=Z616 p0 p1 p2 p3 p4 p5
abbrev Z618(p0:Nat)(p1:Nat)(p2:aS)(p3:Value)(p4:Value)(p5:Value):=Z617 p0 p1 p2 p3 p4 p5
abbrev Z619(p0:Nat)(p1:Nat)(p2:aS)(p3:Value)(p4:Value)(p5:Value):=Z618 p0 p1 p2 p3 p4 p5
abbrev Z620(p0:Nat)(p1:Nat)(p2:aS)(p3:Value)(p4:Value)(p5:Value):=Z619 p0 p1 p2 p3 p4 p5
abbrev Z621(p0:Nat)(p1:Nat)(p2:aS)(p3:Value)(p4:Value)(p5:Value):=Z620 p0 p1 p2 p3 p4 p5
abbrev Z622(p0:Nat)(p1:Nat)(p2:aS)(p3:Value)(p4:Value)(p5:Value):=Z621 p0 p1 p2 p3 p4 p5
abbrev Z623(p0:Nat)(p1:Nat)(p2:aS)(p3:Value)(p4:Value)(p5:Value):=Z622 p0 p1 p2 p3 p4 p5
abbrev Z624(p0:Nat)(p1:Nat)(p2:aS)(p3:Value)(p4:Value)(p5:Value):=Z623 p0 p1 p2 p3 p4 p5
abbrev Z625(p0:Nat)(p1:Nat)(p2:aS)(p3:Value)(p4:Value)(p5:Value):=Z624 p0 p1 p2 p3 p4 p5
abbrev Z626(p0:Nat)(p1:Nat)(p2:aS)(p3:Value)(p4:Value)(p5:Value):=Z625 p0 p1 p2 p3 p4 p5
abbrev Z627(p0:Nat)(p1:Nat)(p2:aS)(p3:Value)(p4:Value)(p5:Value):=Z626 p0 p1 p2 p3 p4 p5
abbrev Z628(p0:Nat)(p1:Nat)(p2:aS)(p3:Value)(p4:Value)(p5:Value):=Z627 p0 p1 p2 p3 p4 p5
abbrev Z629(p0:Nat)(p1:Nat)(p2:aS)(p3:Value)(p4:Value)(p5:Value):=Z628 p0 p1 p2 p3 p4 p5
abbrev Z630(p0:Nat)(p1:Nat)(p2:aS)(p3:Value)(p4:Value)(p5:Value):=Z629 p0 p1 p2 p3 p4 p5
abbrev Z631(p0:Nat)(p1:Nat)(p2:aS)(p3:Value)(p4:Value)(p5:Value):=Z630 p0 p1 p2 p3 p4 p5
abbrev Z632(p0:Nat)(p1:Nat)(p2:aS)(p3:Value)(p4:Value)(p5:Value):=Z631 p0 p1 p2 p3 p4 p5
abbrev Z633(p0:Nat)(p1:Nat)(p2:aS)(p3:Value)(p4:Value)(p5:Value):=Z632 p0 p1 p2 p3 p4 p5
abbrev Z634(p0:Nat)(p1:Nat)(p2:aS)(p3:Value)(p4:Value)(p5:Value):=Z633 p0 p1 p2 p3 p4 p5
abbrev Z635(p0:Nat)(p1:Nat)(p2:aS)(p3:Value)(p4:Value)(p5:Value):=Z634 p0 p1 p2 p3 p4 p5
abbrev Z636(p0:Nat)(p1:Nat)(p2:aS)(p3:Value)(p4:Value)(p5:Value):=Z635 p0 p1 p2 p3 p4 p5
abbrev Z637(p0:Nat)(p1:Nat)(p2:aS)(p3:Value)(p4:Value)(p5:Value):=Z636 p0 p1 p2 p3 p4 p5
abbrev Z638(p0:Nat)(p1:Nat)(p2:aS)(p3:Value)(p4:Value)(p5:Value):=Z637 p0 p1 p2 p3 p4 p5
abbrev Z639(p0:Nat)(p1:Nat)(p2:aS)(p3:Value)(p4:Value)(p5:Value):=Z638 p0 p1 p2 p3 p4 p5
abbrev Z640(p0:Nat)(p1:Nat)(p2:aS)(p3:Value)(p4:Value)(p5:Value):=Z639 p0 p1 p2 p3 p4 p5
abbrev Z641(p0:Nat)(p1:Nat)(p2:aS)(p3:Value)(p4:Value)(p5:Value):=Z640 p0 p1 p2 p3 p4 p5
abbrev Z642(p0:Nat)(p1:Nat)(p2:aS)(p3:Value)(p4:Value)(p5:Value):=Z641 p0 p1 p2 p3 p4 p5
abbrev Z643(p0:Nat)(p1:Nat)(p2:aS)(p3:Value)(p4:Value)(p5:Value):=Z642 p0 p1 p2 p3 p4 p5
abbrev Z644(p0:Nat)(p1:Nat)(p2:aS)(p3:Value)(p4:Value)(p5:Value):=Z643 p0 p1 p2 p3 p4 p5
abbrev Z645(p0:Nat)(p1:Nat)(p2:aS)(p3:Value)(p4:Value)(p5:Value):=Z644 p0 p1 p2 p3 p4 p5
abbrev Z646(p0:Nat)(p1:Nat)(p2:aS)(p3:Value)(p4:Value)(p5:Value):=Z645 p0 p1 p2 p3 p4 p5
abbrev Z647(p0:Nat)(p1:Nat)(p2:aS)(p3:Value)(p4:Value)(p5:Value):=Z646 p0 p1 p2 p3 p4 p5
abbrev Z648(p0:Nat)(p1:Nat)(p2:aS)(p3:Value)(p4:Value)(p5:Value):=Z647 p0 p1 p2 p3 p4 p5
abbrev Z649(p0:Nat)(p1:Nat)(p2:aS)(p3:Value)(p4:Value)(p5:Value):=Z648 p0 p1 p2 p3 p4 p5
abbrev Z650(p0:Nat)(p1:Nat)(p2:aS)(p3:Value)(p4:Value)(p5:Value):=Z649 p0 p1 p2 p3 p4 p5
abbrev Z651(p0:Nat)(p1:Nat)(p2:aS)(p3:Value)(p4:Value)(p5:Value):=Z650 p0 p1 p2 p3 p4 p5
abbrev Z652(p0:Nat)(p1:Nat)(p2:aS)(p3:Value)(p4:Value)(p5:Value):=Z651 p0 p1 p2 p3 p4 p5
abbrev Z653(p0:Nat)(p1:Nat)(p2:aS)(p3:Value)(p4:Value)(p5:Value):=Z652 p0 p1 p2 p3 p4 p5
abbrev Z654(p0:Nat)(p1:Nat)(p2:aS)(p3:Value)(p4:Value)(p5:Value):=Z653 p0 p1 p2 p3 p4 p5
abbrev Z655(p0:Nat)(p1:Nat)(p2:aS)(p3:Value)(p4:Value)(p5:Value):=Z654 p0 p1 p2 p3 p4 p5
abbrev Z656(p0:Nat)(p1:Nat)(p2:aS)(p3:Value)(p4:Value)(p5:Value):=Z655 p0 p1 p2 p3 p4 p5
abbrev Z657(p0:Nat)(p1:Nat)(p2:aS)(p3:Value)(p4:Value)(p5:Value):=Z656 p0 p1 p2 p3 p4 p5
abbrev Z658(p0:Nat)(p1:Nat)(p2:aS)(p3:Value)(p4:Value)(p5:Value):=Z657 p0 p1 p2 p3 p4 p5
abbrev Z659(p0:Nat)(p1:Nat)(p2:aS)(p3:Value)(p4:Value)(p5:Value):=Z658 p0 p1 p2 p3 p4 p5
abbrev Z660(p0:Nat)(p1:Nat)(p2:aS)(p3:Value)(p4:Value)(p5:Value):=Z659 p0 p1 p2 p3 p4 p5
abbrev Z661(p0:Nat)(p1:Nat)(p2:aS)(p3:Value)(p4:Value)(p5:Value):=Z660 p0 p1 p2 p3 p4 p5
abbrev Z662(p0:Nat)(p1:Nat)(p2:aS)(p3:Value)(p4:Value)(p5:Value):=Z661 p0 p1 p2 p3 p4 p5
abbrev Z663(p0:Nat)(p1:Nat)(p2:aS)(p3:Value)(p4:Value)(p5:Value):=Z662 p0 p1 p2 p3 p4 p5
abbrev Z664(p0:Nat)(p1:Nat)(p2:aS)(p3:Value)(p4:Value)(p5:Value):=Z663 p0 p1 p2 p3 p4 p5
abbrev Z665(p0:Nat)(p1:Nat)(p2:aS)(p3:Value)(p4:Value)(p5:Value):=Z664 p0 p1 p2 p3 p4 p5
abbrev Z666(p0:Nat)(p1:Nat)(p2:aS)(p3:Value)(p4:Value)(p5:Value):=Z665 p0 p1 p2 p3 p4 p5
abbrev Z667(p0:Nat)(p1:Nat)(p2:aS)(p3:Value)(p4:Value)(p5:Value):=Z666 p0 p1 p2 p3 p4 p5
abbrev Z668(p0:Nat)(p1:Nat)(p2:aS)(p3:Value)(p4:Value)(p5:Value):=Z667 p0 p1 p2 p3 p4 p5
abbrev Z669(p0:Nat)(p1:Nat)(p2:aS)(p3:Value)(p4:Value)(p5:Value):=Z668 p0 p1 p2 p3 p4 p5
abbrev Z670(p0:Nat)(p1:Nat)(p2:aS)(p3:Value)(p4:Value)(p5:Value):=Z669 p0 p1 p2 p3 p4 p5
abbrev Z671(p0:Nat)(p1:Nat)(p2:aS)(p3:Value)(p4:Value)(p5:Value):=Z670 p0 p1 p2 p3 p4 p5
abbrev Z672(p0:Nat)(p1:Nat)(p2:aS)(p3:Value)(p4:Value)(p5:Value):=Z671 p0 p1 p2 p3 p4 p5
abbrev Z673(p0:Nat)(p1:Nat)(p2:aS)(p3:Value)(p4:Value)(p5:Value):=Z672 p0 p1 p2 p3 p4 p5
abbrev Z674(p0:Nat)(p1:Nat)(p2:aS)(p3:Value)(p4:Value)(p5:Value):=Z673 p0 p1 p2 p3 p4 p5
abbrev Z675(p0:Nat)(p1:Nat)(p2:aS)(p3:Value)(p4:Value)(p5:Value):=Z674 p0 p1 p2 p3 p4 p5
abbrev Z676(p0:Nat)(p1:Nat)(p2:aS)(p3:Value)(p4:Value)(p5:Value):=Z675 p0 p1 p2 p3 p4 p5
abbrev Z677(p0:Nat)(p1:Nat)(p2:aS)(p3:Value)(p4:Value)(p5:Value):=Z676 p0 p1 p2 p3 p4 p5
abbrev Z678(p0:Nat)(p1:Nat)(p2:aS)(p3:Value)(p4:Value)(p5:Value):=Z677 p0 p1 p2 p3 p4 p5
abbrev Z679(p0:Nat)(p1:Nat)(p2:aS)(p3:Value)(p4:Value)(p5:Value):=Z678 p0 p1 p2 p3 p4 p5
abbrev Z680(p0:Nat)(p1:Nat)(p2:aS)(p3:Value)(p4:Value)(p5:Value):=Z679 p0 p1 p2 p3 p4 p5
abbrev Z681(p0:Nat)(p1:Nat)(p2:aS)(p3:Value)(p4:Value)(p5:Value):=Z680 p0 p1 p2 p3 p4 p5
abbrev Z682(p0:Nat)(p1:Nat)(p2:aS)(p3:Value)(p4:Value)(p5:Value):=Z681 p0 p1 p2 p3 p4 p5
abbrev Z683(p0:Nat)(p1:Nat)(p2:aS)(p3:Value)(p4:Value)(p5:Value):=Z682 p0 p1 p2 p3 p4 p5
abbrev Z684(p0:Nat)(p1:Nat)(p2:aS)(p3:Value)(p4:Value)(p5:Value):=Z683 p0 p1 p2 p3 p4 p5
abbrev Z685(p0:Nat)(p1:Nat)(p2:aS)(p3:Value)(p4:Value)(p5:Value):=Z684 p0 p1 p2 p3 p4 p5
abbrev Z686(p0:Nat)(p1:Nat)(p2:aS)(p3:Value)(p4:Value)(p5:Value):=Z685 p0 p1 p2 p3 p4 p5
abbrev Z687(p0:Nat)(p1:Nat)(p2:aS)(p3:Value)(p4:Value)(p5:Value):=Z686 p0 p1 p2 p3 p4 p5
abbrev Z688(p0:Nat)(p1:Nat)(p2:aS)(p3:Value)(p4:Value)(p5:Value):=Z687 p0 p1 p2 p3 p4 p5
abbrev Z689(p0:Nat)(p1:Nat)(p2:aS)(p3:Value)(p4:Value)(p5:Value):=Z688 p0 p1 p2 p3 p4 p5
abbrev Z690(p0:Nat)(p1:Nat)(p2:aS)(p3:Value)(p4:Value)(p5:Value):=Z689 p0 p1 p2 p3 p4 p5
abbrev Z691(p0:Nat)(p1:Nat)(p2:aS)(p3:Value)(p4:Value)(p5:Value):=Z690 p0 p1 p2 p3 p4 p5
abbrev Z692(p0:Nat)(p1:Nat)(p2:aS)(p3:Value)(p4:Value)(p5:Value):=Z691 p0 p1 p2 p3 p4 p5
abbrev Z693(p0:Nat)(p1:Nat)(p2:aS)(p3:Value)(p4:Value)(p5:Value):=Z692 p0 p1 p2 p3 p4 p5
abbrev Z694(p0:Nat)(p1:Nat)(p2:aS)(p3:Value)(p4:Value)(p5:Value):=Z693 p0 p1 p2 p3 p4 p5
abbrev Z695(p0:Nat)(p1:Nat)(p2:aS)(p3:Value)(p4:Value)(p5:Value):=Z694 p0 p1 p2 p3 p4 p5
abbrev Z696(p0:Nat)(p1:Nat)(p2:aS)(p3:Value)(p4:Value)(p5:Value):=Z695 p0 p1 p2 p3 p4 p5
abbrev Z697(p0:Nat)(p1:Nat)(p2:aS)(p3:Value)(p4:Value)(p5:Value):=Z696 p0 p1 p2 p3 p4 p5
abbrev Z698(p0:Nat)(p1:Nat)(p2:aS)(p3:Value)(p4:Value)(p5:Value):=Z697 p0 p1 p2 p3 p4 p5
abbrev Z699(p0:Nat)(p1:Nat)(p2:aS)(p3:Value)(p4:Value)(p5:Value):=Z698 p0 p1 p2 p3 p4 p5
theorem mix:Tryz.prog.follows .mixedOrders=true:=Checked.mixed Tryz.checked

def xT:TT Tryz.prog:=⟨.n (.n (.n (.n (.n (.n (.n (.n .l 2 (⟨1,8⟩,_) (ti Tryz.t2 underlying2) .l) 3 (⟨1,8⟩,_) (ti Tryz.t3 underlying3) .l) 4 (⟨1,1⟩,_) (ti Tryz.t4 underlying4) (.n .l 5 (⟨1,1⟩,_) (ti Tryz.t5 underlying5) .l)) 6 (⟨1,1⟩,_) (ti Tryz.t6 underlying6) (.n (.n .l 7 (⟨4,24⟩,_) (ti Tryz.t7 underlying7) .l) 9 (⟨1,16⟩,_) (ti Tryz.t9 underlying9) (.n .l 10 (⟨1,16⟩,_) (ti Tryz.t10 underlying10) .l))) 11 (⟨1,16⟩,_) (ti Tryz.t11 underlying11) (.n (.n (.n (.n .l 12 (⟨1,8⟩,_) (ti Tryz.t12 underlying12) .l) 13 (⟨2,24⟩,_) (ti Tryz.t13 underlying13) .l) 14 (⟨2,24⟩,_) (ti Tryz.t14 underlying14) (.n .l 15 (⟨1,8⟩,_) (ti Tryz.t15 underlying15) .l)) 16 (⟨1,8⟩,_) (ti Tryz.t16 underlying16) (.n (.n .l 17 (⟨1,8⟩,_) (ti Tryz.t17 underlying17) .l) 18 (⟨1,8⟩,_) (ti Tryz.t18 underlying18) (.n .l 19 (⟨1,8⟩,_) (ti Tryz.t19 underlying19) .l)))) 21 (⟨1,4⟩,_) (ti Tryz.t21 underlying21) (.n (.n (.n (.n (.n .l 22 (⟨5,40⟩,_) (ti Tryz.t22 underlying22) .l) 23 (⟨5,40⟩,_) (ti Tryz.t23 underlying23) .l) 24 (⟨1,24⟩,_) (ti Tryz.t24 underlying24) (.n .l 25 (⟨2,32⟩,_) (ti Tryz.t25 underlying25) .l)) 26 (⟨2,32⟩,_) (ti Tryz.t26 underlying26) (.n (.n .l 27 (⟨10,80⟩,_) (ti Tryz.t27 underlying27) .l) 28 (⟨10,80⟩,_) (ti Tryz.t28 underlying28) (.n .l 29 (⟨1,24⟩,_) (ti Tryz.t29 underlying29) .l))) 30 (⟨1,24⟩,_) (ti Tryz.t30 underlying30) (.n (.n (.n .l 31 (⟨20,208⟩,_) (ti Tryz.t31 underlying31) .l) 32 (⟨20,208⟩,_) (ti Tryz.t32 underlying32) (.n .l 33 (⟨1,24⟩,_) (ti Tryz.t33 underlying33) .l)) 36 (⟨1,24⟩,_) (ti Tryz.t36 underlying36) (.n (.n .l 37 (⟨1,24⟩,_) (ti Tryz.t37 underlying37) .l) 38 (⟨8,128⟩,_) (ti Tryz.t38 underlying38) (.n .l 39 (⟨8,128⟩,_) (ti Tryz.t39 underlying39) .l))))) 40 (⟨1,8⟩,_) (ti Tryz.t40 underlying40) (.n (.n (.n (.n (.n (.n .l 44 (⟨1,8⟩,_) (ti Tryz.t44 underlying44) .l) 45 (⟨5,40⟩,_) (ti Tryz.t45 underlying45) .l) 46 (⟨5,40⟩,_) (ti Tryz.t46 underlying46) (.n .l 48 (⟨1,8⟩,_) (ti Tryz.t48 underlying48) .l)) 49 (⟨1,24⟩,_) (ti Tryz.t49 underlying49) (.n (.n .l 52 (⟨4,32⟩,_) (ti Tryz.t52 underlying52) .l) 53 (⟨4,32⟩,_) (ti Tryz.t53 underlying53) (.n .l 54 (⟨1,24⟩,_) (ti Tryz.t54 underlying54) .l))) 55 (⟨2,16⟩,_) (ti Tryz.t55 underlying55) (.n (.n (.n .l 56 (⟨2,16⟩,_) (ti Tryz.t56 underlying56) .l) 57 (⟨5,56⟩,_) (ti Tryz.t57 underlying57) (.n .l 58 (⟨5,56⟩,_) (ti Tryz.t58 underlying58) .l)) 59 (⟨9,88⟩,_) (ti Tryz.t59 underlying59) (.n (.n .l 60 (⟨9,88⟩,_) (ti Tryz.t60 underlying60) .l) 63 (⟨1,8⟩,_) (ti Tryz.t63 underlying63) (.n .l 67 (⟨4,80⟩,_) (ti Tryz.t67 underlying67) .l)))) 68 (⟨4,80⟩,_) (ti Tryz.t68 underlying68) (.n (.n (.n (.n (.n .l 72 (⟨1,24⟩,_) (ti Tryz.t72 underlying72) .l) 75 (⟨1,8⟩,_) (ti Tryz.t75 underlying75) .l) 82 (⟨1,24⟩,_) (ti Tryz.t82 underlying82) (.n .l 83 (⟨2,16⟩,_) (ti Tryz.t83 underlying83) .l)) 84 (⟨2,16⟩,_) (ti Tryz.t84 underlying84) (.n (.n .l 86 (⟨3,56⟩,_) (ti Tryz.t86 underlying86) .l) 87 (⟨3,56⟩,_) (ti Tryz.t87 underlying87) (.n .l 89 (⟨1,8⟩,_) (ti Tryz.t89 underlying89) .l))) 102 (⟨1,8⟩,_) (ti Tryz.t102 underlying102) (.n (.n (.n .l 105 (⟨32,368⟩,_) (ti Tryz.t105 underlying105) .l) 106 (⟨32,368⟩,_) (ti Tryz.t106 underlying106) (.n .l 107 (⟨1,8⟩,_) (ti Tryz.t107 underlying107) .l)) 110 (⟨2,16⟩,_) (ti Tryz.t110 underlying110) (.n (.n .l 111 (⟨2,16⟩,_) (ti Tryz.t111 underlying111) .l) 114 (⟨1,8⟩,_) (ti Tryz.t114 underlying114) (.n .l 115 (⟨4,64⟩,_) (ti Tryz.t115 underlying115) .l)))))) 116 (⟨4,64⟩,_) (ti Tryz.t116 underlying116) (.n (.n (.n (.n (.n (.n (.n .l 117 (⟨1,8⟩,_) (ti Tryz.t117 underlying117) .l) 118 (⟨1,8⟩,_) (ti Tryz.t118 underlying118) .l) 121 (⟨10,80⟩,_) (ti Tryz.t121 underlying121) (.n .l 122 (⟨10,80⟩,_) (ti Tryz.t122 underlying122) .l)) 123 (⟨1,24⟩,_) (ti Tryz.t123 underlying123) (.n (.n .l 124 (⟨1,24⟩,_) (ti Tryz.t124 underlying124) .l) 125 (⟨24,240⟩,_) (ti Tryz.t125 underlying125) (.n .l 126 (⟨24,240⟩,_) (ti Tryz.t126 underlying126) .l))) 127 (⟨1,8⟩,_) (ti Tryz.t127 underlying127) (.n (.n (.n (.n .l 131 (⟨1,8⟩,_) (ti Tryz.t131 underlying131) .l) 132 (⟨12,144⟩,_) (ti Tryz.t132 underlying132) .l) 133 (⟨12,144⟩,_) (ti Tryz.t133 underlying133) (.n .l 136 (⟨3,24⟩,_) (ti Tryz.t136 underlying136) .l)) 137 (⟨3,24⟩,_) (ti Tryz.t137 underlying137) (.n (.n .l 139 (⟨1,8⟩,_) (ti Tryz.t139 underlying139) .l) 140 (⟨6,80⟩,_) (ti Tryz.t140 underlying140) (.n .l 141 (⟨6,80⟩,_) (ti Tryz.t141 underlying141) .l)))) 144 (⟨5,40⟩,_) (ti Tryz.t144 underlying144) (.n (.n (.n (.n (.n .l 145 (⟨5,40⟩,_) (ti Tryz.t145 underlying145) .l) 158 (⟨1,8⟩,_) (ti Tryz.t158 underlying158) .l) 159 (⟨1,24⟩,_) (ti Tryz.t159 underlying159) (.n .l 160 (⟨2,32⟩,_) (ti Tryz.t160 underlying160) .l)) 161 (⟨2,32⟩,_) (ti Tryz.t161 underlying161) (.n (.n .l 167 (⟨1,8⟩,_) (ti Tryz.t167 underlying167) .l) 171 (⟨2,16⟩,_) (ti Tryz.t171 underlying171) (.n .l 172 (⟨2,16⟩,_) (ti Tryz.t172 underlying172) .l))) 174 (⟨1,8⟩,_) (ti Tryz.t174 underlying174) (.n (.n (.n .l 179 (⟨1,8⟩,_) (ti Tryz.t179 underlying179) .l) 182 (⟨1,8⟩,_) (ti Tryz.t182 underlying182) (.n .l 190 (⟨1,8⟩,_) (ti Tryz.t190 underlying190) .l)) 197 (⟨1,8⟩,_) (ti Tryz.t197 underlying197) (.n (.n .l 201 (⟨1,8⟩,_) (ti Tryz.t201 underlying201) .l) 203 (⟨1,8⟩,_) (ti Tryz.t203 underlying203) (.n .l 204 (⟨1,24⟩,_) (ti Tryz.t204 underlying204) .l))))) 220 (⟨1,8⟩,_) (ti Tryz.t220 underlying220) (.n (.n (.n (.n (.n (.n .l 222 (⟨1,8⟩,_) (ti Tryz.t222 underlying222) .l) 225 (⟨1,8⟩,_) (ti Tryz.t225 underlying225) .l) 227 (⟨1,8⟩,_) (ti Tryz.t227 underlying227) (.n .l 228 (⟨1,8⟩,_) (ti Tryz.t228 underlying228) .l)) 230 (⟨1,8⟩,_) (ti Tryz.t230 underlying230) (.n (.n .l 233 (⟨1,8⟩,_) (ti Tryz.t233 underlying233) .l) 236 (⟨1,8⟩,_) (ti Tryz.t236 underlying236) (.n .l 237 (⟨1,8⟩,_) (ti Tryz.t237 underlying237) .l))) 243 (⟨2,16⟩,_) (ti Tryz.t243 underlying243) (.n (.n (.n .l 244 (⟨2,16⟩,_) (ti Tryz.t244 underlying244) .l) 250 (⟨7,56⟩,_) (ti Tryz.t250 underlying250) (.n .l 251 (⟨7,56⟩,_) (ti Tryz.t251 underlying251) .l)) 254 (⟨1,8⟩,_) (ti Tryz.t254 underlying254) (.n (.n .l 255 (⟨1,8⟩,_) (ti Tryz.t255 underlying255) .l) 258 (⟨1,8⟩,_) (ti Tryz.t258 underlying258) (.n .l 261 (⟨8,32⟩,_) (ti Tryz.t261 underlying261) .l)))) 262 (⟨8,32⟩,_) (ti Tryz.t262 underlying262) (.n (.n (.n (.n (.n .l 267 (⟨1,8⟩,_) (ti Tryz.t267 underlying267) .l) 268 (⟨1,8⟩,_) (ti Tryz.t268 underlying268) .l) 339 (⟨1,8⟩,_) (ti Tryz.t339 underlying339) (.n .l 350 (⟨1,4⟩,_) (ti Tryz.t350 underlying350) .l)) 436 (⟨4,40⟩,_) (ti Tryz.t436 underlying436) (.n (.n .l 437 (⟨4,40⟩,_) (ti Tryz.t437 underlying437) .l) 438 (⟨0,0⟩,_) (ti Tryz.t438 underlying438) (.n .l 439 (⟨0,0⟩,_) (ti Tryz.t439 underlying439) .l))) 440 (⟨0,0⟩,_) (ti Tryz.t440 underlying440) (.n (.n (.n .l 441 (⟨1,1⟩,_) (ti Tryz.t441 underlying441) .l) 442 (⟨1,1⟩,_) (ti Tryz.t442 underlying442) (.n .l 443 (⟨1,8⟩,_) (ti Tryz.t443 underlying443) .l)) 444 (⟨1,4⟩,_) (ti Tryz.t444 underlying444) (.n (.n .l 445 (⟨1,4⟩,_) (ti Tryz.t445 underlying445) .l) 446 (⟨11,48⟩,_) (ti Tryz.t446 underlying446) (.n .l 447 (⟨11,48⟩,_) (ti Tryz.t447 underlying447) .l)))))),
 .n (.n (.n (.n (.n (.n (.n (.n .l 2 [.j 0] ⟨_,zeroValue2,rfl,rfl⟩ .l) 3 [.j 0] ⟨_,zeroValue3,rfl,rfl⟩ .l) 4 [.k false] ⟨_,zeroValue4,rfl,rfl⟩ (.n .l 5 [.lit (.int .u8 0)] ⟨_,zeroValue5,rfl,rfl⟩ .l)) 6 [.lit (.int .u8 0)] ⟨_,zeroValue6,rfl,rfl⟩ (.n (.n .l 7 [.j 0,.j 0,.k false,.lit (.int .u8 0)] ⟨_,zeroValue7,rfl,rfl⟩ .l) 9 [.lit (.string ⟨#[]⟩)] ⟨_,zeroValue9,rfl,rfl⟩ (.n .l 10 [.lit (.string ⟨#[]⟩)] ⟨_,zeroValue10,rfl,rfl⟩ .l))) 11 [.lit (.string ⟨#[]⟩)] ⟨_,zeroValue11,rfl,rfl⟩ (.n (.n (.n (.n .l 12 [.lit (.int .u64 0)] ⟨_,zeroValue12,rfl,rfl⟩ .l) 13 [.lit (.string ⟨#[]⟩),.lit (.int .u64 0)] ⟨_,zeroValue13,rfl,rfl⟩ .l) 14 [.lit (.string ⟨#[]⟩),.lit (.int .u64 0)] ⟨_,zeroValue14,rfl,rfl⟩ (.n .l 15 Z23 ⟨_,zeroValue15,rfl,rfl⟩ .l)) 16 Z23 ⟨_,zeroValue16,rfl,rfl⟩ (.n (.n .l 17 Z23 ⟨_,zeroValue17,rfl,rfl⟩ .l) 18 Z23 ⟨_,zeroValue18,rfl,rfl⟩ (.n .l 19 Z23 ⟨_,zeroValue19,rfl,rfl⟩ .l)))) 21 [.lit (.int .i32 0)] ⟨_,zeroValue21,rfl,rfl⟩ (.n (.n (.n (.n (.n .l 22 [.j 0,.j 0,.j 0,.j 0,.j 0] ⟨_,zeroValue22,rfl,rfl⟩ .l) 23 [.j 0,.j 0,.j 0,.j 0,.j 0] ⟨_,zeroValue23,rfl,rfl⟩ .l) 24 [.sl 1 []] ⟨_,zeroValue24,rfl,rfl⟩ (.n .l 25 [.j 0,.sl 1 []] ⟨_,zeroValue25,rfl,rfl⟩ .l)) 26 [.j 0,.sl 1 []] ⟨_,zeroValue26,rfl,rfl⟩ (.n (.n .l 27 [.j 0,.j 0,.k false,.j 0,.j 0,.j 0,.j 0,.j 0,.j 0,.k false] ⟨_,zeroValue27,rfl,rfl⟩ .l) 28 [.j 0,.j 0,.k false,.j 0,.j 0,.j 0,.j 0,.j 0,.j 0,.k false] ⟨_,zeroValue28,rfl,rfl⟩ (.n .l 29 [.sl 1 []] ⟨_,zeroValue29,rfl,rfl⟩ .l))) 30 [.sl 3 []] ⟨_,zeroValue30,rfl,rfl⟩ (.n (.n (.n .l 31 [.j 0,.j 0,.j 0,.j 0,.j 0,.j 0,.sl 1 [],.j 0,.j 0,.k false,.j 0,.j 0,.j 0,.j 0,.j 0,.j 0,.k false,.sl 1 [],.j 0,.sl 3 []] ⟨_,zeroValue31,rfl,rfl⟩ .l) 32 [.j 0,.j 0,.j 0,.j 0,.j 0,.j 0,.sl 1 [],.j 0,.j 0,.k false,.j 0,.j 0,.j 0,.j 0,.j 0,.j 0,.k false,.sl 1 [],.j 0,.sl 3 []] ⟨_,zeroValue32,rfl,rfl⟩ (.n .l 33 [.sl 1 []] ⟨_,zeroValue33,rfl,rfl⟩ .l)) 36 [.sl 5 []] ⟨_,zeroValue36,rfl,rfl⟩ (.n (.n .l 37 [.sl 5 []] ⟨_,zeroValue37,rfl,rfl⟩ .l) 38 [.j 0,.sl 5 [],.sl 5 [],.j 0,.j 0,.j 0,.sl 1 [],.sl 1 []] ⟨_,zeroValue38,rfl,rfl⟩ (.n .l 39 [.j 0,.sl 5 [],.sl 5 [],.j 0,.j 0,.j 0,.sl 1 [],.sl 1 []] ⟨_,zeroValue39,rfl,rfl⟩ .l))))) 40 [.j 0] ⟨_,zeroValue40,rfl,rfl⟩ (.n (.n (.n (.n (.n (.n .l 44 Z18 ⟨_,zeroValue44,rfl,rfl⟩ .l) 45 [.j 0,.j 0,.j 0,.j 0,.j 0] ⟨_,zeroValue45,rfl,rfl⟩ .l) 46 [.j 0,.j 0,.j 0,.j 0,.j 0] ⟨_,zeroValue46,rfl,rfl⟩ (.n .l 48 Z18 ⟨_,zeroValue48,rfl,rfl⟩ .l)) 49 [.sl 4 []] ⟨_,zeroValue49,rfl,rfl⟩ (.n (.n .l 52 [.j 0,.j 0,.j 0,.j 0] ⟨_,zeroValue52,rfl,rfl⟩ .l) 53 [.j 0,.j 0,.j 0,.j 0] ⟨_,zeroValue53,rfl,rfl⟩ (.n .l 54 [.sl 2 []] ⟨_,zeroValue54,rfl,rfl⟩ .l))) 55 [.j 0,.j 0] ⟨_,zeroValue55,rfl,rfl⟩ (.n (.n (.n .l 56 [.j 0,.j 0] ⟨_,zeroValue56,rfl,rfl⟩ .l) 57 [.sl 2 [],.j 0,.j 0,.j 0,.j 0] ⟨_,zeroValue57,rfl,rfl⟩ (.n .l 58 [.sl 2 [],.j 0,.j 0,.j 0,.j 0] ⟨_,zeroValue58,rfl,rfl⟩ .l)) 59 [.sl 2 [],.j 0,.j 0,.j 0,.j 0,.j 0,.j 0,.j 0,.j 0] ⟨_,zeroValue59,rfl,rfl⟩ (.n (.n .l 60 [.sl 2 [],.j 0,.j 0,.j 0,.j 0,.j 0,.j 0,.j 0,.j 0] ⟨_,zeroValue60,rfl,rfl⟩ .l) 63 Z18 ⟨_,zeroValue63,rfl,rfl⟩ (.n .l 67 [.sl 1 [],.sl 1 [],.sl 1 [],.j 0] ⟨_,zeroValue67,rfl,rfl⟩ .l)))) 68 [.sl 1 [],.sl 1 [],.sl 1 [],.j 0] ⟨_,zeroValue68,rfl,rfl⟩ (.n (.n (.n (.n (.n .l 72 [.sl 6 []] ⟨_,zeroValue72,rfl,rfl⟩ .l) 75 Z18 ⟨_,zeroValue75,rfl,rfl⟩ .l) 82 [.sl 2 []] ⟨_,zeroValue82,rfl,rfl⟩ (.n .l 83 [.j 0,.j 0] ⟨_,zeroValue83,rfl,rfl⟩ .l)) 84 [.j 0,.j 0] ⟨_,zeroValue84,rfl,rfl⟩ (.n (.n .l 86 [.sl 1 [],.j 0,.sl 6 []] ⟨_,zeroValue86,rfl,rfl⟩ .l) 87 [.sl 1 [],.j 0,.sl 6 []] ⟨_,zeroValue87,rfl,rfl⟩ (.n .l 89 Z18 ⟨_,zeroValue89,rfl,rfl⟩ .l))) 102 Z23 ⟨_,zeroValue102,rfl,rfl⟩ (.n (.n (.n .l 105 [.j 0,.j 0,.j 0,.j 0,.j 0,.j 0,.sl 1 [],.j 0,.j 0,.k false,.j 0,.j 0,.j 0,.j 0,.j 0,.j 0,.k false,.sl 1 [],.j 0,.sl 3 [],.j 0,.sl 5 [],.sl 5 [],.j 0,.j 0,.j 0,.sl 1 [],.sl 1 [],.j 0,.j 0,.j 0,.j 0] ⟨_,zeroValue105,rfl,rfl⟩ .l) 106 [.j 0,.j 0,.j 0,.j 0,.j 0,.j 0,.sl 1 [],.j 0,.j 0,.k false,.j 0,.j 0,.j 0,.j 0,.j 0,.j 0,.k false,.sl 1 [],.j 0,.sl 3 [],.j 0,.sl 5 [],.sl 5 [],.j 0,.j 0,.j 0,.sl 1 [],.sl 1 [],.j 0,.j 0,.j 0,.j 0] ⟨_,zeroValue106,rfl,rfl⟩ (.n .l 107 Z23 ⟨_,zeroValue107,rfl,rfl⟩ .l)) 110 [.j 0,.j 0] ⟨_,zeroValue110,rfl,rfl⟩ (.n (.n .l 111 [.j 0,.j 0] ⟨_,zeroValue111,rfl,rfl⟩ .l) 114 [.lit (.map none)] ⟨_,zeroValue114,rfl,rfl⟩ (.n .l 115 [.j 0,.sl 1 [],.sl 1 [],.lit (.map none)] ⟨_,zeroValue115,rfl,rfl⟩ .l)))))) 116 [.j 0,.sl 1 [],.sl 1 [],.lit (.map none)] ⟨_,zeroValue116,rfl,rfl⟩ (.n (.n (.n (.n (.n (.n (.n .l 117 Z18 ⟨_,zeroValue117,rfl,rfl⟩ .l) 118 Z23 ⟨_,zeroValue118,rfl,rfl⟩ .l) 121 [.j 0,.j 0,.k false,.j 0,.j 0,.j 0,.j 0,.j 0,.j 0,.k false] ⟨_,zeroValue121,rfl,rfl⟩ (.n .l 122 [.j 0,.j 0,.k false,.j 0,.j 0,.j 0,.j 0,.j 0,.j 0,.k false] ⟨_,zeroValue122,rfl,rfl⟩ .l)) 123 [.sl 1 []] ⟨_,zeroValue123,rfl,rfl⟩ (.n (.n .l 124 [.sl 7 []] ⟨_,zeroValue124,rfl,rfl⟩ .l) 125 [.j 0,.j 0,.k false,.j 0,.j 0,.j 0,.j 0,.j 0,.j 0,.k false,.sl 2 [],.j 0,.j 0,.j 0,.j 0,.j 0,.j 0,.j 0,.j 0,.j 0,.j 0,.j 0,.sl 1 [],.sl 7 []] ⟨_,zeroValue125,rfl,rfl⟩ (.n .l 126 [.j 0,.j 0,.k false,.j 0,.j 0,.j 0,.j 0,.j 0,.j 0,.k false,.sl 2 [],.j 0,.j 0,.j 0,.j 0,.j 0,.j 0,.j 0,.j 0,.j 0,.j 0,.j 0,.sl 1 [],.sl 7 []] ⟨_,zeroValue126,rfl,rfl⟩ .l))) 127 Z23 ⟨_,zeroValue127,rfl,rfl⟩ (.n (.n (.n (.n .l 131 [.lit (.map none)] ⟨_,zeroValue131,rfl,rfl⟩ .l) 132 [.j 0,.j 0,.j 0,.j 0,.j 0,.lit (.map none),.sl 1 [],.k false,.sl 1 [],.sl 1 [],.j 0,.j 0] ⟨_,zeroValue132,rfl,rfl⟩ .l) 133 [.j 0,.j 0,.j 0,.j 0,.j 0,.lit (.map none),.sl 1 [],.k false,.sl 1 [],.sl 1 [],.j 0,.j 0] ⟨_,zeroValue133,rfl,rfl⟩ (.n .l 136 [.j 0,.j 0,.j 0] ⟨_,zeroValue136,rfl,rfl⟩ .l)) 137 [.j 0,.j 0,.j 0] ⟨_,zeroValue137,rfl,rfl⟩ (.n (.n .l 139 Z18 ⟨_,zeroValue139,rfl,rfl⟩ .l) 140 [.j 0,.j 0,.sl 1 [],.sl 1 [],.j 0,.j 0] ⟨_,zeroValue140,rfl,rfl⟩ (.n .l 141 [.j 0,.j 0,.sl 1 [],.sl 1 [],.j 0,.j 0] ⟨_,zeroValue141,rfl,rfl⟩ .l)))) 144 [.j 0,.j 0,.j 0,.j 0,.j 0] ⟨_,zeroValue144,rfl,rfl⟩ (.n (.n (.n (.n (.n .l 145 [.j 0,.j 0,.j 0,.j 0,.j 0] ⟨_,zeroValue145,rfl,rfl⟩ .l) 158 Z23 ⟨_,zeroValue158,rfl,rfl⟩ .l) 159 [.sl 1 []] ⟨_,zeroValue159,rfl,rfl⟩ (.n .l 160 [.lit (.pointer none),.sl 1 []] ⟨_,zeroValue160,rfl,rfl⟩ .l)) 161 [.lit (.pointer none),.sl 1 []] ⟨_,zeroValue161,rfl,rfl⟩ (.n (.n .l 167 Z18 ⟨_,zeroValue167,rfl,rfl⟩ .l) 171 [.j 0,.lit .nilFunc] ⟨_,zeroValue171,rfl,rfl⟩ (.n .l 172 [.j 0,.lit .nilFunc] ⟨_,zeroValue172,rfl,rfl⟩ .l))) 174 [.lit (.map none)] ⟨_,zeroValue174,rfl,rfl⟩ (.n (.n (.n .l 179 Z18 ⟨_,zeroValue179,rfl,rfl⟩ .l) 182 Z18 ⟨_,zeroValue182,rfl,rfl⟩ (.n .l 190 Z18 ⟨_,zeroValue190,rfl,rfl⟩ .l)) 197 Z18 ⟨_,zeroValue197,rfl,rfl⟩ (.n (.n .l 201 [.lit (.map none)] ⟨_,zeroValue201,rfl,rfl⟩ .l) 203 Z18 ⟨_,zeroValue203,rfl,rfl⟩ (.n .l 204 [.sl 1 []] ⟨_,zeroValue204,rfl,rfl⟩ .l))))) 220 Z23 ⟨_,zeroValue220,rfl,rfl⟩ (.n (.n (.n (.n (.n (.n .l 222 Z18 ⟨_,zeroValue222,rfl,rfl⟩ .l) 225 Z18 ⟨_,zeroValue225,rfl,rfl⟩ .l) 227 Z18 ⟨_,zeroValue227,rfl,rfl⟩ (.n .l 228 Z18 ⟨_,zeroValue228,rfl,rfl⟩ .l)) 230 Z18 ⟨_,zeroValue230,rfl,rfl⟩ (.n (.n .l 233 [.lit (.map none)] ⟨_,zeroValue233,rfl,rfl⟩ .l) 236 [.lit (.map none)] ⟨_,zeroValue236,rfl,rfl⟩ (.n .l 237 [.lit (.map none)] ⟨_,zeroValue237,rfl,rfl⟩ .l))) 243 [.j 0,.j 0] ⟨_,zeroValue243,rfl,rfl⟩ (.n (.n (.n .l 244 [.j 0,.j 0] ⟨_,zeroValue244,rfl,rfl⟩ .l) 250 [.j 0,.k false,.j 0,.j 0,.j 0,.j 0,.k false] ⟨_,zeroValue250,rfl,rfl⟩ (.n .l 251 [.j 0,.k false,.j 0,.j 0,.j 0,.j 0,.k false] ⟨_,zeroValue251,rfl,rfl⟩ .l)) 254 Z18 ⟨_,zeroValue254,rfl,rfl⟩ (.n (.n .l 255 Z18 ⟨_,zeroValue255,rfl,rfl⟩ .l) 258 Z18 ⟨_,zeroValue258,rfl,rfl⟩ (.n .l 261 [.k false,.k false,.j 0,.j 0,.k false,.k false,.k false,.k false] ⟨_,zeroValue261,rfl,rfl⟩ .l)))) 262 [.k false,.k false,.j 0,.j 0,.k false,.k false,.k false,.k false] ⟨_,zeroValue262,rfl,rfl⟩ (.n (.n (.n (.n (.n .l 267 Z18 ⟨_,zeroValue267,rfl,rfl⟩ .l) 268 Z18 ⟨_,zeroValue268,rfl,rfl⟩ .l) 339 Z18 ⟨_,zeroValue339,rfl,rfl⟩ (.n .l 350 [.lit (.int .u32 0)] ⟨_,zeroValue350,rfl,rfl⟩ .l)) 436 [.lit (.pointer none),.lit (.pointer none),.lit (.pointer none),.lit (.string ⟨#[]⟩)] ⟨_,zeroValue436,rfl,rfl⟩ (.n (.n .l 437 [.lit (.pointer none),.lit (.pointer none),.lit (.pointer none),.lit (.string ⟨#[]⟩)] ⟨_,zeroValue437,rfl,rfl⟩ .l) 438 [] ⟨_,zeroValue438,rfl,rfl⟩ (.n .l 439 [] ⟨_,zeroValue439,rfl,rfl⟩ .l))) 440 [] ⟨_,zeroValue440,rfl,rfl⟩ (.n (.n (.n .l 441 [.lit (.int .u8 0)] ⟨_,zeroValue441,rfl,rfl⟩ .l) 442 [.lit (.int .u8 0)] ⟨_,zeroValue442,rfl,rfl⟩ (.n .l 443 Z18 ⟨_,zeroValue443,rfl,rfl⟩ .l)) 444 [.lit (.int .i32 0)] ⟨_,zeroValue444,rfl,rfl⟩ (.n (.n .l 445 [.lit (.int .i32 0)] ⟨_,zeroValue445,rfl,rfl⟩ .l) 446 Z19 ⟨_,zeroValue446,rfl,rfl⟩ (.n .l 447 Z19 ⟨_,zeroValue447,rfl,rfl⟩ .l)))))),Checked.mixed Tryz.checked⟩
theorem fH:SliceTy Tryz.prog 24 3 1 8 (.int .i64 0):=⟨underlying24,⟨Tryz.t3,by kernel_rfl,rfl,rfl,rfl⟩,rfl,by decide⟩
instance:SO Tryz.prog 24 3 1:=⟨fH.of⟩
theorem aRy:SliceTy Tryz.prog 159 5 1 1 (.int .u8 0):=⟨underlying159,⟨Tryz.t5,by kernel_rfl,rfl,rfl,rfl⟩,rfl,by decide⟩
instance:SO Tryz.prog 159 5 1:=⟨aRy.of⟩
theorem bTq:dJ Tryz.prog 5:=⟨isAgg5,sizeOf5⟩
instance:I1 Tryz.prog 5:=⟨bTq⟩
theorem wM:gL Tryz.prog 26 2:=⟨isAgg26,sizeOf26⟩
theorem bKu:bG Tryz.prog 32 0 0:=bB runUnderlying32 rfl rfl sizeOf23
theorem aGa:gL Tryz.prog 23 5:=⟨isAgg23,sizeOf23⟩
theorem aRf:dJ Tryz.prog 29:=⟨isAgg29,sizeOf29⟩
instance:I1 Tryz.prog 29:=⟨aRf⟩
theorem dG:dJ Tryz.prog 3:=⟨isAgg3,sizeOf3⟩
instance:I1 Tryz.prog 3:=⟨dG⟩
theorem aXb:gL Tryz.prog 28 10:=⟨isAgg28,sizeOf28⟩
theorem bOo:SliceTy Tryz.prog 30 137 3 24 (.agg #[.int .i64 0,.int .i64 0,.int .i64 0]):=⟨underlying30,⟨Tryz.t137,by kernel_rfl,rfl,rfl,rfl⟩,rfl,by decide⟩
instance:SO Tryz.prog 30 137 3:=⟨bOo.of⟩
theorem aCw:bG Tryz.prog 26 0 0:=bB runUnderlying26 rfl rfl sizeOf3
instance:FA Tryz.prog 26 0 0:=⟨aCw⟩
theorem aMw:SliceTy Tryz.prog 49 53 4 32 (.agg #[.int .i64 0,.int .i64 0,.int .i64 0,.int .i64 0]):=⟨underlying49,⟨Tryz.t53,by kernel_rfl,rfl,rfl,rfl⟩,rfl,by decide⟩
instance:SO Tryz.prog 49 53 4:=⟨aMw.of⟩
theorem aXd:gL Tryz.prog 53 4:=⟨isAgg53,sizeOf53⟩
theorem bRa:gL Tryz.prog 84 2:=⟨isAgg84,sizeOf84⟩
theorem bTz:SliceTy Tryz.prog 72 141 6 80 (.agg #[.int .i64 0,.int .i64 0,.slice none 0 0,.slice none 0 0,.int .i64 0,.int .i64 0]):=⟨underlying72,⟨Tryz.t141,by kernel_rfl,rfl,rfl,rfl⟩,rfl,by decide⟩
instance:SO Tryz.prog 72 141 6:=⟨bTz.of⟩
theorem bRz:dJ Tryz.prog 49:=⟨isAgg49,sizeOf49⟩
instance:I1 Tryz.prog 49:=⟨bRz⟩
theorem bFq:SliceTy Tryz.prog 37 46 5 40 (.agg #[.int .i64 0,.int .i64 0,.int .i64 0,.int .i64 0,.int .i64 0]):=⟨underlying37,⟨Tryz.t46,by kernel_rfl,rfl,rfl,rfl⟩,rfl,by decide⟩
instance:SO Tryz.prog 37 46 5:=⟨bFq.of⟩
theorem aHq:bG Tryz.prog 26 1 1:=bB runUnderlying26 rfl rfl sizeOf24
instance:FA Tryz.prog 26 1 1:=⟨aHq⟩
theorem aAj:dJ Tryz.prog 24:=⟨isAgg24,sizeOf24⟩
instance:I1 Tryz.prog 24:=⟨aAj⟩
theorem sP:oV Tryz.prog 3 VI:=bHv underlying3
theorem sZ:gL Tryz.prog 46 5:=⟨isAgg46,sizeOf46⟩
theorem aOl:bG Tryz.prog 46 3 3:=bB runUnderlying46 rfl rfl sizeOf3
instance:FA Tryz.prog 46 3 3:=⟨aOl⟩
theorem bKy:bG Tryz.prog 46 0 0:=bB runUnderlying46 rfl rfl sizeOf3
instance:FA Tryz.prog 46 0 0:=⟨bKy⟩
theorem bKz:bG Tryz.prog 46 1 1:=bB runUnderlying46 rfl rfl sizeOf3
instance:FA Tryz.prog 46 1 1:=⟨bKz⟩
theorem aOk:bG Tryz.prog 46 2 2:=bB runUnderlying46 rfl rfl sizeOf3
instance:FA Tryz.prog 46 2 2:=⟨aOk⟩
theorem bLa:bG Tryz.prog 46 4 4:=bB runUnderlying46 rfl rfl sizeOf3
theorem aMy:jJ Tryz.prog 111 (.agg #[.int .i64 0,.int .i64 0]) [(0,1),(1,1)]:=⟨zeroValue111,_,runUnderlying111,λw=>by simp[sizeOf3]⟩
theorem kM:gL Tryz.prog 111 2:=⟨isAgg111,sizeOf111⟩
theorem wA:bG Tryz.prog 111 0 0:=bB runUnderlying111 rfl rfl sizeOf3
instance:FA Tryz.prog 111 0 0:=⟨wA⟩
theorem bHa:bG Tryz.prog 111 1 1:=bB runUnderlying111 rfl rfl sizeOf3
instance:FA Tryz.prog 111 1 1:=⟨bHa⟩
theorem bQl:jJ Tryz.prog 116 (.agg #[.int .i64 0,.slice none 0 0,.slice none 0 0,.map none]) [(0,2),(2,1),(3,1)]:=⟨zeroValue116,_,runUnderlying116,λw=>by simp[sizeOf114,sizeOf24,sizeOf26]⟩
theorem bGx:aWv Tryz.prog 46 aJ:=by
  rintro⟨a0,a1,a2,a3,a4⟩ ⟨b0,b1,b2,b3,b4⟩ w
  simp[aJ,bD,go_sem,Op.eqFields,Program.fieldsOf]<;>(repeat' split)<;>simp_all
theorem bRe(b:Bool)(a:aC)(w:World):(Instr.checkKey b 10000 46 (.agg ((aJ a).map bD).toArray)).run Tryz.prog w=.ok () w:=by
  obtain⟨a1,a2,a3,a4,a5⟩:=a;rw[show(10000:Nat)=9990+10 from rfl]
  generalize(9990:Nat)=m
  simp[Instr.checkKey,aJ,bD,go_sem,Std.Legacy.Range.forIn_eq_forIn_range',Std.Legacy.Range.size]
theorem aYs:oV Tryz.prog 46 (λa:aC=>Value.agg ((aJ a).map bD).toArray):=
  aKv underlying46 bGx bRe (λa w=>aYr _ rfl _ _) (by
    rintro⟨a1,a2,a3,a4,a5⟩ ⟨b1,b2,b3,b4,b5⟩ h
    simp[aJ] at h|-
    simp_all) (λ_=>rfl)
theorem aSv:aWv Tryz.prog 111 aF:=by
  rintro⟨a0,a1⟩ ⟨b0,b1⟩ w
  simp[aF,bD,go_sem,Op.eqFields,Program.fieldsOf]<;>(repeat' split)<;>simp_all
theorem bOz(b:Bool)(a:aB)(w:World):(Instr.checkKey b 10000 111 (.agg ((aF a).map bD).toArray)).run Tryz.prog w=.ok () w:=by
  obtain⟨a1,a2⟩:=a;rw[show(10000:Nat)=9990+10 from rfl]
  generalize(9990:Nat)=m
  simp[Instr.checkKey,aF,bD,go_sem,Std.Legacy.Range.forIn_eq_forIn_range',Std.Legacy.Range.size]
theorem yQ:oV Tryz.prog 111 (λa:aB=>Value.agg ((aF a).map bD).toArray):=
  aKv underlying111 aSv bOz (λa w=>aYr _ rfl _ _) (by
    rintro⟨a1,a2⟩ ⟨b1,b2⟩ h
    simp[aF] at h|-
    simp_all) (λ_=>rfl)
theorem wB:bG Tryz.prog 116 1 2:=bB runUnderlying116 rfl rfl sizeOf24
instance:FA Tryz.prog 116 1 2:=⟨wB⟩
theorem aKm:bG Tryz.prog 116 0 0:=bB runUnderlying116 rfl rfl sizeOf26
instance:FA Tryz.prog 116 0 0:=⟨aKm⟩
theorem bSp:jJ Tryz.prog 46 (.agg #[.int .i64 0,.int .i64 0,.int .i64 0,.int .i64 0,.int .i64 0]) [(0,1),(1,1),(2,1),(3,1),(4,1)]:=⟨zeroValue46,_,runUnderlying46,λw=>by simp[sizeOf3]⟩
theorem aAe:bG Tryz.prog 116 2 3:=bB runUnderlying116 rfl rfl sizeOf114
theorem aGl:dJ Tryz.prog 114:=⟨isAgg114,sizeOf114⟩
theorem bSq:jJ Tryz.prog 53 (.agg #[.int .i64 0,.int .i64 0,.int .i64 0,.int .i64 0]) [(0,1),(1,1),(2,1),(3,1)]:=⟨zeroValue53,_,runUnderlying53,λw=>by simp[sizeOf3]⟩
theorem bOs:gL Tryz.prog 137 3:=⟨isAgg137,sizeOf137⟩
theorem bLi:bG Tryz.prog 84 0 0:=bB runUnderlying84 rfl rfl sizeOf3
instance:FA Tryz.prog 84 0 0:=⟨bLi⟩
theorem bLj:bG Tryz.prog 84 1 1:=bB runUnderlying84 rfl rfl sizeOf3
instance:FA Tryz.prog 84 1 1:=⟨bLj⟩
theorem bHi:bG Tryz.prog 206 1 1:=bB runUnderlying206 rfl rfl sizeOf204
instance:FA Tryz.prog 206 1 1:=⟨bHi⟩
theorem bPr:dJ Tryz.prog 204:=⟨isAgg204,sizeOf204⟩
instance:I1 Tryz.prog 204:=⟨bPr⟩
theorem zR:SliceTy Tryz.prog 36 145 5 40 (.agg #[.int .i64 0,.int .i64 0,.int .i64 0,.int .i64 0,.int .i64 0]):=⟨underlying36,⟨Tryz.t145,by kernel_rfl,rfl,rfl,rfl⟩,rfl,by decide⟩
instance:SO Tryz.prog 36 145 5:=⟨zR.of⟩
theorem sB:gL Tryz.prog 145 5:=⟨isAgg145,sizeOf145⟩
theorem bHg:bG Tryz.prog 145 0 0:=bB runUnderlying145 rfl rfl sizeOf3
instance:FA Tryz.prog 145 0 0:=⟨bHg⟩
theorem bPf:aWv Tryz.prog 145 aH:=by
  rintro⟨a0,a1,a2,a3,a4⟩ ⟨b0,b1,b2,b3,b4⟩ w
  simp[aH,bD,go_sem,Op.eqFields,Program.fieldsOf]<;>(repeat' split)<;>simp_all
theorem bKp:bG Tryz.prog 23 2 2:=bB runUnderlying23 rfl rfl sizeOf3
theorem bKq:bG Tryz.prog 23 3 3:=bB runUnderlying23 rfl rfl sizeOf3
theorem bKr:bG Tryz.prog 23 4 4:=bB runUnderlying23 rfl rfl sizeOf3
instance:FA Tryz.prog 23 4 4:=⟨bKr⟩
theorem aUt:bG Tryz.prog 145 2 2:=bB runUnderlying145 rfl rfl sizeOf3
instance:FA Tryz.prog 145 2 2:=⟨aUt⟩
theorem aKo:bG Tryz.prog 145 3 3:=bB runUnderlying145 rfl rfl sizeOf3
theorem aUs:bG Tryz.prog 145 1 1:=bB runUnderlying145 rfl rfl sizeOf3
instance:FA Tryz.prog 145 1 1:=⟨aUs⟩
theorem bHh:bG Tryz.prog 145 4 4:=bB runUnderlying145 rfl rfl sizeOf3
theorem bLk:bG Tryz.prog 87 0 0:=bB runUnderlying87 rfl rfl sizeOf29
instance:FA Tryz.prog 87 0 0:=⟨bLk⟩
theorem aRz:SliceTy Tryz.prog 29 82 1 24 (.slice none 0 0):=⟨underlying29,⟨Tryz.t82,by kernel_rfl,rfl,rfl,rfl⟩,rfl,by decide⟩
theorem bLl:bG Tryz.prog 87 1 1:=bB runUnderlying87 rfl rfl sizeOf3
instance:FA Tryz.prog 87 1 1:=⟨bLl⟩
theorem bLm:bG Tryz.prog 87 2 2:=bB runUnderlying87 rfl rfl sizeOf72
instance:FA Tryz.prog 87 2 2:=⟨bLm⟩
theorem bSb:dJ Tryz.prog 72:=⟨isAgg72,sizeOf72⟩
instance:I1 Tryz.prog 72:=⟨bSb⟩
theorem aZh:dJ Tryz.prog 82:=⟨isAgg82,sizeOf82⟩
instance:I1 Tryz.prog 82:=⟨aZh⟩
theorem aSc:SliceTy Tryz.prog 82 84 2 16 (.agg #[.int .i64 0,.int .i64 0]):=⟨underlying82,⟨Tryz.t84,by kernel_rfl,rfl,rfl,rfl⟩,rfl,by decide⟩
instance:SO Tryz.prog 82 84 2:=⟨aSc.of⟩
theorem bKs:bG Tryz.prog 28 0 0:=bB runUnderlying28 rfl rfl sizeOf3
theorem bKt:bG Tryz.prog 28 1 1:=bB runUnderlying28 rfl rfl sizeOf3
theorem bGz:bG Tryz.prog 106 0 0:=bB runUnderlying106 rfl rfl sizeOf32
theorem tH:bG Tryz.prog 106 1 20:=bB runUnderlying106 rfl rfl sizeOf39
theorem bKx:bG Tryz.prog 39 1 1:=bB runUnderlying39 rfl rfl sizeOf36
theorem bIl:dJ Tryz.prog 36:=⟨isAgg36,sizeOf36⟩
instance:I1 Tryz.prog 36:=⟨bIl⟩
theorem bKw:bG Tryz.prog 39 0 0:=bB runUnderlying39 rfl rfl sizeOf3
theorem bGf:gL Tryz.prog 68 4:=⟨isAgg68,sizeOf68⟩
theorem bHc:bG Tryz.prog 133 2 6:=bB runUnderlying133 rfl rfl sizeOf24
theorem bSr:jJ Tryz.prog 68 (.agg #[.slice none 0 0,.slice none 0 0,.slice none 0 0,.int .i64 0]) [(0,1),(1,1),(2,1),(3,1)]:=⟨zeroValue68,_,runUnderlying68,λw=>by simp[sizeOf24,sizeOf3]⟩
theorem bQo:jJ Tryz.prog 133 (.agg #[.int .i64 0,.int .i64 0,.int .i64 0,.int .i64 0,.int .i64 0,.map none,.slice none 0 0,.bool false,.slice none 0 0,.slice none 0 0,.int .i64 0,.int .i64 0]) [(0,5),(5,1),(6,1),(7,1),(8,1),(9,1),(10,1),(11,1)]:=⟨zeroValue133,_,runUnderlying133,λw=>by simp[sizeOf131,sizeOf23,sizeOf24,sizeOf3,sizeOf4]⟩
theorem bHd:bG Tryz.prog 133 3 7:=bB runUnderlying133 rfl rfl sizeOf4
instance:FA Tryz.prog 133 3 7:=⟨bHd⟩
theorem aRg:dJ Tryz.prog 4:=⟨isAgg4,sizeOf4⟩
instance:I1 Tryz.prog 4:=⟨aRg⟩
theorem nL:bG Tryz.prog 133 1 5:=bB runUnderlying133 rfl rfl sizeOf131
theorem uB:dJ Tryz.prog 131:=⟨isAgg131,sizeOf131⟩
instance:I1 Tryz.prog 131:=⟨uB⟩
theorem aUr:bG Tryz.prog 133 0 0:=bB runUnderlying133 rfl rfl sizeOf23
theorem aUu:bG Tryz.prog 262 0 0:=bB runUnderlying262 rfl rfl sizeOf4
instance:FA Tryz.prog 262 0 0:=⟨aUu⟩
theorem aKn:bG Tryz.prog 133 7 11:=bB runUnderlying133 rfl rfl sizeOf3
instance:FA Tryz.prog 133 7 11:=⟨aKn⟩
theorem bHj:bG Tryz.prog 262 1 1:=bB runUnderlying262 rfl rfl sizeOf4
theorem aKp:bG Tryz.prog 262 2 2:=bB runUnderlying262 rfl rfl sizeOf3
theorem aKq:bG Tryz.prog 262 3 3:=bB runUnderlying262 rfl rfl sizeOf3
theorem aMc:gL Tryz.prog 262 8:=⟨isAgg262,sizeOf262⟩
theorem aMp:dJ Tryz.prog 127:=⟨isAgg127,sizeOf127⟩
theorem bHk:bG Tryz.prog 262 4 4:=bB runUnderlying262 rfl rfl sizeOf4
instance:FA Tryz.prog 262 4 4:=⟨bHk⟩
theorem bHl:bG Tryz.prog 262 7 7:=bB runUnderlying262 rfl rfl sizeOf4
instance:FA Tryz.prog 262 7 7:=⟨bHl⟩
theorem bCq:dJ Tryz.prog 107:=⟨isAgg107,sizeOf107⟩
theorem bLb:bG Tryz.prog 53 2 2:=bB runUnderlying53 rfl rfl sizeOf3
instance:FA Tryz.prog 53 2 2:=⟨bLb⟩
theorem bLc:bG Tryz.prog 53 3 3:=bB runUnderlying53 rfl rfl sizeOf3
instance:FA Tryz.prog 53 3 3:=⟨bLc⟩
theorem bLh:bG Tryz.prog 60 4 8:=bB runUnderlying60 rfl rfl sizeOf3
instance:FA Tryz.prog 60 4 8:=⟨bLh⟩
theorem wC:bG Tryz.prog 126 1 10:=bB runUnderlying126 rfl rfl sizeOf60
instance:FA Tryz.prog 126 1 10:=⟨wC⟩
theorem bGe:gL Tryz.prog 60 9:=⟨isAgg60,sizeOf60⟩
theorem bQm:jJ Tryz.prog 122 (.agg #[.int .i64 0,.int .i64 0,.bool false,.int .i64 0,.int .i64 0,.int .i64 0,.int .i64 0,.int .i64 0,.int .i64 0,.bool false]) [(0,10)]:=⟨zeroValue122,_,runUnderlying122,λw=>by simp[sizeOf28]⟩
theorem aSl:gL Tryz.prog 122 10:=⟨isAgg122,sizeOf122⟩
theorem bQn:jJ Tryz.prog 126 (.agg #[.int .i64 0,.int .i64 0,.bool false,.int .i64 0,.int .i64 0,.int .i64 0,.int .i64 0,.int .i64 0,.int .i64 0,.bool false,.slice none 0 0,.int .i64 0,.int .i64 0,.int .i64 0,.int .i64 0,.int .i64 0,.int .i64 0,.int .i64 0,.int .i64 0,.int .i64 0,.int .i64 0,.int .i64 0,.slice none 0 0,.slice none 0 0]) [(0,10),(10,9),(19,1),(20,2),(22,1),(23,1)]:=⟨zeroValue126,_,runUnderlying126,λw=>by simp[sizeOf122,sizeOf123,sizeOf124,sizeOf3,sizeOf56,sizeOf60]⟩
theorem bLg:bG Tryz.prog 60 1 5:=bB runUnderlying60 rfl rfl sizeOf3
instance:FA Tryz.prog 60 1 5:=⟨bLg⟩
theorem bHb:bG Tryz.prog 126 4 22:=bB runUnderlying126 rfl rfl sizeOf123
instance:FA Tryz.prog 126 4 22:=⟨bHb⟩
theorem bPo:dJ Tryz.prog 123:=⟨isAgg123,sizeOf123⟩
instance:I1 Tryz.prog 123:=⟨bPo⟩
theorem aEg:bG Tryz.prog 126 0 0:=bB runUnderlying126 rfl rfl sizeOf122
theorem aAf:bG Tryz.prog 126 3 20:=bB runUnderlying126 rfl rfl sizeOf56
theorem pW:gL Tryz.prog 56 2:=⟨isAgg56,sizeOf56⟩
theorem aCx:bG Tryz.prog 60 0 0:=bB runUnderlying60 rfl rfl sizeOf58
instance:FA Tryz.prog 60 0 0:=⟨aCx⟩
theorem bLf:bG Tryz.prog 58 1 1:=bB runUnderlying58 rfl rfl sizeOf56
instance:FA Tryz.prog 58 1 1:=⟨bLf⟩
theorem bSo:SliceTy Tryz.prog 123 4 1 1 (.bool false):=⟨underlying123,⟨Tryz.t4,by kernel_rfl,rfl,rfl,rfl⟩,rfl,by decide⟩
theorem bLd:bG Tryz.prog 56 0 0:=bB runUnderlying56 rfl rfl sizeOf3
theorem aUp:bG Tryz.prog 122 0 0:=bB runUnderlying122 rfl rfl sizeOf28
theorem bLe:bG Tryz.prog 56 1 1:=bB runUnderlying56 rfl rfl sizeOf3
theorem bOt:gL Tryz.prog 244 2:=⟨isAgg244,sizeOf244⟩
theorem aOn:bG Tryz.prog 58 2 3:=bB runUnderlying58 rfl rfl sizeOf56
instance:FA Tryz.prog 58 2 3:=⟨aOn⟩
theorem aUq:bG Tryz.prog 126 5 23:=bB runUnderlying126 rfl rfl sizeOf124
theorem bPp:dJ Tryz.prog 124:=⟨isAgg124,sizeOf124⟩
theorem aOm:bG Tryz.prog 58 0 0:=bB runUnderlying58 rfl rfl sizeOf54
instance:FA Tryz.prog 58 0 0:=⟨aOm⟩
theorem bIm:dJ Tryz.prog 54:=⟨isAgg54,sizeOf54⟩
theorem aSb:SliceTy Tryz.prog 54 56 2 16 (.agg #[.int .i64 0,.int .i64 0]):=⟨underlying54,⟨Tryz.t56,by kernel_rfl,rfl,rfl,rfl⟩,rfl,by decide⟩
theorem bQp:jJ Tryz.prog 251 (.agg #[.int .i64 0,.bool false,.int .i64 0,.int .i64 0,.int .i64 0,.int .i64 0,.bool false]) [(0,1),(1,1),(2,1),(3,1),(4,2),(6,1)]:=⟨zeroValue251,_,runUnderlying251,λw=>by simp[sizeOf3,sizeOf4,sizeOf56]⟩
theorem bJm:SliceTy Tryz.prog 124 251 7 56 (.agg #[.int .i64 0,.bool false,.int .i64 0,.int .i64 0,.int .i64 0,.int .i64 0,.bool false]):=⟨underlying124,⟨Tryz.t251,by kernel_rfl,rfl,rfl,rfl⟩,rfl,by decide⟩
theorem bJq:jJ Tryz.prog 56 (.agg #[.int .i64 0,.int .i64 0]) [(0,1),(1,1)]:=⟨zeroValue56,_,runUnderlying56,λw=>by simp[sizeOf3]⟩
theorem bHn:bG Tryz.prog 278 1 1:=bB runUnderlying278 rfl rfl sizeOf275
instance:FA Tryz.prog 278 1 1:=⟨bHn⟩
theorem bHe:bG Tryz.prog 141 1 2:=bB runUnderlying141 rfl rfl sizeOf24
instance:FA Tryz.prog 141 1 2:=⟨bHe⟩
theorem bHo:bG Tryz.prog 281 0 0:=bB runUnderlying281 rfl rfl sizeOf278
instance:FA Tryz.prog 281 0 0:=⟨bHo⟩
theorem bHm:bG Tryz.prog 278 0 0:=bB runUnderlying278 rfl rfl sizeOf3
instance:FA Tryz.prog 278 0 0:=⟨bHm⟩
theorem bHf:bG Tryz.prog 141 3 4:=bB runUnderlying141 rfl rfl sizeOf3
instance:FA Tryz.prog 141 3 4:=⟨bHf⟩
theorem bHp:bG Tryz.prog 281 2 11:=bB runUnderlying281 rfl rfl sizeOf3
instance:FA Tryz.prog 281 2 11:=⟨bHp⟩
theorem bHq:bG Tryz.prog 314 0 0:=bB runUnderlying314 rfl rfl sizeOf3
instance:FA Tryz.prog 314 0 0:=⟨bHq⟩
theorem aSh(s sep:Str){r:List Str}(h:strings_Split s sep=some r):Fn Tryz.prog 131 [.d (.lit (.string ⟨s.toArray⟩)),.d (.lit (.string ⟨sep.toArray⟩))] (.d (.sl 1 (r.map iI))):=bMx bBr (λs sep m w h1 h2 h3=>Tryz.strings_Split s sep m w h1 h2 h3) h

theorem aPa(c:Str){r:Int×Bool}(h:yY c=some r):Fn Tryz.prog 132 [.d (.lit (.string ⟨c.toArray⟩))] (.tup [.i r.1,.b r.2]):=by
 unfold yY at h;refine oT [.tmp 2,.tmp 3] func132 results132 ntmps132 ?_;refine au 9 ?_;refine to (bOj (a:=c) (b:=([]:Str)) (aA rfl) rfl rfl) ?_;refine tm (.b (decide (c=([]:Str)))) ?_;obtain⟨b1,h2,h⟩:=bns h;refine eD 4 [0] 13 b1 ?_ ?_
 ·refine bch h2 (λm h2=>?_) (λm h2=>?_)
  ·refine au 4 ?_;obtain rfl:=sIn h2;refine aM (bX rfl (ae rfl) rfl)
  ·refine tk m (sm (.d (.lit (.string ⟨c.toArray⟩)))) (tk m (aZz (a:=c) (aA rfl) rfl underlying9) ?_);refine au 2 ?_;obtain rfl:=sIn h2;refine aM (bX rfl (ae rfl) rfl)
 ·refine tm (.b b1) ?_;obtain⟨b3,h4,h⟩:=bns h;refine eD 8 [0] 22 b3 ?_ ?_
  ·refine bch h4 (λe h4=>?_) (λe h4=>?_)
   ·refine au 8 ?_;obtain rfl:=sIn h4;refine aM (bX rfl (ae rfl) rfl)
   ·refine tk e (sm (.d (.lit (.string ⟨c.toArray⟩)))) ?_;obtain⟨x,p,h4⟩:=bns h4;refine tk e (bJg (aA rfl) rfl rfl underlying9 p) ?_;refine au 2 ?_;obtain⟨o,f,h4⟩:=bns h4;refine eD 3 [0,14] 21 o ?_ ?_
    ·refine bch f (λj f=>?_) (λj f=>?_)
     ·refine tk j (sm (.d (.lit (.string ⟨c.toArray⟩)))) (tk j (bOm (a:=c) (b:=([48]:Str)) (aA rfl) rfl rfl) ?_);refine tk e (spt (.b (!decide (c=([48]:Str)))) j) ?_;obtain rfl:=sIn f;refine aM (bX rfl (ae rfl) rfl)
     ·refine au 3 ?_;obtain rfl:=sIn f;refine aM (bX rfl (ae rfl) rfl)
    ·refine to (spf (.b o) e) ?_;obtain rfl:=sIn h4;refine aM (bX rfl (ae rfl) rfl)
  ·refine aM ?_;refine tih h (λc5 h=>?_) (λc5 h=>?_)
   ·refine au 5 ?_;obtain rfl:=sIn h;exact bP ⟨rfl,_,.two _ _,rfl,rfl⟩
   ·refine au 9 ?_;obtain⟨x6,h7,h⟩:=bns h;refine to (bCu (aA rfl) rfl underlying9 underlying159 underlying5 h7) ?_;refine au 4 ?_;refine eQ (S:=Int×Int) [24,25] (λs8=>[(4,.i s8.1),(26,.i s8.2)]) (λs8=>[]) (λk s8=>pS x6 (x6.length:Int) k s8.1 s8.2) (λ_=>rfl) (0,0) h (aW [] rfl rfl (aQ rfl (aQ rfl (bA (ae rfl))))) ?_;rintro k9 ⟨n,l⟩ h;simp only[pS] at h;refine au 5 ?_;refine tih h (λq h=>?_) (λq h=>?_)
    ·refine au 5 ?_;obtain⟨s,t,h⟩:=bns h;refine to (six rfl rfl aRy.of (dI pB t)) (au 9 ?_);obtain⟨u,g,h⟩:=bns h;refine eD 3 [4,6,24,25,26] 35 u ?_ ?_
     ·refine bch g (λv g=>?_) (λv g=>?_)
      ·refine au 3 ?_;obtain rfl:=sIn g;refine aM (bX rfl (ae rfl) rfl)
      ·refine au 3 ?_;obtain rfl:=sIn g;refine aM (bX rfl (ae rfl) rfl)
     ·refine aM ?_;refine tih h (λw h=>?_) (λw h=>?_)
      ·refine aO ?_;cases h
      ·refine au 6 ?_;refine to (aGr (aA rfl) rfl runUnderlying5 runUnderlying3) ?_;refine au 2 ?_;refine jW ?_;refine au 4 ?_;exact⟨(w64 ((w64 (10*n))+(w64 (IntKind.u8.wrap (s-48)))),w64 (l+1)),h,aW [] rfl rfl (aQ rfl (aQ rfl (bA (ae rfl))))⟩
    ·refine dO ?_;refine .inl ⟨rfl,?_⟩;simp only[aBm] at h;refine au 6 ?_;obtain rfl:=sIn h;exact bP ⟨rfl,_,.two _ _,rfl,rfl⟩

theorem aRr(e:Str){r:Str×(List Int)×Bool}(h:aBh e=some r):Fn Tryz.prog 80 [.d (.lit (.string ⟨e.toArray⟩))] (.tup [.d (.lit (.string ⟨r.1.toArray⟩)),.d (.sl 1 (r.2.1.map aE)),.b r.2.2]):=by
 unfold aBh at h;refine fnx xT {ow:=[3,3]} [.tmp 2,.tmp 3,.tmp 4] func80 results80 ntmps80 ?_;refine cd call131 (λ_=>aSh _ _) h λr2 h=>?_;refine ol ?_;refine osb h λx4 h=>?_;refine ol ?_;refine xlp [5,13,14] [] (λ((a,c):Int×(List Int))=>([(3,.d (.hv 0 3 0)),(15,.i a)],[(3,.arr 3 1 (c.map aE))])) (λk ((a,c):Int×(List Int))=>rJ r2 x4 (x4.length:Int) k a c) (0,([]:List Int)) h (lev []) ?_;rintro k7 ⟨a,c⟩ h;simp only[rJ] at h;refine br h (λh=>?_) λh=>?_
 ·refine oi h λx8 h=>?_;refine cl call132 (λ_=>aPa _) h λg h=>?_;refine br h (λh=>?_) λh=>?_
  ·cases h;exact⟨rfl,_,_,_,rfl,rfl,rfl,rfl,rfl,rfl⟩
  ·refine oap h λf h=>?_;exact⟨(w64 (a+1),f),h,lev [(3,29)]⟩
 ·simp only[aDn] at h;refine oi h λj h=>?_;cases h;exact⟨rfl,_,_,_,rfl,rfl,rfl,rfl,rfl,rfl⟩

theorem gC(d:Int)(c:Int)(a:Int){r:Bool}(h:eR d c a=some r):Fn Tryz.prog 167 [.i d,.i c,.i a] (.b r):=by
 unfold eR at h;refine fnx xT {} [.tmp 6] func167 results167 ntmps167 ?_;refine jg h (λx h=>?_) λb1 h=>?_
 ·refine br h (λh=>?_) λh=>?_
  ·exact jt h
  ·exact jt h
 ·cases h;exact⟨rfl,rfl,rfl⟩

theorem aOd(e:aI){r:Bool}(h:nQ e=some r):Fn Tryz.prog 82 [.agg (bH e)] (.b r):=by
 unfold nQ at h;refine oT [.tmp 2] func82 results82 ntmps82 ?_;refine aO (aL ?_);refine aZ rfl (eP (v:=.agg (bH e)) (aA rfl) rfl rfl rfl) ?_;rintro _ ⟨b1,rfl⟩;refine au 4 ?_;obtain⟨r2,h3,h⟩:=bns h;obtain⟨b4,h5,h⟩:=bns h;refine dX mix 13 [1] [(18,.b b4)] ?_ ?_
 ·refine bch h5 (λc6 h5=>?_) (λc6 h5=>?_)
  ·obtain rfl:=sIn h5;refine⟨[(6,0,.bp b1 0 0),(7,1,.i e.Rounds),(8,2,.b r2),(9,3,.b (!r2)),(10,4,.b (!r2)),(11,5,.tup []),(12,6,.tup []),(13,7,.tup []),(14,8,.tup []),(15,9,.tup []),(16,10,.tup []),(17,11,.tup []),(18,12,.b true)],?_,?_⟩
   · exact dk [0,1,2,3,4,5,506,507,5,509,510,50811,512] ⟨go (zf rfl aCw),
 go (zl 0 rfl rfl rfl dG),
 go λS hS=>fV (aA rfl) (.func _ _ call167) (ev2 (aK hS rfl) (ev2 rfl (ev2 rfl evn))) rfl (BVs.refl _ _) (gC _ _ _ h3) rfl,
 go (zn rfl),
 go (zm (.b (!r2))),
 gp c6,
 gp c6,
 gp c6,
 gp c6,
 gp c6,
 gp c6,
 gp c6,
 go (zpt (.b true) c6),trivial⟩
   · exact cP (aQ rfl (bA (ae rfl)))
  ·obtain⟨u7,h8,h5⟩:=bns h5;obtain rfl:=sIn h5;refine⟨[(6,0,.bp b1 0 0),(7,1,.i e.Rounds),(8,2,.b r2),(9,3,.b (!r2)),(10,4,.b (!r2)),(11,5,.bp b1 0 1),(12,6,.d (.sl 1 (Z16 e))),(13,7,.i (e.Slots.length:Int)),(14,8,.bp b1 0 0),(15,9,.i e.Rounds),(16,10,.i (w64 (1*2^(min e.Rounds.toNat 64)))),(17,11,.b (!decide ((e.Slots.length:Int)=(w64 (1*2^(min e.Rounds.toNat 64)))))),(18,12,.b (!decide ((e.Slots.length:Int)=(w64 (1*2^(min e.Rounds.toNat 64))))))],?_,?_⟩
   · exact dk [0,1,2,3,4,5,506,507,5,509,510,50811,512] ⟨go (zf rfl aCw),
 go (zl 0 rfl rfl rfl dG),
 go λS hS=>fV (aA rfl) (.func _ _ call167) (ev2 (aK hS rfl) (ev2 rfl (ev2 rfl evn))) rfl (BVs.refl _ _) (gC _ _ _ h3) rfl,
 go (zn rfl),
 go (zm (.b (!r2))),
 gt c6 (zf rfl aHq),
 gt c6 (zl 0 rfl rfl rfl aAj),
 gt c6 (zle rfl fH.of),
 gt c6 (zf rfl aCw),
 gt c6 (zl 0 rfl rfl rfl dG),
 gt c6 λS hS=>bOk (aA rfl) rfl (aK hS rfl) (bEi h8),
 gt c6 (zcm rfl rfl rfl),
 go (zpf (.b (!decide ((e.Slots.length:Int)=(w64 (1*2^(min e.Rounds.toNat 64)))))) c6),trivial⟩
   · exact cP (aQ rfl (bA (ae rfl)))
 ·refine aM ?_;refine tih h (λc9 h=>?_) (λc9 h=>?_)
  ·refine au 4 ?_;obtain rfl:=sIn h;refine dA (jM (kA (l:=[2]) (ae rfl))) ?_;exact rt
  ·refine au 3 ?_;refine aZ rfl (tQ (aA rfl)) ?_;rintro _ ⟨u,rfl⟩;refine au 11 ?_;refine eQ (S:=Int×(List (Int×Int))×(List Nat)×Nat) [1,3,21,22] (λg=>[(23,.i g.1)]) (λg=>[.box b1 0 (bH e),.map u (g.2.1.map λp:Int×Int=>(VI p.1,(λv:Int=>AV.i v) p.2)) g.2.2.1 g.2.2.2]) (λk g=>gO e.Slots (e.Slots.length:Int) e k g.1 g.2.1) (λ_=>rfl) (0,([]:List (Int×Int)),[],0) h (aW [0,1] rfl rfl (aQ rfl (bA (ae rfl)))) ?_;rintro G ⟨j,c,s,q⟩ h;simp only[gO] at h;refine au 5 ?_;refine tih h (λw h=>?_) (λw h=>?_)
   ·refine au 6 ?_;obtain⟨f,x,h⟩:=bns h;refine to (six rfl rfl fH.of (dI aE x)) (au 10 ?_);refine tih h (λy h=>?_) (λy h=>?_)
    ·refine au 6 ?_;refine to (bJa (aA rfl) rfl rfl (.inr (.inr ⟨rfl,rfl⟩))) ?_;obtain⟨H,A,h⟩:=bns h;refine to (six rfl rfl fH.of (dI aE A)) (au 3 ?_);refine tih h (λB h=>?_) (λB h=>?_)
     ·refine au 4 ?_;obtain rfl:=sIn h;refine dA (jM (kA (l:=[2]) (ae rfl))) ?_;exact rt
     ·refine lS ?_;refine dO ?_;refine .inl ⟨rfl,?_⟩;refine au 4 ?_;exact⟨(w64 (j+1),c,s,q),h,aW [0,1] rfl rfl (aQ rfl (bA (ae rfl)))⟩
    ·refine au 5 ?_;refine to (aDs (av:=(λv:Int=>AV.i v)) (l:=c) (z:=0) (a:=f) (m:=1) (aA rfl) sP underlying233 zeroValue3 (λ_ _=>.d (.lit _ rfl)) rfl rfl rfl rfl (cC (kv:=VI) f)) ?_;refine to (sar rfl rfl rfl) (to (pN (av:=(λv:Int=>AV.i v)) (l:=c) (v:=w64 ((aR f 0 c)+1)) (a:=f) (m:=1) sP underlying233 rfl rfl rfl rfl (cC (kv:=VI) f) rfl rfl) ?_);refine au 5 ?_;refine to (aDs (av:=(λv:Int=>AV.i v)) (l:=(dL f (w64 ((aR f 0 c)+1)) c)) (z:=0) (a:=f) (m:=1) (aA rfl) sP underlying233 zeroValue3 (λ_ _=>.d (.lit _ rfl)) rfl rfl rfl rfl (cC (kv:=VI) f)) ?_;refine au 2 ?_;obtain⟨C,o,h⟩:=bns h;refine eD 4 [1,3,21,22,23] 49 C ?_ ?_
     ·refine bch o (λt o=>?_) (λt o=>?_)
      ·refine au 4 ?_;obtain rfl:=sIn o;refine aM (bX rfl (ae rfl) rfl)
      ·refine tk t (sm (.i f)) ?_;obtain⟨I,E,o⟩:=bns o;refine tk t (scr call167 (gC _ _ _ E)) (au 2 ?_);obtain rfl:=sIn o;refine aM (bX rfl (ae rfl) rfl)
     ·refine aM ?_;refine tih h (λF h=>?_) (λF h=>?_)
      ·refine au 4 ?_;obtain rfl:=sIn h;refine dA (jM (kA (l:=[2]) (ae rfl))) ?_;exact rt
      ·refine gW ?_;refine au 4 ?_;exact⟨(w64 (j+1),(dL f (w64 ((aR f 0 c)+1)) c),(mbs f c s q),(mck f c q)),h,aW [0,1] rfl rfl (aQ rfl (bA (ae rfl)))⟩
   ·refine dO ?_;refine .inl ⟨rfl,?_⟩;simp only[uI] at h;refine au 4 ?_;obtain rfl:=sIn h;refine dA (jM (kA (l:=[2]) (ae rfl))) ?_;exact rt

theorem aAu(e:List aC)(f:aC->Option Bool){r:Int}(a:Nat)(c:List AV)(j:∀args w,(callFunc a args).run Tryz.prog w=.ok (.enter a args) w)(l:∀(x0:aC) r,f x0=some r->Fn Tryz.prog a ([.agg (aJ x0)]++c) (.b r))(h:hC e f=some r):Fn Tryz.prog 168 [.d (Z25 e),.fn a c] (.i r):=by
 unfold hC at h;refine oT [.tmp 4] func168 results168 ntmps168 ?_;refine au 12 ?_;refine eQ (S:=Int) [0,1,7] (λs1=>[(8,.i s1)]) (λs1=>[]) (λk s1=>dP e f (e.length:Int) k s1) (λ_=>rfl) (0) h (aW [] rfl rfl (aQ rfl (bA (ae rfl)))) ?_;rintro k2 g h;simp only[dP] at h;refine au 5 ?_;refine tih h (λc3 h=>?_) (λc3 h=>?_)
 ·refine au 10 ?_;refine tm (.fn a c) (au 2 ?_);obtain⟨x4,h5,h⟩:=bns h;refine to (six rfl rfl bFq.of (dI aJ h5)) (to (aLx (aJ x4) rfl sZ) ?_);obtain⟨r6,h7,h⟩:=bns h;refine to (fV (aA rfl) (.clo _ _ _ _ j rfl) (sG rfl) rfl (BVs.refl _ _) (l _ _ h7) rfl) ?_;refine aM ?_;refine tih h (λc8 h=>?_) (λc8 h=>?_)
  ·refine au 5 ?_;obtain rfl:=sIn h;exact rt
  ·refine gW ?_;refine au 4 ?_;exact⟨(w64 (g+1)),h,aW [] rfl rfl (aQ rfl (bA (ae rfl)))⟩
 ·refine dO ?_;refine .inl ⟨rfl,?_⟩;simp only[lP] at h;refine au 4 ?_;obtain rfl:=sIn h;exact rt

theorem xP(g:List aC)(i:aC->Option Bool){r:Bool}(a:Nat)(c:List AV)(e:∀args w,(callFunc a args).run Tryz.prog w=.ok (.enter a args) w)(f:∀(x0:aC) r,i x0=some r->Fn Tryz.prog a ([.agg (aJ x0)]++c) (.b r))(h:fP g i=some r):Fn Tryz.prog 83 [.d (Z25 g),.fn a c] (.b r):=by
 unfold fP at h;refine oT [.tmp 4] func83 results83 ntmps83 ?_;refine au 7 ?_;refine tm (.fn a c) ?_;obtain⟨r1,h2,h⟩:=bns h;refine to (scr call168 (aAu _ _ a c e f h2)) (au 3 ?_);obtain rfl:=sIn h;exact rt

theorem zW(a:aB)(c:aI){r:Bool}(h:lG a c=some r):Fn Tryz.prog 87 [.agg (aF a),.agg (bH c)] (.b r):=by
 unfold lG at h;refine fnx xT {} [.tmp 4] func87 results87 ntmps87 ?_;refine⟨by kernel_rfl,?_⟩;refine cl call167 (λ_=>gC _ _ _) h λr3 h=>?_;refine jo h (λx h=>?_) λb5 h=>?_
 ·refine br h (λh=>?_) λh=>?_
  ·refine ol ?_;refine oge h λh=>?_;refine cl call167 (λ_=>gC _ _ _) h λr9 h=>?_;exact⟨by kernel_rfl,jt h⟩
  ·exact⟨by kernel_rfl,jt h⟩
 ·refine⟨by kernel_rfl,?_⟩;cases h;exact⟨rfl,rfl,rfl⟩

theorem aAw(b:List Int)(c:Int){r:Int}(h:iK b c=some r):Fn Tryz.prog 172 [.d (.sl 1 (b.map aE)),.i c] (.i r):=by
 unfold iK at h;refine fnx xT {} [.tmp 4] func172 results172 ntmps172 ?_;refine ol ?_;refine xlp [0,1,7] [] (λ(a:Int)=>([(8,.i a)],[])) (λk (a:Int)=>gV b c (b.length:Int) k a) (0) h (lev []) ?_;rintro k2 a h;simp only[gV] at h;refine br h (λh=>?_) λh=>?_
 ·refine oi h λx3 h=>?_;refine br h (λh=>?_) λh=>?_
  ·cases h;exact⟨rfl,rfl,rfl⟩
  ·exact⟨(w64 (a+1)),h,lev []⟩
 ·simp only[sK] at h;cases h;exact⟨rfl,rfl,rfl⟩

theorem qM(a:List Int)(c:Int){r:Bool}(h:fG a c=some r):Fn Tryz.prog 98 [.d (.sl 1 (a.map aE)),.i c] (.b r):=by
 unfold fG at h;refine fnx xT {} [.tmp 4] func98 results98 ntmps98 ?_;refine cl call172 (λ_=>aAw _ _) h λr1 h=>?_;cases h;exact⟨rfl,rfl,rfl⟩

theorem aOc(a:aI)(c:aC){r:Bool}(h:qA a c=some r):Fn Tryz.prog 85 [.agg (bH a),.agg (aJ c)] (.b r):=by
 unfold qA at h;refine fnx xT {} [.tmp 4] func85 results85 ntmps85 ?_;refine cl call167 (λ_=>gC _ _ _) h λr3 h=>?_;refine br h (λh=>?_) λh=>?_
 ·cases h;exact⟨rfl,rfl,rfl⟩
 ·refine br h (λh=>?_) λh=>?_
  ·refine jg h (λx h=>?_) λb5 h=>?_
   ·refine br h (λh=>?_) λh=>?_
    ·refine ol ?_;refine cl call167 (λ_=>gC _ _ _) h λr7 h=>?_;exact jt h
    ·exact jt h
   ·refine jg h (λx h=>?_) λb9 h=>?_
    ·refine br h (λh=>?_) λh=>?_
     ·refine cl call167 (λ_=>gC _ _ _) h λd h=>?_;exact jt h
     ·exact jt h
    ·cases h;exact⟨rfl,rfl,rfl⟩
  ·refine cl call167 (λ_=>gC _ _ _) h λe h=>?_;refine jg h (λx h=>?_) λf h=>?_
   ·refine br h (λh=>?_) λh=>?_
    ·exact jt h
    ·exact jt h
   ·refine jg h (λx h=>?_) λg h=>?_
    ·refine br h (λh=>?_) λh=>?_
     ·exact jt h
     ·refine cl call87 (λ_=>zW _ _) h λi h=>?_;exact jt h
    ·refine br h (λh=>?_) λh=>?_
     ·cases h;exact⟨rfl,rfl,rfl⟩
     ·refine jg h (λx h=>?_) λj h=>?_
      ·refine br h (λh=>?_) λh=>?_
       ·exact jt h
       ·refine osb h λk h=>?_;refine cl call98 (λ_=>qM _ _) h λl h=>?_;exact jt h
      ·cases h;exact⟨rfl,rfl,rfl⟩

theorem aOe(a:aC)(c:aI){r:Bool}(h:nR a c=some r):Fn Tryz.prog 84 [.agg (aJ a),.cp (bH c)] (.b r):=by
 unfold nR at h;refine fnx xT {} [.tmp 3] func84 results84 ntmps84 ?_;refine cl call85 (λ_=>aOc _ _) h λr2 h=>?_;cases h;exact⟨rfl,rfl,rfl⟩

theorem sJ(a:List Int){r:(List Int)}(h:jO a=some r):bI Tryz.prog 169 [.d (.sl 1 (a.map aE))] [] (λr' o'=>∃(w0:Value),r'=.d (.lit w0)/\o'=[.arr w0 3 1 (r.map aE)]):=by
 unfold jO at h;refine cB func169 rfl (rs:=[.tmp 2]) results169 ntmps169 (Nat.le_of_ble_eq_true rfl) ?_;refine aO (aL (to (eZ 3 1 (.inl rfl) (aA rfl)) ?_));refine au 5 ?_;refine aZ rfl (aCe (aA rfl) rfl rfl underlying24) ?_;rintro _ ⟨b2,h3,rfl⟩;refine aM ?_;refine iY rfl (λc4=>?_) (λc4=>?_)
 ·obtain rfl:=aCa (h3 c4)
  simp[app] at h
  subst h;refine aO (aL (to (eZ 3 1 (.inl rfl) (aA rfl)) ?_));refine aM ?_;refine dA (aW [1,0] rfl rfl (le_refl _)) ?_;exact bP ⟨rfl,_,[.arr (.slice none 0 0) 3 1 (([]:List Int).map aE)],[.arr (.slice none 0 0) 3 1 (([]:List Int).map aE)],_,.one (.tmp 2 (v:=.d (.lit (.slice none 0 0))) rfl),.refl _,.same _,(.slice none 0 0),rfl,rfl⟩
 ·refine au 3 ?_;refine aZ rfl (aAo (aA rfl) fH rfl rfl (rows:=(([]:List Int)).map aE) rfl (bN (f:=aE) λ_=>rfl) rfl (by decide)) ?_;rintro _ ⟨v5,rfl⟩;refine tm (.d (.sl 1 (a.map aE))) ?_;obtain⟨x6,h7,h⟩:=bns h;refine aZ rfl (iW (i:=1) (aA rfl) fH rfl rfl rfl (λ_=>rfl) h7 rfl) ?_;rintro _ ⟨v8,rfl⟩;refine au 2 ?_;obtain rfl:=sIn h;refine dA (aW [1,0] rfl rfl (le_refl _)) ?_;exact bP ⟨rfl,_,[.arr v8 3 1 (x6.map aE)],[.arr (.slice none 0 0) 3 1 (([]:List Int).map aE)],_,.one (.tmp 2 (v:=.d (.lit v8)) rfl),.refl _,.same _,v8,rfl,rfl⟩

theorem xW(f:aI)(n:List Int)(o:List (aC×Int))(g:Int){Q:(aC×Bool)->Prop}{d_0_b d_0_o:Nat}{c:Value}{t:Nat}{j:Nat}{s:List Nat}{e:Nat}(h:gN f n o g Q):bI Tryz.prog 238 [.bp d_0_b d_0_o 0,.d (.lit (.map (some j))),.i g] (Z9 d_0_b d_0_o f c t n j o s e) (λr' o'=>∃(r:aC×Bool),Q r/\r'=.tup [.agg (aJ r.1),.b r.2]/\o'=(Z9 d_0_b d_0_o f c t n j o s e)):=by
 unfold gN at h;refine cB func238 rfl (rs:=[.cell 6 46,.tmp 7]) results238 ntmps238 (Nat.le_of_ble_eq_true rfl) ?_;refine aO (aL ?_);refine aZ rfl (cF (zs:=[.j 0,.j 0,.j 0,.j 0,.j 0]) (aA rfl) zeroValue46 rfl rfl) ?_;rintro _ ⟨b1,rfl⟩;refine au 6 ?_;refine aZ rfl (bCw (m:=2) (aA rfl) underlying236 rfl rfl) ?_;rintro _ ⟨q2,h4,rfl⟩;have h:=aDc h h4;refine aM (qQ ?_);refine vQ [0,2,6,10] (λ(s5:aC×(List Nat))=>[]) (λ(s5:aC×(List Nat))=>[.arr c 3 1 (n.map aE),.box d_0_b d_0_o [.j f.Rounds,.sl 1 (Z16 f),.lit c,.lit (.map (some t))],.map j (o.map λp:aC×Int=>((λa:aC=>Value.agg ((aJ a).map bD).toArray) p.1,(λv:Int=>AV.i v) p.2)) s e,.box b1 0 (aJ s5.1),.iter q2 j e s5.2 e]) (λ(k:Nat) (s5:aC×(List Nat))=>gA Q g n f o k s5.1 (jY o s s5.2)) (λ_ h=>h) ((aC.mk 0 0 0 0 0),[]) h (aW [1,0,2,3,4] rfl rfl (bA (ae rfl))) ?_;rintro k7 ⟨z,w⟩ h;simp only[gA] at h;refine aO (aL ?_);refine aZ rfl (bJe (kv:=(λa:aC=>Value.agg ((aJ a).map bD).toArray)) (av:=(λv:Int=>AV.i v)) (l:=o) (mi:=4) (mm:=2) (aA rfl) rfl rfl rfl) ?_;rintro _ (⟨G,rfl⟩|⟨j9,A,p8,B,rfl⟩)
 ·have h:=h.1 G;refine au 3 ?_;refine iY rfl (λC=>?_) (λC=>?_)
  ·exact absurd C (by decide)
  ·refine dO ?_;refine .inl ⟨rfl,?_⟩;simp only[nA] at h;refine aO (aL (to (eS (aA rfl) bSp (zs:=[.j 0,.j 0,.j 0,.j 0,.j 0]) rfl rfl rfl rfl (es:=[.j 0,.j 0,.j 0,.j 0,.j 0]) rfl) ?_));refine to (sst 3 rfl rfl sizeOf46 (aJ (aC.mk 0 0 0 0 0))) (au 2 ?_);refine dA (aW [1,0,2,3,4] rfl rfl (le_refl _)) ?_;exact bP ⟨rfl,_,(Z9 d_0_b d_0_o f c t n j o s e),[.box b1 0 (aJ (aC.mk 0 0 0 0 0)),.iter q2 j e w e],_,.two (.cell 6 46 rfl (i:=3) rfl sZ (es:=(aJ (aC.mk 0 0 0 0 0))) rfl rfl) (.tmp 7 (v:=.b false) rfl),.refl _,.same _,((aC.mk 0 0 0 0 0),false),h,rfl,rfl⟩
 ·have h:=aFj h B;refine au 3 ?_;refine iY rfl (λE=>?_) (λE=>?_)
  ·refine au 4 ?_;refine to (bCv (kv:=(λa:aC=>Value.agg ((aJ a).map bD).toArray)) (av:=(λv:Int=>AV.i v)) (l:=o) (mi:=4) (mm:=2) (ka:=.agg (aJ p8.1)) (aA rfl) rfl rfl rfl B (λ_ _=>.agg (mA rfl))) ?_;refine to (sex rfl rfl) ?_;refine aZ rfl (cF (zs:=[.j 0,.j 0,.j 0,.j 0,.j 0]) (aA rfl) zeroValue46 rfl rfl) ?_;rintro _ ⟨x,rfl⟩;refine to (sst 5 rfl rfl sizeOf46 (aJ p8.1)) (aM (aO ?_));obtain⟨H,u,h⟩:=fB h;refine dX mix 16 [0,2,6,8,10] [(30,.b H)] ?_ ?_
   ·refine bch u (λq u=>?_) (λq u=>?_)
    ·obtain⟨y,F,u⟩:=bns u;obtain rfl:=sIn u;refine⟨[(15,0,.bp x 0 2),(16,1,.i p8.1.Place),(17,2,.i g),(18,3,.b (decide (p8.1.Place=g))),(19,4,.b (decide (p8.1.Place=g))),(20,5,.bp x 0 4),(21,6,.i p8.1.Old),(22,7,.bp d_0_b d_0_o 0),(23,8,.bp d_0_b d_0_o 0),(24,9,.bp d_0_b d_0_o 2),(25,10,.d (.lit c)),(26,11,.i g),(27,12,.ep c 1 g.toNat 0),(28,13,.i y),(29,14,.b (decide (p8.1.Old=y))),(30,15,.b (decide (p8.1.Old=y)))],?_,?_⟩
     · exact dk [0,1,0,203,4,5,506,5,508,509,510,5,51112,513,50714,515] ⟨go (zf rfl aOk),
 go (zl 5 rfl rfl rfl dG),
 go (zm (.i g)),
 go (zcm rfl rfl rfl),
 go (zm (.b (decide (p8.1.Place=g)))),
 gt q (zf rfl bLa),
 gt q (zl 5 rfl rfl rfl dG),
 gt q (zm (.bp d_0_b d_0_o 0)),
 gt q λS hS=>bJ (aA rfl) (aK hS rfl),
 gt q (zf rfl wB),
 gt q (zl 1 rfl rfl rfl aAj),
 gt q (zm (.i g)),
 gt q (zia 0 rfl rfl rfl fH.of (dI aE F)),
 gt q λS hS=>wF (aA rfl) (aK hS rfl) (m:=0) rfl (aDp aE F) rfl dG,
 gt q (zcm rfl rfl rfl),
 go (zpt (.b (decide (p8.1.Old=y))) q),trivial⟩
     · exact cP (aQ rfl (bA (ae rfl)))
    ·obtain rfl:=sIn u;refine⟨[(15,0,.bp x 0 2),(16,1,.i p8.1.Place),(17,2,.i g),(18,3,.b (decide (p8.1.Place=g))),(19,4,.b (decide (p8.1.Place=g))),(20,5,.tup []),(21,6,.tup []),(22,7,.tup []),(23,8,.tup []),(24,9,.tup []),(25,10,.tup []),(26,11,.tup []),(27,12,.tup []),(28,13,.tup []),(29,14,.tup []),(30,15,.b false)],?_,?_⟩
     · exact dk [0,1,0,203,4,5,506,5,508,509,510,5,51112,513,50714,515] ⟨go (zf rfl aOk),
 go (zl 5 rfl rfl rfl dG),
 go (zm (.i g)),
 go (zcm rfl rfl rfl),
 go (zm (.b (decide (p8.1.Place=g)))),
 gp q,
 gp q,
 gp q,
 gp q,
 gp q,
 gp q,
 gp q,
 gp q,
 gp q,
 gp q,
 go (zpf (.b false) q),trivial⟩
     · exact cP (aQ rfl (bA (ae rfl)))
   ·refine aM ?_;refine tip h (λI h=>?_) (λI h=>?_)
    ·refine aO (aL (to (sla 5 (aJ p8.1) rfl rfl sZ) (to (sst 3 rfl rfl sizeOf46 (aJ p8.1)) (au 2 ?_))));refine dA (aW [1,0,2,3,4,5] rfl rfl (le_refl _)) ?_;exact bP ⟨rfl,_,(Z9 d_0_b d_0_o f c t n j o s e),[.box b1 0 (aJ p8.1),.iter q2 j e (w++[A]) e,.box x 0 (aJ p8.1)],_,.two (.cell 6 46 rfl (i:=3) rfl sZ (es:=(aJ p8.1)) rfl rfl) (.tmp 7 (v:=.b true) rfl),.refl _,.same _,(p8.1,true),h,rfl,rfl⟩
    ·refine gW ?_;exact⟨(z,(w++[A])),h,aW [0,1,2,3,4] rfl rfl (bA (ae rfl))⟩
  ·exact absurd E (by decide)

theorem aFc(e:aI)(s:List Int)(A:List (aC×Int)){Q:(Bool×(List Int)×(List (aC×Int)))->Prop}{d_0_b d_0_o:Nat}{c:Value}{q:Nat}{o:Nat}{x:List Nat}{y:Nat}(h:kB e s A Q):bI Tryz.prog 170 [.bp d_0_b d_0_o 0,.d (.lit (.map (some o)))] [.box d_0_b d_0_o [.j e.Rounds,.sl 1 (Z16 e),.lit c,.lit (.map (some q))],.arr c 3 1 (s.map aE),.map o (A.map λp:aC×Int=>((λa:aC=>Value.agg ((aJ a).map bD).toArray) p.1,(λv:Int=>AV.i v) p.2)) x y] (λr' o'=>∃(r:Bool×(List Int)×(List (aC×Int))) (O:List Nat) (P:Nat),Q r/\r'=.b r.1/\o'=[.box d_0_b d_0_o [.j e.Rounds,.sl 1 (Z16 e),.lit c,.lit (.map (some q))],.arr c 3 1 (r.2.1.map aE),.map o (r.2.2.map λp:aC×Int=>((λa:aC=>Value.agg ((aJ a).map bD).toArray) p.1,(λv:Int=>AV.i v) p.2)) O P]):=by
 unfold kB at h;refine cB func170 rfl (rs:=[.tmp 4]) results170 ntmps170 (Nat.le_of_ble_eq_true rfl) ?_;refine au 7 ?_;refine to (bJ (aA rfl) rfl) ?_;refine au 3 ?_;obtain⟨r1,h2,h⟩:=fB h;refine aZ rfl (rL (aA rfl) (.func _ _ call169) rfl rfl (sJ _ h2)) ?_;rintro _ ⟨v3,rfl⟩;refine au 6 ?_;refine to (bJ (aA rfl) rfl) ?_;refine au 2 ?_;refine to (nG (m:=1) (aA rfl) rfl rfl fH.of) ?_;refine au 3 ?_;refine vQ [0,1,19] (λ(s4:Int×(List Int)×(List (aC×Int))×(List Int)×(List Nat)×Nat×Value)=>[(5,.d (.lit s4.2.2.2.2.2.2)),(20,.i s4.1)]) (λ(s4:Int×(List Int)×(List (aC×Int))×(List Int)×(List Nat)×Nat×Value)=>[.arr c 3 1 (s4.2.1.map aE),.box d_0_b d_0_o [.j e.Rounds,.sl 1 (Z16 e),.lit c,.lit (.map (some q))],.map o (s4.2.2.1.map λp:aC×Int=>((λa:aC=>Value.agg ((aJ a).map bD).toArray) p.1,(λv:Int=>AV.i v) p.2)) s4.2.2.2.2.1 s4.2.2.2.2.2.1,.arr s4.2.2.2.2.2.2 3 1 (s4.2.2.2.1.map aE)]) (λ(k:Nat) (s4:Int×(List Int)×(List (aC×Int))×(List Int)×(List Nat)×Nat×Value)=>cH Q (s.length:Int) e k s4.1 s4.2.1 s4.2.2.1 s4.2.2.2.1) (λ_ h=>h) (0,s,A,r1,x,y,v3) h (aW [1,0,2,3] rfl rfl (aQ rfl (aQ rfl (bA (ae rfl))))) ?_;rintro k8 ⟨n,z,t,F,G,H,w7⟩ h;simp only[cH] at h;refine au 5 ?_;refine tip h (λc9 h=>?_) (λc9 h=>?_)
 ·refine au 13 ?_;refine cL (aW [1,0,2,3] rfl rfl (le_refl _)) ?_;refine aZ rfl (gM (passed:=[.box d_0_b d_0_o [.j e.Rounds,.sl 1 (Z16 e),.lit c,.lit (.map (some q))],.arr c 3 1 (z.map aE),.map o (t.map λp:aC×Int=>((λa:aC=>Value.agg ((aJ a).map bD).toArray) p.1,(λv:Int=>AV.i v) p.2)) G H]) (aA rfl) rfl (.func _ _ call238) rfl rfl (xW e z t n h)) ?_;rintro _ ⟨_,_,⟨I,h,rfl,rfl⟩,rfl⟩;refine au 3 ?_;refine aZ rfl (cF (zs:=[.j 0,.j 0,.j 0,.j 0,.j 0]) (aA rfl) zeroValue46 rfl rfl) ?_;rintro _ ⟨T,rfl⟩;refine to (sst 4 rfl rfl sizeOf46 (aJ I.1)) (au 2 ?_);refine bDj ?_;refine vQ [0,1,6,19,20] (λ(u:Bool×(List Int)×(List (aC×Int))×aC×(List Int)×(List Nat)×Nat×Nat×Value)=>[(5,.d (.lit u.2.2.2.2.2.2.2.2)),(7,.bp u.2.2.2.2.2.2.2.1 0 0),(8,.b u.1)]) (λ(u:Bool×(List Int)×(List (aC×Int))×aC×(List Int)×(List Nat)×Nat×Nat×Value)=>[.arr c 3 1 (u.2.1.map aE),.box d_0_b d_0_o [.j e.Rounds,.sl 1 (Z16 e),.lit c,.lit (.map (some q))],.map o (u.2.2.1.map λp:aC×Int=>((λa:aC=>Value.agg ((aJ a).map bD).toArray) p.1,(λv:Int=>AV.i v) p.2)) u.2.2.2.2.2.1 u.2.2.2.2.2.2.1,.box u.2.2.2.2.2.2.2.1 0 (aJ u.2.2.2.1),.arr u.2.2.2.2.2.2.2.2 3 1 (u.2.2.2.2.1.map aE)]) (λ(k:Nat) (u:Bool×(List Int)×(List (aC×Int))×aC×(List Int)×(List Nat)×Nat×Nat×Value)=>dC Q (cH Q (s.length:Int) e k8) n (s.length:Int) n e k u.1 u.2.1 u.2.2.1 u.2.2.2.1 u.2.2.2.2.1) (λ_ h=>h) (I.2,z,t,I.1,F,G,H,T,w7) h (aW [1,0,2,4,3] rfl rfl (aQ rfl (aQ rfl (aQ rfl (bA (ae rfl)))))) ?_;rintro a3 ⟨N,w,j,g,B,C,E,K,L⟩ h;simp only[dC] at h;refine au 5 ?_;refine tip h (λU h=>?_) (λU h=>?_)
  ·refine au 9 ?_;obtain⟨a4,V,h⟩:=fB h;refine to (sc call98 (qM _ _ V) (.cons (.d (cI 4 rfl (bN (f:=aE) λ_=>rfl))) (.cons (.same _) .nil))) (aM ?_);refine tip h (λW h=>?_) (λW h=>?_)
   ·refine au 4 ?_;refine dA (aW [1,0,2,3,4] rfl rfl (le_refl _)) ?_;exact bP ⟨rfl,_,[.box d_0_b d_0_o [.j e.Rounds,.sl 1 (Z16 e),.lit c,.lit (.map (some q))],.arr c 3 1 (w.map aE),.map o (j.map λp:aC×Int=>((λa:aC=>Value.agg ((aJ a).map bD).toArray) p.1,(λv:Int=>AV.i v) p.2)) C E],[.box K 0 (aJ g),.arr L 3 1 (B.map aE)],_,.one (.tmp 4 (v:=.b false) rfl),.refl _,.same _,(false,w,j),C,E,h,rfl,rfl⟩
   ·refine lS (aO ?_);refine dX mix 7 [0,1,5,6,7,19,20] [(45,.d (.lit c)),(46,.i n),(48,.i g.Player)] ?_ ?_
    ·refine⟨[(42,0,.bp d_0_b d_0_o 0),(43,1,.bp d_0_b d_0_o 0),(44,2,.bp d_0_b d_0_o 2),(45,3,.d (.lit c)),(46,4,.i n),(47,5,.bp K 0 3),(48,6,.i g.Player)],?_,?_⟩
     · exact dk [0,1,2,3,0,0,6] ⟨go (zm (.bp d_0_b d_0_o 0)),
 go λS hS=>bJ (aA rfl) (aK hS rfl),
 go (zf rfl wB),
 go (zl 1 rfl rfl rfl aAj),
 go (zm (.i n)),
 go (zf rfl aOl),
 go (zl 3 rfl rfl rfl dG),trivial⟩
     · exact cP (aQ rfl (aQ rfl (aQ rfl (bA (ae rfl)))))
    ·obtain⟨a5,M,h⟩:=fB h;refine to (pM (m:=0) (aA rfl) rfl rfl rfl fH.of (dI aE M)) ?_;refine to (aRx (l:=0) rfl rfl (aDp aE M) rfl rfl rfl sizeOf3 rfl (aA rfl) (Nat.le_of_ble_eq_true rfl) (rows':=((w.set n.toNat g.Player)).map aE) (bQg _ _ _ _ rfl)) ?_;refine au 6 ?_;refine to (lL (aA rfl) fH rfl rfl (rows:=([g.Player]).map aE) rfl (bN (f:=aE) λ_=>rfl) rfl (by decide)) ?_;obtain⟨X,Y,h⟩:=fB h;refine aZ rfl (iW (i:=4) (aA rfl) fH rfl rfl rfl (λ_=>rfl) Y rfl) ?_;rintro _ ⟨Z,rfl⟩;refine au 4 ?_;refine to (sla 3 (aJ g) rfl rfl sZ) (to (bMn (av:=(λv:Int=>AV.i v)) (l:=j) (a:=g) (m:=2) aYs underlying236 rfl rfl rfl rfl (nM (enc:=aJ) g rfl)) ?_);refine jW ?_;refine au 3 ?_;refine to (sla 3 (aJ g) rfl rfl sZ) (aM (aL ?_));refine aZ rfl (cF (zs:=[.j 0,.j 0,.j 0,.j 0,.j 0]) (aA rfl) zeroValue46 rfl rfl) ?_;rintro _ ⟨a2,rfl⟩;refine to (sst 5 rfl rfl sizeOf46 (aJ g)) (au 5 ?_);refine cL (aW [1,0,2,3,4,5] rfl rfl (le_refl _)) ?_;refine aZ rfl (gM (passed:=[.box d_0_b d_0_o [.j e.Rounds,.sl 1 (Z16 e),.lit c,.lit (.map (some q))],.arr c 3 1 ((w.set n.toNat g.Player).map aE),.map o ((pJ g j).map λp:aC×Int=>((λa:aC=>Value.agg ((aJ a).map bD).toArray) p.1,(λv:Int=>AV.i v) p.2)) (aFi g j C) E]) (aA rfl) rfl (.func _ _ call238) rfl rfl (xW e (w.set n.toNat g.Player) (pJ g j) n h)) ?_;rintro _ ⟨_,_,⟨J,h,rfl,rfl⟩,rfl⟩;refine au 3 ?_;refine to (sst 5 rfl rfl sizeOf46 (aJ J.1)) (au 2 ?_);exact⟨(J.2,(w.set n.toNat g.Player),(pJ g j),J.1,X,(aFi g j C),E,a2,Z),h,aW [1,0,2,5,4] rfl rfl (aQ rfl (aQ rfl (aQ rfl (bA (ae rfl)))))⟩
  ·refine dO ?_;refine .inl ⟨rfl,?_⟩;simp only[lD] at h;simp only[lC] at h;refine au 4 ?_;exact⟨(w64 (n+1),w,j,B,C,E,L),h,aW [0,1,2,4] rfl rfl (aQ rfl (aQ rfl (bA (ae rfl))))⟩
 ·refine dO ?_;refine .inl ⟨rfl,?_⟩;simp only[lB] at h;refine au 3 ?_;refine to (bMo (m:=2) (aA rfl) underlying236 rfl rfl) ?_;refine au 3 ?_;refine dA (aW [1,0,2,3] rfl rfl (le_refl _)) ?_;exact bP ⟨rfl,_,[.box d_0_b d_0_o [.j e.Rounds,.sl 1 (Z16 e),.lit c,.lit (.map (some q))],.arr c 3 1 (z.map aE),.map o (t.map λp:aC×Int=>((λa:aC=>Value.agg ((aJ a).map bD).toArray) p.1,(λv:Int=>AV.i v) p.2)) G H],[.arr w7 3 1 (F.map aE)],_,.one (.tmp 4 (v:=.b (decide ((t.length:Int)=0))) rfl),.refl _,.same _,(decide ((t.length:Int)=0),z,t),G,H,h,rfl,rfl⟩

theorem aCq(a:Int)(b:Int){r:aB}(h:rB a b=some r):Fn Tryz.prog 173 [.i a,.i b] (.agg (aF r)):=by
 unfold rB at h;refine fnx xT {} [.cell 4 111] func173 results173 ntmps173 ?_;refine oge h λh=>?_;cases h;exact⟨rfl,rfl,rfl⟩

theorem xY(g:aI)(j:List Int)(s:List (aB×Int))(n:Int)(t:Int){r:Bool×(List (aB×Int))}{d_0_b d_0_o:Nat}{c:Value}{f:Nat}{o:List Nat}{q:Nat}(h:kQ g j s n t=some r):bI Tryz.prog 171 [.bp d_0_b d_0_o 0,.i n,.i t] [.box d_0_b d_0_o [.j g.Rounds,.sl 1 (Z16 g),.lit c,.lit (.map (some f))],.arr c 3 1 (j.map aE),.map f (s.map λp:aB×Int=>((λa:aB=>Value.agg ((aF a).map bD).toArray) p.1,(λv:Int=>AV.i v) p.2)) o q] (λr' o'=>∃(u:List Nat) (F:Nat),r'=.b r.1/\o'=[.box d_0_b d_0_o [.j g.Rounds,.sl 1 (Z16 g),.lit c,.lit (.map (some f))],.arr c 3 1 (j.map aE),.map f (r.2.map λp:aB×Int=>((λa:aB=>Value.agg ((aF a).map bD).toArray) p.1,(λv:Int=>AV.i v) p.2)) u F]):=by
 unfold kQ at h;refine cB func171 rfl (rs:=[.tmp 6]) results171 ntmps171 (Nat.le_of_ble_eq_true rfl) ?_;refine au 12 ?_;refine eQ (S:=Int×(List (aB×Int))×(List Nat)×Nat) [0,1,12] (λs1=>[(13,.i s1.1)]) (λs1=>[.arr c 3 1 (j.map aE),.map f (s1.2.1.map λp:aB×Int=>((λa:aB=>Value.agg ((aF a).map bD).toArray) p.1,(λv:Int=>AV.i v) p.2)) s1.2.2.1 s1.2.2.2,.box d_0_b d_0_o [.j g.Rounds,.sl 1 (Z16 g),.lit c,.lit (.map (some f))]]) (λk s1=>gB n (w64 (t+1)) j g k s1.1 s1.2.1) (λ_=>rfl) (0,s,o,q) h (aW [1,2,0] rfl rfl (aQ rfl (bA (ae rfl)))) ?_;rintro k4 ⟨B,e,u,x⟩ h;simp only[gB] at h;refine au 5 ?_;refine tih h (λc5 h=>?_) (λc5 h=>?_)
 ·refine au 12 ?_;obtain⟨r6,h7,h⟩:=bns h;refine to (scr call173 (aCq _ _ h7)) ?_;refine aZ rfl (cF (zs:=[.j 0,.j 0]) (aA rfl) zeroValue111 rfl rfl) ?_;rintro _ ⟨b8,rfl⟩;refine to (sst 3 rfl rfl sizeOf111 (aF r6)) (au 3 ?_);refine dX mix 10 [0,1,8,12,13] [(9,.i (aR r6 0 e)),(27,.b (cN r6 e))] ?_ ?_
  ·refine⟨[(20,0,.bp d_0_b d_0_o 0),(21,1,.bp d_0_b d_0_o 0),(22,2,.bp d_0_b d_0_o 3),(23,3,.d (.lit (.map (some f)))),(24,4,.agg (aF r6)),(25,5,.tup [.i (aR r6 0 e),.b (cN r6 e)]),(19,6,.tup [.i (aR r6 0 e),.b (cN r6 e)]),(26,7,.i (aR r6 0 e)),(27,8,.b (cN r6 e)),(9,9,.i (aR r6 0 e))],?_,?_⟩
   · exact dk [0,1,2,3,0,405,6,7,7,8] ⟨go (zm (.bp d_0_b d_0_o 0)),
 go λS hS=>bJ (aA rfl) (aK hS rfl),
 go (zf rfl aAe),
 go (zl 2 rfl rfl rfl aGl),
 go (zla 3 (aF r6) rfl rfl kM),
 go λS hS=>aIr (av:=(λv:Int=>AV.i v)) (l:=e) (z:=0) (a:=r6) (m:=1) (aA rfl) yQ underlying114 zeroValue3 (λ_ _=>.d (.lit _ rfl)) (aK hS rfl) rfl rfl (aK hS rfl) (nM (enc:=aF) r6 rfl),
 go (zm (.tup [.i (aR r6 0 e),.b (cN r6 e)])),
 go (zex rfl rfl),
 go (zex rfl rfl),
 go (za (.i (aR r6 0 e))),trivial⟩
   · exact cP (aQ rfl (aQ rfl (bA (ae rfl))))
  ·refine au 6 ?_;obtain⟨b9,w,h⟩:=bns h;refine eD 10 [0,1,8,12,13] 39 b9 ?_ ?_
   ·refine bch w (λy w=>?_) (λy w=>?_)
    ·refine au 2 ?_;refine tk y (bJ (aA rfl) rfl) ?_;refine au 3 ?_;obtain⟨H,C,w⟩:=bns w;refine tk y (pM (m:=0) (aA rfl) rfl rfl rfl fH.of (dI aE C)) ?_;refine tk y (wF (aA rfl) rfl (m:=0) rfl (aDp aE C) rfl dG) ?_;refine au 2 ?_;obtain rfl:=sIn w;refine aM (bX rfl (ae rfl) rfl)
    ·refine au 10 ?_;obtain rfl:=sIn w;refine aM (bX rfl (ae rfl) rfl)
   ·refine aM ?_;refine tih h (λG h=>?_) (λG h=>?_)
    ·refine au 4 ?_;obtain rfl:=sIn h;refine dA (aW [2,0,1,3] rfl rfl (le_refl _)) ?_;exact bP ⟨rfl,_,[.box d_0_b d_0_o [.j g.Rounds,.sl 1 (Z16 g),.lit c,.lit (.map (some f))],.arr c 3 1 (j.map aE),.map f (e.map λp:aB×Int=>((λa:aB=>Value.agg ((aF a).map bD).toArray) p.1,(λv:Int=>AV.i v) p.2)) u x],[.box b8 0 (aF r6)],_,.one (.tmp 6 (v:=.b false) rfl),.refl _,.same _,u,x,rfl,rfl⟩
    ·refine lS ?_;obtain⟨A,E,h⟩:=bns h;refine dX mix 12 [0,1,12,13] [(43,.d (.lit (.map (some f)))),(44,.agg (aF r6)),(51,.i A)] ?_ ?_
     ·refine⟨[(40,0,.bp d_0_b d_0_o 0),(41,1,.bp d_0_b d_0_o 0),(42,2,.bp d_0_b d_0_o 3),(43,3,.d (.lit (.map (some f)))),(44,4,.agg (aF r6)),(45,5,.bp d_0_b d_0_o 0),(46,6,.bp d_0_b d_0_o 0),(47,7,.bp d_0_b d_0_o 2),(48,8,.d (.lit c)),(49,9,.i n),(50,10,.ep c 1 n.toNat 0),(51,11,.i A)],?_,?_⟩
      · exact dk [0,1,2,3,0,0,6,7,8,0,910,11] ⟨go (zm (.bp d_0_b d_0_o 0)),
 go λS hS=>bJ (aA rfl) (aK hS rfl),
 go (zf rfl aAe),
 go (zl 2 rfl rfl rfl aGl),
 go (zla 3 (aF r6) rfl rfl kM),
 go (zm (.bp d_0_b d_0_o 0)),
 go λS hS=>bJ (aA rfl) (aK hS rfl),
 go (zf rfl wB),
 go (zl 2 rfl rfl rfl aAj),
 go (zm (.i n)),
 go (zia 0 rfl rfl rfl fH.of (dI aE E)),
 go λS hS=>wF (aA rfl) (aK hS rfl) (m:=0) rfl (aDp aE E) rfl dG,trivial⟩
      · exact cP (aQ rfl (aQ rfl (aQ rfl (bA (ae rfl)))))
     ·refine to (pN (av:=(λv:Int=>AV.i v)) (l:=e) (v:=A) (a:=r6) (m:=1) yQ underlying114 rfl rfl rfl rfl (nM (enc:=aF) r6 rfl) rfl rfl) ?_;refine jW ?_;refine au 4 ?_;exact⟨(w64 (B+1),(dL r6 A e),(mbs r6 e u x),(mck r6 e x)),h,aW [0,1,2] rfl rfl (aQ rfl (bA (ae rfl)))⟩
 ·refine dO ?_;refine .inl ⟨rfl,?_⟩;simp only[rA] at h;refine au 4 ?_;obtain rfl:=sIn h;refine dA (aW [2,0,1] rfl rfl (le_refl _)) ?_;exact bP ⟨rfl,_,[.box d_0_b d_0_o [.j g.Rounds,.sl 1 (Z16 g),.lit c,.lit (.map (some f))],.arr c 3 1 (j.map aE),.map f (e.map λp:aB×Int=>((λa:aB=>Value.agg ((aF a).map bD).toArray) p.1,(λv:Int=>AV.i v) p.2)) u x],[],_,.one (.tmp 6 (v:=.b true) rfl),.refl _,.same _,u,x,rfl,rfl⟩

theorem aPw (j:aI)(Y:List aC){Q:((Option bC)×Bool)->Prop}(h:rV j Y Q):bI Tryz.prog 86 [.agg (bH j),.d (Z25 Y)] [] (λr' o'=>∃(r:(Option bC)×Bool),Q r/\r'=.tup [cK aX r.1,.b r.2]/\o'=[]):=by
 unfold rV at h;refine cB func86 rfl (rs:=[.tmp 4,.tmp 5]) results86 ntmps86 (Nat.le_of_ble_eq_true rfl) ?_;refine aO (aL ?_);refine aZ rfl (eP (v:=.agg (bH j)) (aA rfl) rfl rfl rfl) ?_;rintro _ ⟨b1,rfl⟩;refine ta (cK aX (none:Option bC)) (au 3 ?_);obtain⟨r3,h4,h⟩:=fB h;refine kX mix 5 [1] (λX2=>[(19,.agg (bH j)),(22,.d (.lit (X2 3).v)),(23,.d (.lit (.map (some (X2 4).b))))]) (λX2=>[.box b1 0 (bH j),.arr (X2 3).v 3 1 (r3.map aE),.map (X2 4).b (([]:List (aB×Int)).map λp:aB×Int=>((λa:aB=>Value.agg ((aF a).map bD).toArray) p.1,(λv:Int=>AV.i v) p.2)) ([]) 0]) ?_ ?_
 ·refine⟨2,λX2=>[(19,0,.agg (bH j)),(20,1,.bp b1 0 1),(21,2,.d (.sl 1 (Z16 j))),(22,3,.d (.lit (X2 3).v)),(23,4,.d (.lit (.map (some (X2 4).b))))],λX2=>[([],.box b1 0 (bH j)),([(3,.arr (X2 3).v 3 1 (r3.map aE))],nob),([(4,.map (X2 4).b (([]:List (aB×Int)).map λp:aB×Int=>((λa:aB=>Value.agg ((aF a).map bD).toArray) p.1,(λv:Int=>AV.i v) p.2)) ([]) 0)],nob)],?_,?_⟩
  · exact xok [(0,0),(0,4),(2,4),(3,0),(0,0)] ⟨λ_ _ w _ k=>xp w (yla k 0 (bH j) rfl (og k rfl rfl) wM),
 λ_ _ w _ k=>xp w (yf k rfl aHq),
 λ_ _ w _ k=>xp w (yl k 0 rfl (og k rfl rfl) rfl aAj),
 λX2 S hw hi hS=>tU (X:=X2) (p:=1) (v:=λx=>.d (.lit x.v)) (mo:=λx=>.arr x.v 3 1 (r3.map aE)) hS hi rfl rfl (λ_=>rfl) hw (λ_=>rfl) (λ_=>rfl) (λ_=>rfl) (λ_=>⟨rfl,rfl,.inr rfl,⟨rfl,rfl,.inr rfl,⟨rfl,rfl,.inr rfl,⟨rfl,rfl,.inl rfl,⟨rfl,rfl,.inr rfl,trivial⟩⟩⟩⟩⟩) (λ_=>⟨trivial,rfl,⟨⟨rfl,.inl rfl,trivial⟩,rfl,⟨⟨rfl,.inr rfl,trivial⟩,rfl,trivial⟩⟩⟩) (kW (rL (aA rfl) (.func _ _ call169) (ev2 (aK hS rfl) evn) rfl (sJ _ h4)) (by rintro _ ⟨w,rfl⟩;exact⟨⟨0,w⟩,aW [0,3,2] rfl rfl (le_refl _)⟩)),
 λX2 S hw hi hS=>tU (X:=X2) (p:=2) (v:=λx=>.d (.lit (.map (some x.b)))) (mo:=λx=>.map x.b (([]:List (aB×Int)).map λp:aB×Int=>((λa:aB=>Value.agg ((aF a).map bD).toArray) p.1,(λv:Int=>AV.i v) p.2)) ([]) 0) hS hi rfl rfl (λ_=>rfl) hw (λ_=>rfl) (λ_=>rfl) (λ_=>rfl) (λ_=>⟨rfl,rfl,.inr rfl,⟨rfl,rfl,.inr rfl,⟨rfl,rfl,.inr rfl,⟨rfl,rfl,.inr rfl,⟨rfl,rfl,.inl rfl,trivial⟩⟩⟩⟩⟩) (λ_=>⟨trivial,rfl,⟨⟨rfl,.inr rfl,trivial⟩,rfl,⟨⟨rfl,.inl rfl,trivial⟩,rfl,trivial⟩⟩⟩) (kW (tQ (aA rfl)) (by rintro _ ⟨w,rfl⟩;exact⟨⟨w,undef⟩,aW [0,1,3] rfl rfl (le_refl _)⟩)),trivial⟩
  · exactλX2=>cP (aQ rfl (aQ rfl (aQ rfl (bA (ae rfl)))))
 ·intro X2;refine to (eS (aA rfl) bQl (zs:=[.j 0,.sl 1 ((([]:List Int)).map aE),.sl 1 ((([]:List Int)).map aE),.lit (.map none)]) rfl rfl rfl rfl (es:=[.j j.Rounds,.sl 1 (Z16 j),.lit (X2 3).v,.lit (.map (some (X2 4).b))]) rfl) ?_;refine aZ rfl (eP (v:=.agg [.j j.Rounds,.sl 1 (Z16 j),.lit (X2 3).v,.lit (.map (some (X2 4).b))]) (aA rfl) rfl rfl rfl) ?_;rintro _ ⟨b5,rfl⟩;refine au 4 ?_;refine aZ rfl (tQ (aA rfl)) ?_;rintro _ ⟨r6,rfl⟩;refine aZ rfl (tQ (aA rfl)) ?_;rintro _ ⟨r7,rfl⟩;refine au 11 ?_;refine vQ [6,7,8,28,29] (λ(s8:Int×(List (aC×Int))×(List (aB×aC))×(List Nat)×Nat×(List Nat)×Nat)=>[(30,.i s8.1)]) (λ(s8:Int×(List (aC×Int))×(List (aB×aC))×(List Nat)×Nat×(List Nat)×Nat)=>[.arr (X2 3).v 3 1 (r3.map aE),.map (X2 4).b (([]:List (aB×Int)).map λp:aB×Int=>((λa:aB=>Value.agg ((aF a).map bD).toArray) p.1,(λv:Int=>AV.i v) p.2)) ([]) 0,.box b5 0 [.j j.Rounds,.sl 1 (Z16 j),.lit (X2 3).v,.lit (.map (some (X2 4).b))],.map r6 (s8.2.1.map λp:aC×Int=>((λa:aC=>Value.agg ((aJ a).map bD).toArray) p.1,(λv:Int=>AV.i v) p.2)) s8.2.2.2.1 s8.2.2.2.2.1,.map r7 (s8.2.2.1.map λp:aB×aC=>((λa:aB=>Value.agg ((aF a).map bD).toArray) p.1,(λv:aC=>AV.agg (aJ v)) p.2)) s8.2.2.2.2.2.1 s8.2.2.2.2.2.2]) (λ(k:Nat) (s8:Int×(List (aC×Int))×(List (aB×aC))×(List Nat)×Nat×(List Nat)×Nat)=>fX Q Y (Y.length:Int) r3 ([]:List (aB×Int)) j k s8.1 s8.2.1 s8.2.2.1) (λ_ h=>h) (0,([]:List (aC×Int)),([]:List (aB×aC)),[],0,[],0) h (aW [1,2,3,4,5] rfl rfl (aQ rfl (bA (ae rfl)))) ?_;rintro d8 ⟨N,e,g,G,u,A,s⟩ h;simp only[fX] at h;refine au 5 ?_;refine tip h (λc1 h=>?_) (λc1 h=>?_)
  ·refine au 5 ?_;obtain⟨c,c2,h⟩:=fB h;refine to (six rfl rfl bFq.of (dI aJ c2)) (to (aLx (aJ c) rfl sZ) ?_);refine aZ rfl (cF (zs:=[.j 0,.j 0,.j 0,.j 0,.j 0]) (aA rfl) zeroValue46 rfl rfl) ?_;rintro _ ⟨a2,rfl⟩;refine to (sst 5 rfl rfl sizeOf46 (aJ c)) (au 8 ?_);refine tip h (λc3 h=>?_) (λc3 h=>?_)
   ·refine aO ?_;refine kX mix 6 [6,7,8,28,29,30] (λJ=>[(37,.d (.lit (.map (some r6)))),(40,.i (w64 ((aR c 0 e)+1))),(42,.i (rW c e G u))]) (λJ=>[.arr (X2 3).v 3 1 (r3.map aE),.map (X2 4).b (([]:List (aB×Int)).map λp:aB×Int=>((λa:aB=>Value.agg ((aF a).map bD).toArray) p.1,(λv:Int=>AV.i v) p.2)) ([]) 0,.box b5 0 [.j j.Rounds,.sl 1 (Z16 j),.lit (X2 3).v,.lit (.map (some (X2 4).b))],.map r6 ((pK c 0 e).map λp:aC×Int=>((λa:aC=>Value.agg ((aJ a).map bD).toArray) p.1,(λv:Int=>AV.i v) p.2)) (mbs c e G u) (mck c e u),.map r7 (g.map λp:aB×aC=>((λa:aB=>Value.agg ((aF a).map bD).toArray) p.1,(λv:aC=>AV.agg (aJ v)) p.2)) A s,.box a2 0 (aJ c)]) ?_ ?_
    ·refine⟨0,λJ=>[(37,0,.d (.lit (.map (some r6)))),(38,1,.agg (aJ c)),(39,2,.i (aR c 0 e)),(40,3,.i (w64 ((aR c 0 e)+1))),(41,4,.tup [.i (aR c 0 e),.i (rW c e G u)]),(42,5,.i (rW c e G u))],λJ=>[([],.arr (X2 3).v 3 1 (r3.map aE)),([],.map (X2 4).b (([]:List (aB×Int)).map λp:aB×Int=>((λa:aB=>Value.agg ((aF a).map bD).toArray) p.1,(λv:Int=>AV.i v) p.2)) ([]) 0),([],.box b5 0 [.j j.Rounds,.sl 1 (Z16 j),.lit (X2 3).v,.lit (.map (some (X2 4).b))]),([(4,.map r6 ((pK c 0 e).map λp:aC×Int=>((λa:aC=>Value.agg ((aJ a).map bD).toArray) p.1,(λv:Int=>AV.i v) p.2)) (mbs c e G u) (mck c e u))],.map r6 (e.map λp:aC×Int=>((λa:aC=>Value.agg ((aJ a).map bD).toArray) p.1,(λv:Int=>AV.i v) p.2)) G u),([],.map r7 (g.map λp:aB×aC=>((λa:aB=>Value.agg ((aF a).map bD).toArray) p.1,(λv:aC=>AV.agg (aJ v)) p.2)) A s),([],.box a2 0 (aJ c))],?_,?_⟩
     · exact xok [(0,5),(0,5),(102,0),(3,0),(102,0),(5,0)] ⟨λ_ _ w _ k=>xp w (ym k (.d (.lit (.map (some r6))))),
 λ_ _ w _ k=>xp w (yla k 5 (aJ c) rfl (og k rfl rfl) sZ),
 λ_ _ w _ k=>xp w (bJc (av:=(λv:Int=>AV.i v)) (l:=e) (z:=0) (a:=c) (m:=3) (aA rfl) aYs underlying236 zeroValue3 (λ_ _=>.d (.lit _ rfl)) (aK k rfl) (og2 rfl) rfl (aK k rfl) (nM (enc:=aJ) c rfl)),
 λ_ _ w _ k=>xp w (yar k rfl rfl rfl),
 λJ S hw hi hS=>bSu (X:=J) (p:=3) hS rfl rfl rfl (hw J) rfl rfl rfl (kW (bFn (av:=(λv:Int=>AV.i v)) (l:=e) (z:=0) (a:=c) (m:=3) (aA rfl) aYs underlying236 zeroValue3 (λ_ _=>.d (.lit _ rfl)) (aK hS rfl) (og hS rfl rfl) rfl (aK hS rfl) (nM (enc:=aJ) c rfl)) (by rintro _ rfl;exact Ent.refl _)),
 fun _ _ w _ k=>xp w (yex k rfl rfl),trivial⟩
     · exactλJ=>cP (aQ rfl (aQ rfl (aQ rfl (bA (ae rfl)))))
    ·intro J;refine to (aWb (kv:=(λa:aC=>Value.agg ((aJ a).map bD).toArray)) (av:=(λv:Int=>AV.i v)) (l:=e) (z:=0) (v:=w64 ((aR c 0 e)+1)) (a:=c) (m:=3) rfl rfl rfl rfl rfl) ?_;refine aM ?_;refine dO ?_;refine .inl ⟨rfl,?_⟩;refine au 4 ?_;exact⟨(w64 (N+1),(dL c (w64 ((aR c 0 e)+1)) e),g,(mbs c e G u),(mck c e u),A,s),h,aW [0,1,2,3,4] rfl rfl (aQ rfl (bA (ae rfl)))⟩
   ·refine au 7 ?_;refine to (eS (aA rfl) aMy (zs:=[.j 0,.j 0]) rfl rfl rfl rfl (es:=[.j c.Round,.j c.Place]) rfl) ?_;refine aZ rfl (cF (zs:=[.j 0,.j 0]) (aA rfl) zeroValue111 rfl rfl) ?_;rintro _ ⟨c4,rfl⟩;refine to (sst 6 rfl rfl sizeOf111 (aF (aB.mk c.Round c.Place))) (au 5 ?_);refine to (sla 6 (aF (aB.mk c.Round c.Place)) rfl rfl kM) (to (aIr (av:=(λv:aC=>AV.agg (aJ v))) (l:=g) (z:=(aC.mk 0 0 0 0 0)) (a:=(aB.mk c.Round c.Place)) (m:=4) (aA rfl) yQ underlying237 zeroValue46 (λ_ _=>.agg (mA rfl)) rfl rfl rfl rfl (nM (enc:=aF) (aB.mk c.Round c.Place) rfl)) ?_);refine au 3 ?_;refine aZ rfl (cF (zs:=[.j 0,.j 0,.j 0,.j 0,.j 0]) (aA rfl) zeroValue46 rfl rfl) ?_;rintro _ ⟨c5,rfl⟩;refine to (sst 7 rfl rfl sizeOf46 (aJ (aR (aB.mk c.Round c.Place) (aC.mk 0 0 0 0 0) g))) (au 6 ?_);obtain⟨c6,O,h⟩:=fB h;refine eD 4 [6,7,8,10,11,28,29,30] 59 c6 ?_ ?_
    ·refine bch O (λP O=>?_) (λP O=>?_)
     ·refine tk P (sla 7 (aJ (aR (aB.mk c.Round c.Place) (aC.mk 0 0 0 0 0) g)) rfl rfl sZ) (tk P (sla 5 (aJ c) rfl rfl sZ) (tk P (aWn (a:=(aR (aB.mk c.Round c.Place) (aC.mk 0 0 0 0 0) g)) (b:=c) (aA rfl) rfl rfl rfl rfl Tryz.eqGuardType46 bGx) ?_));refine to (spt (.b (!decide ((aR (aB.mk c.Round c.Place) (aC.mk 0 0 0 0 0) g)=c))) P) ?_;obtain rfl:=sIn O;refine aM (bX rfl (ae rfl) rfl)
     ·refine au 4 ?_;obtain rfl:=sIn O;refine aM (bX rfl (ae rfl) rfl)
    ·refine aM ?_;refine tip h (λc7 h=>?_) (λc7 h=>?_)
     ·refine aO (aL (ta (cK aX (none:Option bC)) (au 2 ?_)));exact bP ⟨rfl,_,[],[.arr (X2 3).v 3 1 (r3.map aE),.map (X2 4).b (([]:List (aB×Int)).map λp:aB×Int=>((λa:aB=>Value.agg ((aF a).map bD).toArray) p.1,(λv:Int=>AV.i v) p.2)) ([]) 0,.box b5 0 [.j j.Rounds,.sl 1 (Z16 j),.lit (X2 3).v,.lit (.map (some (X2 4).b))],.map r6 (e.map λp:aC×Int=>((λa:aC=>Value.agg ((aJ a).map bD).toArray) p.1,(λv:Int=>AV.i v) p.2)) G u,.map r7 (g.map λp:aB×aC=>((λa:aB=>Value.agg ((aF a).map bD).toArray) p.1,(λv:aC=>AV.agg (aJ v)) p.2)) A s,.box a2 0 (aJ c),.box c4 0 (aF (aB.mk c.Round c.Place)),.box c5 0 (aJ (aR (aB.mk c.Round c.Place) (aC.mk 0 0 0 0 0) g))],_,.two (.tmp 4 (v:=cK aX (none:Option bC)) rfl) (.tmp 5 (v:=.b false) rfl),.refl _,.same _,((none:Option bC),false),h,rfl,rfl⟩
     ·refine au 3 ?_;refine to (sla 6 (aF (aB.mk c.Round c.Place)) rfl rfl kM) (to (sla 5 (aJ c) rfl rfl sZ) (to (pN (av:=(λv:aC=>AV.agg (aJ v))) (l:=g) (v:=c) (a:=(aB.mk c.Round c.Place)) (m:=4) yQ underlying237 rfl rfl rfl rfl (nM (enc:=aF) (aB.mk c.Round c.Place) rfl) rfl rfl) ?_));refine jW ?_;refine au 4 ?_;exact⟨(w64 (N+1),e,(dL (aB.mk c.Round c.Place) c g),G,u,(mbs (aB.mk c.Round c.Place) g A s),(mck (aB.mk c.Round c.Place) g s)),h,aW [0,1,2,3,4] rfl rfl (aQ rfl (bA (ae rfl)))⟩
  ·refine dO ?_;refine .inl ⟨rfl,?_⟩;simp only[qX] at h;refine au 5 ?_;refine cL (aW [2,0,3,1,4] rfl rfl (le_refl _)) ?_;refine aZ rfl (gM (passed:=[.box b5 0 [.j j.Rounds,.sl 1 (Z16 j),.lit (X2 3).v,.lit (.map (some (X2 4).b))],.arr (X2 3).v 3 1 (r3.map aE),.map r6 (e.map λp:aC×Int=>((λa:aC=>Value.agg ((aJ a).map bD).toArray) p.1,(λv:Int=>AV.i v) p.2)) G u]) (aA rfl) rfl (.func _ _ call170) rfl rfl (aFc j r3 e h)) ?_;rintro _ ⟨_,_,⟨B,b7,b8,h,rfl,rfl⟩,rfl⟩;refine to (sn rfl) (aM ?_);refine tip h (λc8 h=>?_) (λc8 h=>?_)
   ·refine aO (aL (ta (cK aX (none:Option bC)) (au 2 ?_)));exact bP ⟨rfl,_,[],[.box b5 0 [.j j.Rounds,.sl 1 (Z16 j),.lit (X2 3).v,.lit (.map (some (X2 4).b))],.arr (X2 3).v 3 1 (B.2.1.map aE),.map r6 (B.2.2.map λp:aC×Int=>((λa:aC=>Value.agg ((aJ a).map bD).toArray) p.1,(λv:Int=>AV.i v) p.2)) b7 b8,.map (X2 4).b (([]:List (aB×Int)).map λp:aB×Int=>((λa:aB=>Value.agg ((aF a).map bD).toArray) p.1,(λv:Int=>AV.i v) p.2)) ([]) 0,.map r7 (g.map λp:aB×aC=>((λa:aB=>Value.agg ((aF a).map bD).toArray) p.1,(λv:aC=>AV.agg (aJ v)) p.2)) A s],_,.two (.tmp 4 (v:=cK aX (none:Option bC)) rfl) (.tmp 5 (v:=.b false) rfl),.refl _,.same _,((none:Option bC),false),h,rfl,rfl⟩
   ·refine au 5 ?_;refine to (bJ (aA rfl) rfl) ?_;refine au 2 ?_;refine to (nG (m:=1) (aA rfl) rfl rfl fH.of) ?_;refine au 3 ?_;refine vQ [6,8,71,72] (λ(K:Int×(List (aB×Int))×(List Nat)×Nat)=>[(73,.i K.1)]) (λ(K:Int×(List (aB×Int))×(List Nat)×Nat)=>[.arr (X2 3).v 3 1 (B.2.1.map aE),.map (X2 4).b (K.2.1.map λp:aB×Int=>((λa:aB=>Value.agg ((aF a).map bD).toArray) p.1,(λv:Int=>AV.i v) p.2)) K.2.2.1 K.2.2.2,.box b5 0 [.j j.Rounds,.sl 1 (Z16 j),.lit (X2 3).v,.lit (.map (some (X2 4).b))],.map r7 (g.map λp:aB×aC=>((λa:aB=>Value.agg ((aF a).map bD).toArray) p.1,(λv:aC=>AV.agg (aJ v)) p.2)) A s]) (λ(k:Nat) (K:Int×(List (aB×Int))×(List Nat)×Nat)=>fY Q (B.2.1.length:Int) B.2.1 j g k K.1 K.2.1) (λ_ h=>h) (0,([]:List (aB×Int)),[],0) h (aW [1,3,0,4] rfl rfl (aQ rfl (bA (ae rfl)))) ?_;rintro d9 ⟨H,F,T,U⟩ h;simp only[fY] at h;refine au 5 ?_;refine tip h (λc9 h=>?_) (λc9 h=>?_)
    ·refine au 6 ?_;obtain⟨e0,a9,h⟩:=fB h;refine to (pM (m:=0) (aA rfl) rfl rfl rfl fH.of (dI aE a9)) ?_;refine to (wF (aA rfl) rfl (m:=0) rfl (aDp aE a9) rfl dG) ?_;refine au 8 ?_;refine tip h (λd0 h=>?_) (λd0 h=>?_)
     ·refine au 3 ?_;refine to (bJa (aA rfl) rfl rfl (.inr (.inr ⟨rfl,rfl⟩))) ?_;obtain⟨d1,d2,h⟩:=fB h;refine cL (aW [2,0,1,3] rfl rfl (le_refl _)) ?_;refine aZ rfl (gM (passed:=[.box b5 0 [.j j.Rounds,.sl 1 (Z16 j),.lit (X2 3).v,.lit (.map (some (X2 4).b))],.arr (X2 3).v 3 1 (B.2.1.map aE),.map (X2 4).b (F.map λp:aB×Int=>((λa:aB=>Value.agg ((aF a).map bD).toArray) p.1,(λv:Int=>AV.i v) p.2)) T U]) (aA rfl) rfl (.func _ _ call171) rfl rfl (xY j B.2.1 F (aXi H 1) 0 d2)) ?_;rintro _ ⟨_,_,⟨b9,c0,rfl,rfl⟩,rfl⟩;refine jW ?_;refine au 4 ?_;exact⟨(w64 (H+1),d1.2,b9,c0),h,aW [1,2,0,3] rfl rfl (aQ rfl (bA (ae rfl)))⟩
     ·refine gW ?_;refine au 4 ?_;exact⟨(w64 (H+1),F,T,U),h,aW [0,1,2,3] rfl rfl (aQ rfl (bA (ae rfl)))⟩
    ·refine dO ?_;refine .inl ⟨rfl,?_⟩;simp only[qY] at h;refine au 4 ?_;refine aZ rfl (bCw (m:=3) (aA rfl) underlying237 rfl rfl) ?_;rintro _ ⟨Z,d3,rfl⟩;have h:=aDc h d3;refine aM (qQ ?_);refine vQ [6,86] (λ(L:(List (aB×Int))×(List Nat)×Nat×(List Nat))=>[]) (λ(L:(List (aB×Int))×(List Nat)×Nat×(List Nat))=>[.arr (X2 3).v 3 1 (B.2.1.map aE),.map (X2 4).b (L.1.map λp:aB×Int=>((λa:aB=>Value.agg ((aF a).map bD).toArray) p.1,(λv:Int=>AV.i v) p.2)) L.2.1 L.2.2.1,.box b5 0 [.j j.Rounds,.sl 1 (Z16 j),.lit (X2 3).v,.lit (.map (some (X2 4).b))],.map r7 (g.map λp:aB×aC=>((λa:aB=>Value.agg ((aF a).map bD).toArray) p.1,(λv:aC=>AV.agg (aJ v)) p.2)) A s,.iter Z r7 s L.2.2.2 s]) (λ(k:Nat) (L:(List (aB×Int))×(List Nat)×Nat×(List Nat))=>jL Q B.2.1 j g k L.1 (jY g A L.2.2.2)) (λ_ h=>h) (F,T,U,[]) h (aW [0,1,2,3,4] rfl rfl (bA (ae rfl))) ?_;rintro e1 ⟨y,V,W,I⟩ h;simp only[jL] at h;refine aO (aL ?_);refine aZ rfl (bJe (kv:=(λa:aB=>Value.agg ((aF a).map bD).toArray)) (av:=(λv:aC=>AV.agg (aJ v))) (l:=g) (mi:=4) (mm:=3) (aA rfl) rfl rfl rfl) ?_;rintro _ (⟨d4,rfl⟩|⟨e2,a3,n,b0,rfl⟩)
     ·have h:=h.1 d4;refine au 3 ?_;refine iY rfl (λb2=>?_) (λb2=>?_)
      ·exact absurd b2 (by decide)
      ·refine dO ?_;refine .inl ⟨rfl,?_⟩;simp only[vH] at h;refine au 6 ?_;exact bP ⟨rfl,_,[],[.arr (X2 3).v 3 1 (B.2.1.map aE),.map (X2 4).b (y.map λp:aB×Int=>((λa:aB=>Value.agg ((aF a).map bD).toArray) p.1,(λv:Int=>AV.i v) p.2)) V W,.box b5 0 [.j j.Rounds,.sl 1 (Z16 j),.lit (X2 3).v,.lit (.map (some (X2 4).b))],.map r7 (g.map λp:aB×aC=>((λa:aB=>Value.agg ((aF a).map bD).toArray) p.1,(λv:aC=>AV.agg (aJ v)) p.2)) A s,.iter Z r7 s I s],_,.two (.tmp 4 (v:=.bp b5 0 0) rfl) (.tmp 5 (v:=.b true) rfl),.refl _,zX (.cons (lU 2 rfl rfl (dvc (.same _) (dvc (.same _) (dvc (cI 0 rfl (bN (f:=aE) λ_=>rfl)) (dvc (aHi (kv:=(λa:aB=>Value.agg ((aF a).map bD).toArray)) (av:=(λv:Int=>AV.i v)) (l:=y) (enc:=aE) (agg:=false) 1 rfl (λ_ _=>rfl) (λ_=>rfl)) dvn))))) (.cons (.same _) .nil)),((some (bC.mk j B.2.1 y)),true),h,rfl,rfl⟩
     ·have h:=aFj h b0;refine au 3 ?_;refine iY rfl (λb3=>?_) (λb3=>?_)
      ·refine au 4 ?_;refine to (bCv (kv:=(λa:aB=>Value.agg ((aF a).map bD).toArray)) (av:=(λv:aC=>AV.agg (aJ v))) (l:=g) (mi:=4) (mm:=3) (ka:=.agg (aF n.1)) (aA rfl) rfl rfl rfl b0 (λ_ _=>.agg (mA rfl))) ?_;refine au 2 ?_;refine aZ rfl (cF (zs:=[.j 0,.j 0]) (aA rfl) zeroValue111 rfl rfl) ?_;rintro _ ⟨M,rfl⟩;refine aZ rfl (cF (zs:=[.j 0,.j 0,.j 0,.j 0,.j 0]) (aA rfl) zeroValue46 rfl rfl) ?_;rintro _ ⟨a4,rfl⟩;refine to (sst 5 rfl rfl sizeOf111 (aF n.1)) (to (sst 6 rfl rfl sizeOf46 (aJ n.2)) (aM (aO ?_)));refine dX mix 6 [6,16,86] [(95,.d (.lit (X2 3).v)),(97,.i n.2.Player)] ?_ ?_
       ·refine⟨[(92,0,.bp b5 0 0),(93,1,.bp b5 0 0),(94,2,.bp b5 0 2),(95,3,.d (.lit (X2 3).v)),(96,4,.bp a4 0 3),(97,5,.i n.2.Player)],?_,?_⟩
        · exact dk [0,1,2,3,0,5] ⟨go (zm (.bp b5 0 0)),
 go λS hS=>bJ (aA rfl) (aK hS rfl),
 go (zf rfl wB),
 go (zl 2 rfl rfl rfl aAj),
 go (zf rfl aOl),
 go (zl 6 rfl rfl rfl dG),trivial⟩
        · exact cP (aQ rfl (aQ rfl (bA (ae rfl))))
       ·obtain⟨q,d5,h⟩:=fB h;refine to (sc call172 (aAw _ _ d5) (.cons (.d (cI 0 rfl (bN (f:=aE) λ_=>rfl))) (.cons (.same _) .nil))) (au 3 ?_);obtain⟨a5,E,h⟩:=fB h;refine aHf (a5) (λt=>?_) (λt=>?_)
        ·have h:=bBy t h;refine dX mix 15 [6,86] [(109,.b a5)] ?_ ?_
         ·refine bch E (λo E=>?_) (λo E=>?_)
          ·obtain rfl:=sIn E;refine⟨[(99,0,.i q),(100,1,.b (decide (q<0))),(101,2,.b (decide (q<0))),(102,3,.tup []),(103,4,.tup []),(104,5,.tup []),(105,6,.tup []),(106,7,.tup []),(107,8,.tup []),(108,9,.b true),(109,10,.b (true)),(110,11,.tup []),(111,12,.tup []),(112,13,.tup []),(113,14,.tup [])],?_,?_⟩
           · exact dk [0,1,2,3,304,3,30506,3,30708,309,10,11,11,11,1114] ⟨go (zm (.i q)),
 go (zcm rfl rfl rfl),
 go (zm (.b (decide (q<0)))),
 gp o,
 gp o,
 gp o,
 gp o,
 gp o,
 gp o,
 go (zpt (.b true) o),
 go (zm (.b (true))),
 gp t,
 gp t,
 gp t,
 gp t,trivial⟩
           · exact cP (aQ rfl (bA (ae rfl)))
          ·obtain⟨C,a6,E⟩:=bns E;obtain rfl:=sIn E;refine⟨[(99,0,.i q),(100,1,.b (decide (q<0))),(101,2,.b (decide (q<0))),(102,3,.bp M 0 0),(103,4,.i n.1.round),(104,5,.i q),(105,6,.agg (aF C)),(106,7,.agg (aF n.1)),(107,8,.b (!decide (C=n.1))),(108,9,.b (!decide (C=n.1))),(109,10,.b (!decide (C=n.1))),(110,11,.tup []),(111,12,.tup []),(112,13,.tup []),(113,14,.tup [])],?_,?_⟩
           · exact dk [0,1,2,3,304,3,30506,3,30708,309,10,11,11,11,1114] ⟨go (zm (.i q)),
 go (zcm rfl rfl rfl),
 go (zm (.b (decide (q<0)))),
 gt o (zf rfl wA),
 gt o (zl 5 rfl rfl rfl dG),
 gt o (zm (.i q)),
 gt o λS hS=>fV (aA rfl) (.func _ _ call173) (ev2 (aK hS rfl) (ev2 (aK hS rfl) evn)) rfl (BVs.refl _ _) (aCq _ _ a6) rfl,
 gt o (zla 5 (aF n.1) rfl rfl kM),
 gt o λS hS=>aWn (a:=C) (b:=n.1) (aA rfl) (aK hS rfl) (aK hS rfl) rfl rfl Tryz.eqGuardType111 aSv,
 go (zpf (.b (!decide (C=n.1))) o),
 go (zm (.b (!decide (C=n.1)))),
 gp t,
 gp t,
 gp t,
 gp t,trivial⟩
           · exact cP (aQ rfl (bA (ae rfl)))
         ·refine au 4 ?_;refine iY rfl (λb4=>?_) (λb4=>?_)
          ·refine aO (aL (ta (cK aX (none:Option bC)) (au 2 ?_)));exact bP ⟨rfl,_,[],[.arr (X2 3).v 3 1 (B.2.1.map aE),.map (X2 4).b (y.map λp:aB×Int=>((λa:aB=>Value.agg ((aF a).map bD).toArray) p.1,(λv:Int=>AV.i v) p.2)) V W,.box b5 0 [.j j.Rounds,.sl 1 (Z16 j),.lit (X2 3).v,.lit (.map (some (X2 4).b))],.map r7 (g.map λp:aB×aC=>((λa:aB=>Value.agg ((aF a).map bD).toArray) p.1,(λv:aC=>AV.agg (aJ v)) p.2)) A s,.iter Z r7 s (I++[a3]) s,.box M 0 (aF n.1),.box a4 0 (aJ n.2)],_,.two (.tmp 4 (v:=cK aX (none:Option bC)) rfl) (.tmp 5 (v:=.b false) rfl),.refl _,.same _,((none:Option bC),false),h,rfl,rfl⟩
          ·exact absurd b4 (by decide)
        ·have h:=bBx t h;refine dX mix 15 [6,86] [(109,.b a5),(110,.bp b5 0 0),(111,.i q),(112,.bp M 0 0),(113,.i n.1.round)] ?_ ?_
         ·refine bch E (λo E=>?_) (λo E=>?_)
          ·obtain rfl:=sIn E;refine⟨[(99,0,.i q),(100,1,.b (decide (q<0))),(101,2,.b (decide (q<0))),(102,3,.tup []),(103,4,.tup []),(104,5,.tup []),(105,6,.tup []),(106,7,.tup []),(107,8,.tup []),(108,9,.b true),(109,10,.b (true)),(110,11,.bp b5 0 0),(111,12,.i q),(112,13,.bp M 0 0),(113,14,.i n.1.round)],?_,?_⟩
           · exact dk [0,1,2,3,304,3,30506,3,30708,309,10,11,11,11,1114] ⟨go (zm (.i q)),
 go (zcm rfl rfl rfl),
 go (zm (.b (decide (q<0)))),
 gp o,
 gp o,
 gp o,
 gp o,
 gp o,
 gp o,
 go (zpt (.b true) o),
 go (zm (.b (true))),
 gt t (zm (.bp b5 0 0)),
 gt t (zm (.i q)),
 gt t (zf rfl wA),
 gt t (zl 5 rfl rfl rfl dG),trivial⟩
           · exact cP (aQ rfl (aQ rfl (aQ rfl (aQ rfl (aQ rfl (bA (ae rfl)))))))
          ·obtain⟨C,a6,E⟩:=bns E;obtain rfl:=sIn E;refine⟨[(99,0,.i q),(100,1,.b (decide (q<0))),(101,2,.b (decide (q<0))),(102,3,.bp M 0 0),(103,4,.i n.1.round),(104,5,.i q),(105,6,.agg (aF C)),(106,7,.agg (aF n.1)),(107,8,.b (!decide (C=n.1))),(108,9,.b (!decide (C=n.1))),(109,10,.b (!decide (C=n.1))),(110,11,.bp b5 0 0),(111,12,.i q),(112,13,.bp M 0 0),(113,14,.i n.1.round)],?_,?_⟩
           · exact dk [0,1,2,3,304,3,30506,3,30708,309,10,11,11,11,1114] ⟨go (zm (.i q)),
 go (zcm rfl rfl rfl),
 go (zm (.b (decide (q<0)))),
 gt o (zf rfl wA),
 gt o (zl 5 rfl rfl rfl dG),
 gt o (zm (.i q)),
 gt o λS hS=>fV (aA rfl) (.func _ _ call173) (ev2 (aK hS rfl) (ev2 (aK hS rfl) evn)) rfl (BVs.refl _ _) (aCq _ _ a6) rfl,
 gt o (zla 5 (aF n.1) rfl rfl kM),
 gt o λS hS=>aWn (a:=C) (b:=n.1) (aA rfl) (aK hS rfl) (aK hS rfl) rfl rfl Tryz.eqGuardType111 aSv,
 go (zpf (.b (!decide (C=n.1))) o),
 go (zm (.b (!decide (C=n.1)))),
 gt t (zm (.bp b5 0 0)),
 gt t (zm (.i q)),
 gt t (zf rfl wA),
 gt t (zl 5 rfl rfl rfl dG),trivial⟩
           · exact cP (aQ rfl (aQ rfl (aQ rfl (aQ rfl (aQ rfl (bA (ae rfl)))))))
         ·obtain⟨b6,d6,h⟩:=fB h;refine cL (aW [2,0,1,3,4,5,6] rfl rfl (le_refl _)) ?_;refine aTu rfl rfl (aA rfl) rfl t (gM (passed:=[.box b5 0 [.j j.Rounds,.sl 1 (Z16 j),.lit (X2 3).v,.lit (.map (some (X2 4).b))],.arr (X2 3).v 3 1 (B.2.1.map aE),.map (X2 4).b (y.map λp:aB×Int=>((λa:aB=>Value.agg ((aF a).map bD).toArray) p.1,(λv:Int=>AV.i v) p.2)) V W]) (aA rfl) rfl (.func _ _ call171) rfl rfl (xY j B.2.1 y q n.1.round d6)) ?_;rintro _ ⟨_,_,⟨a7,a8,rfl,rfl⟩,rfl⟩;refine au 3 ?_;refine tip h (λd7 h=>?_) (λd7 h=>?_)
          ·refine aO (aL (ta (cK aX (none:Option bC)) (au 2 ?_)));exact bP ⟨rfl,_,[],[.box b5 0 [.j j.Rounds,.sl 1 (Z16 j),.lit (X2 3).v,.lit (.map (some (X2 4).b))],.arr (X2 3).v 3 1 (B.2.1.map aE),.map (X2 4).b (b6.2.map λp:aB×Int=>((λa:aB=>Value.agg ((aF a).map bD).toArray) p.1,(λv:Int=>AV.i v) p.2)) a7 a8,.map r7 (g.map λp:aB×aC=>((λa:aB=>Value.agg ((aF a).map bD).toArray) p.1,(λv:aC=>AV.agg (aJ v)) p.2)) A s,.iter Z r7 s (I++[a3]) s,.box M 0 (aF n.1),.box a4 0 (aJ n.2)],_,.two (.tmp 4 (v:=cK aX (none:Option bC)) rfl) (.tmp 5 (v:=.b false) rfl),.refl _,.same _,((none:Option bC),false),h,rfl,rfl⟩
          ·refine gW ?_;exact⟨(b6.2,a7,a8,(I++[a3])),h,aW [1,2,0,3,4] rfl rfl (bA (ae rfl))⟩
      ·exact absurd b3 (by decide)

theorem tV(a:aI)(e:List aC){Q:((Option bC)×Int)->Prop}(h:jD a e Q):bI Tryz.prog 45 [.agg (bH a),.d (Z25 e)] [] (λr' o'=>∃(r:(Option bC)×Int),Q r/\r'=.tup [cK aX r.1,.i r.2]/\o'=[]):=by
 unfold jD at h;refine cB func45 rfl (rs:=[.tmp 4,.tmp 5]) results45 ntmps45 (Nat.le_of_ble_eq_true rfl) ?_;refine aO (aL ?_);refine aZ rfl (eP (v:=.agg (bH a)) (aA rfl) rfl rfl rfl) ?_;rintro _ ⟨b1,rfl⟩;refine ta (cK aX (none:Option bC)) (au 5 ?_);refine to (sla 0 (bH a) rfl rfl wM) ?_;obtain⟨r2,h3,h⟩:=fB h;refine to (scr call82 (aOd _ h3)) (to (sn rfl) (aM ?_));refine tip h (λc4 h=>?_) (λc4 h=>?_)
 ·refine aO (aL (ta (cK aX (none:Option bC)) (au 2 ?_)));exact bP ⟨rfl,_,[],[.box b1 0 (bH a)],_,.two (.tmp 4 (v:=cK aX (none:Option bC)) rfl) (.tmp 5 (v:=.i 70) rfl),.refl _,.same _,((none:Option bC),70),h,rfl,rfl⟩
 ·refine au 8 ?_;obtain⟨b5,h6,h⟩:=fB h;refine eD 4 [1,2] 18 b5 ?_ ?_
  ·refine bch h6 (λc h6=>?_) (λc h6=>?_)
   ·refine au 4 ?_;obtain rfl:=sIn h6;refine aM (bX rfl (ae rfl) rfl)
   ·refine tk c (sm (.d (Z25 e))) (tk c (aLp (aA rfl) rfl rfl) ?_);obtain⟨f,g,h6⟩:=bns h6;refine tk c (sc call83 (xP _ _ 84 [.cp [.j a.Rounds,.sl 1 (Z16 a)]] call84 (λ_ _ h6=>aOe _ _ h6) g) (.cons (.same _) (.cons (aMd (.cons (lU 0 rfl rfl (dvc (.same _) (dvc (.same _) dvn))) .nil)) .nil))) (to (spf (.b f) c) ?_);obtain rfl:=sIn h6;refine aM (bX rfl (ae rfl) rfl)
  ·refine aM ?_;refine tip h (λc7 h=>?_) (λc7 h=>?_)
   ·refine aO (aL (ta (cK aX (none:Option bC)) (au 2 ?_)));exact bP ⟨rfl,_,[],[.box b1 0 (bH a)],_,.two (.tmp 4 (v:=cK aX (none:Option bC)) rfl) (.tmp 5 (v:=.i 71) rfl),.refl _,.same _,((none:Option bC),71),h,rfl,rfl⟩
   ·refine au 3 ?_;refine to (sla 0 (bH a) rfl rfl wM) (tm (.d (Z25 e)) ?_);refine aZ rfl (nT (aA rfl) (.func _ _ call86) rfl rfl (aPw _ _ h)) ?_;rintro _ ⟨_,_,⟨r8,h,rfl,rfl⟩,rfl⟩;refine au 3 ?_;refine ta (cK aX r8.1) (au 8 ?_);refine tip h (λc9 h=>?_) (λc9 h=>?_)
    ·refine aO (aL (ta (cK aX (none:Option bC)) (au 2 ?_)));exact bP ⟨rfl,_,[],[.box b1 0 (bH a)],_,.two (.tmp 4 (v:=cK aX (none:Option bC)) rfl) (.tmp 5 (v:=.i 72) rfl),.refl _,.same _,((none:Option bC),72),h,rfl,rfl⟩
    ·refine au 3 ?_;refine tm (cK aX r8.1) (ta (cK aX r8.1) (au 2 ?_));exact bP ⟨rfl,_,[],[.box b1 0 (bH a)],_,.two (.tmp 4 (v:=cK aX r8.1) rfl) (.tmp 5 (v:=.i 0) rfl),.refl _,.same _,(r8.1,0),h,rfl,rfl⟩

theorem xX(f:bC)(e:aB)(c:Int){r:Int}(h:kP f e c=some r):Fn Tryz.prog 88 [.cp (aX f),.agg (aF e),.i c] (.i r):=by
 unfold kP at h;refine oT [.tmp 6] func88 results88 ntmps88 ?_;refine aO (aL ?_);refine aZ rfl (eP (v:=.agg (aF e)) (aA rfl) rfl rfl rfl) ?_;rintro _ ⟨b1,rfl⟩;refine au 18 ?_;refine tih h (λc2 h=>?_) (λc2 h=>?_)
 ·refine au 3 ?_;refine to (eB (aA rfl) rfl) ?_;refine to (sfc [.sl 1 (f.players.map aE)] rfl wB) (au 2 ?_);obtain⟨x3,h4,h⟩:=bns h;refine to (six rfl rfl fH.of (dI aE h4)) (au 3 ?_);obtain rfl:=sIn h;refine dA (jM (kA (l:=[6]) (ae rfl))) ?_;exact rt
 ·refine au 3 ?_;refine dX mix 14 [] [(8,.i (aR (Z7 e c) 0 f.won)),(37,.b (cN (Z7 e c) f.won))] ?_ ?_
  ·refine⟨[(26,0,.cp [.j f.Tree.Rounds,.sl 1 (f.Tree.Slots.map aE),.sl 1 (f.players.map aE),.mp false (f.won.map λp:aB×Int=>((λa:aB=>Value.agg ((aF a).map bD).toArray) p.1,aE p.2))]),(27,1,.cp [.j f.Tree.Rounds,.sl 1 (f.Tree.Slots.map aE),.sl 1 (f.players.map aE),.mp false (f.won.map λp:aB×Int=>((λa:aB=>Value.agg ((aF a).map bD).toArray) p.1,aE p.2))]),(28,2,.cp [.mp false (f.won.map λp:aB×Int=>((λa:aB=>Value.agg ((aF a).map bD).toArray) p.1,aE p.2))]),(29,3,.d (.mp false (f.won.map λp:aB×Int=>((λa:aB=>Value.agg ((aF a).map bD).toArray) p.1,aE p.2)))),(30,4,.bp b1 0 0),(31,5,.i e.round),(32,6,.i (w64 (e.round-1))),(33,7,.i (w64 ((w64 (2*e.place))+c))),(34,8,.agg (aF (Z7 e c))),(35,9,.tup [.i (aR (Z7 e c) 0 f.won),.b (cN (Z7 e c) f.won)]),(25,10,.tup [.i (aR (Z7 e c) 0 f.won),.b (cN (Z7 e c) f.won)]),(36,11,.i (aR (Z7 e c) 0 f.won)),(37,12,.b (cN (Z7 e c) f.won)),(8,13,.i (aR (Z7 e c) 0 f.won))],?_,?_⟩
   · exact dk [0,1,2,3,0,5,6,0,708,409,10,11,11,12] ⟨go (zm (Z10 f)),
 go λS hS=>eB (aA rfl) (aK hS rfl),
 go (zfc [.mp false (f.won.map λp:aB×Int=>((λa:aB=>Value.agg ((aF a).map bD).toArray) p.1,aE p.2))] rfl aAe),
 go (zlc rfl aGl),
 go (zf rfl wA),
 go (zl 0 rfl rfl rfl dG),
 go (zar rfl rfl rfl),
 go (zm (.i (w64 ((w64 (2*e.place))+c)))),
 go λS hS=>eS (aA rfl) aMy (zs:=[.j 0,.j 0]) rfl rfl rfl (pa2 (aK hS rfl) (pa2 (aK hS rfl) pan)) (es:=[.j (w64 (e.round-1)),.j (w64 ((w64 (2*e.place))+c))]) rfl,
 go λS hS=>vE (enc:=aE) (agg:=false) (l:=f.won) (z:=0) (a:=(Z7 e c)) (aA rfl) yQ underlying114 zeroValue3 (λ_ _=>.d (.lit _ rfl)) (aK hS rfl) rfl rfl (aK hS rfl) (nM (enc:=aF) (Z7 e c) rfl),
 go (zm (.tup [.i (aR (Z7 e c) 0 f.won),.b (cN (Z7 e c) f.won)])),
 go (zex rfl rfl),
 go (zex rfl rfl),
 go (za (.i (aR (Z7 e c) 0 f.won))),trivial⟩
   · exact cP (aQ rfl (aQ rfl (bA trivial)))
  ·refine au 6 ?_;refine tih h (λc5 h=>?_) (λc5 h=>?_)
   ·refine au 5 ?_;obtain rfl:=sIn h;refine dA (jM (kA (l:=[6]) (ae rfl))) ?_;exact rt
   ·refine au 5 ?_;obtain rfl:=sIn h;refine dA (jM (kA (l:=[6]) (ae rfl))) ?_;exact rt

theorem uT{S:Type}(J:S->MO->Prop)(ly:Nat)(f:S->aB->aP->Option S)(hy:∀(s:S) (m:MO) (x0:aB) (x1:aP) (s':S),J s m->f s x0 x1=some s'->aJv Tryz.prog ly [.agg (aF x0),.agg (cE x1)] m (J s'))(e:bC)(sy:S)(m0:MO)(hj:J sy m0){r:S}(h:fZ e f sy=some r):bI Tryz.prog 47 [.cp (aX e),.d (.lit (yv ly))] [m0] (λ_ o'=>∃m',J r m'/\o'=[m']):=by
 unfold fZ at h;refine uQ func47 rfl (rs:=[]) results47 ntmps47 (Nat.le_of_ble_eq_true rfl) ?_;refine au 3 ?_;refine to (eB (aA rfl) rfl) ?_;refine to (sfc [.j e.Tree.Rounds,.sl 1 (e.Tree.Slots.map aE)] rfl aKm) (to (sfc [.j e.Tree.Rounds] rfl aCw) (au 4 ?_));refine eQ (S:=Int×({x:S×MO // J x.1 x.2})) [0,1,11] (λs1=>[(12,.i s1.1)]) (λs1=>[s1.2.1.2]) (λk s1=>cQ f e e.Tree.Rounds k s1.1 s1.2.1.1) (λ_=>rfl) (0,⟨(sy,m0),hj⟩) h (aW [0] rfl rfl (aQ rfl (bA (ae rfl)))) ?_;rintro k3 ⟨b,y2⟩ h;simp only[cQ] at h;refine au 5 ?_;refine tih h (λc4 h=>?_) (λc4 h=>?_)
 ·refine au 11 ?_;refine to (eB (aA rfl) rfl) ?_;refine to (sfc [.j e.Tree.Rounds,.sl 1 (e.Tree.Slots.map aE)] rfl aKm) (to (sfc [.sl 1 (e.Tree.Slots.map aE)] rfl aHq) (au 4 ?_));obtain⟨u5,h6,h⟩:=bns h;refine to (bOl (aA rfl) rfl rfl (bEi h6)) ?_;refine au 2 ?_;refine bDj ?_;refine eQ (S:=Int×({x:S×MO // J x.1 x.2})) [0,1,4,11,12,23] (λs7=>[(24,.i s7.1)]) (λs7=>[s7.2.1.2]) (λk s7=>dY f (cQ f e e.Tree.Rounds k3) e b e.Tree.Rounds b ((e.Tree.Slots.length:Int).fdiv (2^(min (w64 (b+1)).toNat 64))) k s7.1 s7.2.1.1) (λ_=>rfl) (0,⟨(y2.1.1,y2.1.2),y2.2⟩) h (aW [0] rfl rfl (aQ rfl (bA (ae rfl)))) ?_;rintro k9 ⟨c,y8⟩ h;simp only[dY] at h;refine au 5 ?_;refine tih h (λo h=>?_) (λo h=>?_)
  ·refine au 12 ?_;refine to (eS (aA rfl) aMy (zs:=[.j 0,.j 0]) rfl rfl rfl rfl (es:=[.j b,.j c]) rfl) ?_;refine aZ rfl (cF (zs:=[.j 0,.j 0]) (aA rfl) zeroValue111 rfl rfl) ?_;rintro _ ⟨y,rfl⟩;refine to (sst 1 rfl rfl sizeOf111 (aF (aB.mk b c))) (aM (aO ?_));obtain⟨g,q,h⟩:=bns h;obtain⟨j,t,h⟩:=bns h;refine dX mix 11 [0,1,4,11,12,23,24] [(30,.d (.lit (yv ly))),(31,.agg (aF (aB.mk b c))),(40,.agg (cE (aP.mk b c g j)))] ?_ ?_
   ·refine⟨[(30,0,.d (.lit (yv ly))),(31,1,.agg (aF (aB.mk b c))),(32,2,.i b),(33,3,.i c),(34,4,.cp [.j e.Tree.Rounds,.sl 1 (e.Tree.Slots.map aE),.sl 1 (e.players.map aE),.mp false (e.won.map λp:aB×Int=>((λa:aB=>Value.agg ((aF a).map bD).toArray) p.1,aE p.2))]),(35,5,.agg (aF (aB.mk b c))),(36,6,.i g),(37,7,.cp [.j e.Tree.Rounds,.sl 1 (e.Tree.Slots.map aE),.sl 1 (e.players.map aE),.mp false (e.won.map λp:aB×Int=>((λa:aB=>Value.agg ((aF a).map bD).toArray) p.1,aE p.2))]),(38,8,.agg (aF (aB.mk b c))),(39,9,.i j),(40,10,.agg (cE (aP.mk b c g j)))],?_,?_⟩
    · exact dk [0,0,0,0,0,0,506,0,0,809,3040710] ⟨go (zm (.d (.lit (yv ly)))),
 go (zla 1 (aF (aB.mk b c)) rfl rfl kM),
 go (zm (.i b)),
 go (zm (.i c)),
 go (zm (Z10 e)),
 go (zla 1 (aF (aB.mk b c)) rfl rfl kM),
 go λS hS=>fV (aA rfl) (.func _ _ call88) (ev2 (aK hS rfl) (ev2 (aK hS rfl) (ev2 rfl evn))) rfl (BVs.refl _ _) (xX _ _ _ q) rfl,
 go (zm (Z10 e)),
 go (zla 1 (aF (aB.mk b c)) rfl rfl kM),
 go λS hS=>fV (aA rfl) (.func _ _ call88) (ev2 (aK hS rfl) (ev2 (aK hS rfl) (ev2 rfl evn))) rfl (BVs.refl _ _) (xX _ _ _ t) rfl,
 go λS hS=>eS (aA rfl) bSq (zs:=[.j 0,.j 0,.j 0,.j 0]) rfl rfl rfl (pa2 (aK hS rfl) (pa2 (aK hS rfl) (pa2 (aK hS rfl) (pa2 (aK hS rfl) pan)))) (es:=[.j b,.j c,.j g,.j j]) rfl,trivial⟩
    · exact cP (aQ rfl (aQ rfl (aQ rfl (bA (ae rfl)))))
   ·obtain⟨u,v,h⟩:=bns h;refine bAj rfl (bQc (aA rfl) rfl rfl rfl rfl (hy _ _ _ _ _ y8.2 v)) ?_;rintro _ ⟨w,n,rfl⟩;refine to (sn rfl) (aM ?_);refine iY rfl (λl=>?_) (λl=>?_)
    ·exact absurd l (by decide)
    ·refine gW ?_;refine au 4 ?_;exact⟨(w64 (c+1),⟨(u,w),n⟩),h,aW [0] rfl rfl (aQ rfl (bA (ae rfl)))⟩
  ·refine dO ?_;refine .inl ⟨rfl,?_⟩;simp only[iT] at h;simp only[oJ] at h;refine au 4 ?_;exact⟨(w64 (b+1),⟨(y8.1.1,y8.1.2),y8.2⟩),h,aW [0] rfl rfl (aQ rfl (bA (ae rfl)))⟩
 ·refine dO ?_;refine .inl ⟨rfl,?_⟩;simp only[oI] at h;obtain rfl:=sIn h;exact⟨_,[y2.1.2],[],_,.none,.refl _,.same _,y2.1.2,y2.2,rfl⟩

theorem aPq(a:aI)(g:List aC){Q:((List aP)×Int)->Prop}(h:rS a g Q):bI Tryz.prog 53 [.agg (bH a),.d (Z25 g)] [] (λr' o'=>∃(r:(List aP)×Int),Q r/\r'=.tup [.d (.sl 4 (r.1.map cE)),.i r.2]/\o'=[]):=by
 unfold rS at h;refine cB func53 rfl (rs:=[.tmp 4,.tmp 5]) results53 ntmps53 (Nat.le_of_ble_eq_true rfl) ?_;refine aO (aL ?_);refine aZ rfl (eP (v:=.agg (bH a)) (aA rfl) rfl rfl rfl) ?_;rintro _ ⟨b1,rfl⟩;refine to (aEu 4 (aA rfl)) ?_;refine au 4 ?_;refine to (sla 0 (bH a) rfl rfl wM) (tm (.d (Z25 g)) ?_);refine aZ rfl (nT (aA rfl) (.func _ _ call45) rfl rfl (tV _ _ h)) ?_;rintro _ ⟨_,_,⟨r2,h,rfl,rfl⟩,rfl⟩;refine au 3 ?_;refine ta (cK aX r2.1) (au 8 ?_);refine tip h (λc3 h=>?_) (λc3 h=>?_)
 ·refine au 3 ?_;refine to (aEu 4 (aA rfl)) ?_;refine au 2 ?_;exact bP ⟨rfl,_,[],[.box b1 0 (bH a)],_,.two (.tmp 4 (v:=.d (.sl 4 ((([]:List aP)).map cE))) rfl) (.tmp 5 (v:=.i r2.2) rfl),.refl _,.same _,(([]:List aP),r2.2),h,rfl,rfl⟩
 ·refine au 3 ?_;refine aZ rfl (cF (zs:=[.lit (.slice none 0 0)]) (aA rfl) zeroValue49 rfl rfl) ?_;rintro _ ⟨b4,rfl⟩;refine cL (gF 53 4) ?_;refine au 4 ?_;refine tm (cK aX r2.1) ?_;obtain⟨x5,h6,h⟩:=fB h;refine cL (aMg (enc:=aX) (k:=20) rfl h6) ?_;refine to (bJd (aA rfl) rfl rfl) ?_;refine aM (qQ ?_);obtain⟨s7,h8,h⟩:=fB h;refine oU ?_ bIi;refine bAl (S:=(List aP)×Value) (S0:=(List aP)) (f:=47) (ps:=[22,23]) (λb=>b.1) (λb=>[.box b1 0 (bH a),.box b4 0 [.lit b.2],.arr b.2 53 4 (b.1.map cE)]) (bOq (λj:aB=>.agg (aF j)) (λc:aP=>.agg (cE c)) _) (([]:List aP),(.slice none 0 0)) ([]:List aP) s7 (aW [0,1,2] rfl rfl (le_refl _)) rfl call47 rfl (by decide) rfl rfl (λl J hy m0 h0=>uT (S:=(List aP)) J l _ (λ_ _ _ _ _ hJ hq=>hy _ _ _ _ hJ ⟨_,_,rfl,hq⟩) x5 _ m0 h0 h8) ?_ ?_
  ·rintro⟨e9,e⟩ _ _ ⟨j,c,rfl,h⟩;refine⟨rfl,?_⟩;refine aL ?_;refine aZ rfl (cF (zs:=[.j 0,.j 0,.j 0,.j 0]) (aA rfl) zeroValue53 rfl rfl) ?_;rintro _ ⟨q,rfl⟩;refine to (sst 3 rfl rfl sizeOf53 (cE c)) (au 4 ?_);refine to (sla 3 (cE c) rfl rfl aXd) (to (lL (aA rfl) aMw rfl rfl (rows:=([c]).map cE) rfl (bN (f:=cE) λ_=>rfl) rfl (by decide)) ?_);obtain⟨n,o,h⟩:=bns h;refine aZ rfl (iW (i:=2) (aA rfl) aMw rfl rfl rfl (λ_=>rfl) o rfl) ?_;rintro _ ⟨m,rfl⟩;refine to (sst 1 rfl rfl sizeOf49 [.lit m]) ?_;refine jW ?_;obtain rfl:=sIn h;exact⟨(n,m),rfl,aW [0,1,2] rfl rfl aQu⟩
  ·rintro⟨e9,e⟩ p;subst p;refine au 6 ?_;exact bP ⟨rfl,_,[],[.box b1 0 (bH a),.box b4 0 [.lit e],.arr e 53 4 (e9.map cE)],_,.two (.tmp 4 (v:=.d (.lit e)) rfl) (.tmp 5 (v:=.i 0) rfl),.refl _,zX (.cons (.d (cI 2 rfl (bN (f:=cE) λ_=>rfl))) (.cons (.same _) .nil)),(e9,0),h,rfl,rfl⟩

theorem zC(e:List eJ)(f:eJ->Option Bool){r:Int}(a:Nat)(c:List AV)(j:∀args w,(callFunc a args).run Tryz.prog w=.ok (.enter a args) w)(l:∀(x0:eJ) r,f x0=some r->Fn Tryz.prog a ([.agg (bS x0)]++c) (.b r))(h:mV e f=some r):Fn Tryz.prog 99 [.d (.sl 3 (e.map bS)),.fn a c] (.i r):=by
 unfold mV at h;refine oT [.tmp 4] func99 results99 ntmps99 ?_;refine au 12 ?_;refine eQ (S:=Int) [0,1,7] (λs1=>[(8,.i s1)]) (λs1=>[]) (λk s1=>iF e f (e.length:Int) k s1) (λ_=>rfl) (0) h (aW [] rfl rfl (aQ rfl (bA (ae rfl)))) ?_;rintro k2 g h;simp only[iF] at h;refine au 5 ?_;refine tih h (λc3 h=>?_) (λc3 h=>?_)
 ·refine au 10 ?_;refine tm (.fn a c) (au 2 ?_);obtain⟨x4,h5,h⟩:=bns h;refine to (six rfl rfl bOo.of (dI bS h5)) (to (aLx (bS x4) rfl bOs) ?_);obtain⟨r6,h7,h⟩:=bns h;refine to (fV (aA rfl) (.clo _ _ _ _ j rfl) (sG rfl) rfl (BVs.refl _ _) (l _ _ h7) rfl) ?_;refine aM ?_;refine tih h (λc8 h=>?_) (λc8 h=>?_)
  ·refine aO ?_;cases h
  ·refine gW ?_;refine au 4 ?_;exact⟨(w64 (g+1)),h,aW [] rfl rfl (aQ rfl (bA (ae rfl)))⟩
 ·refine dO ?_;refine .inl ⟨rfl,?_⟩;simp only[pO] at h;refine au 4 ?_;obtain rfl:=sIn h;exact rt

theorem wI(g:List eJ)(i:eJ->Option Bool){r:Bool}(a:Nat)(c:List AV)(e:∀args w,(callFunc a args).run Tryz.prog w=.ok (.enter a args) w)(f:∀(x0:eJ) r,i x0=some r->Fn Tryz.prog a ([.agg (bS x0)]++c) (.b r))(h:lA g i=some r):Fn Tryz.prog 54 [.d (.sl 3 (g.map bS)),.fn a c] (.b r):=by
 unfold lA at h;refine oT [.tmp 4] func54 results54 ntmps54 ?_;refine au 7 ?_;refine tm (.fn a c) ?_;obtain⟨r1,h2,h⟩:=bns h;refine to (scr call99 (zC _ _ a c e f h2)) (au 3 ?_);obtain rfl:=sIn h;exact rt

theorem oR(d:Int)(c:Int)(a:Int){r:Bool}(h:nP d c a=some r):Fn Tryz.prog 101 [.i d,.i c,.i a] (.b r):=by
 unfold nP at h;refine fnx xT {} [.tmp 6] func101 results101 ntmps101 ?_;refine jg h (λx h=>?_) λb1 h=>?_
 ·refine br h (λh=>?_) λh=>?_
  ·exact jt h
  ·exact jt h
 ·cases h;exact⟨rfl,rfl,rfl⟩

theorem aJj(d:cR)(c:Int)(a:Int){r:Bool}(h:zM d c a=some r):Fn Tryz.prog 100 [.agg (cO d),.i c,.i a] (.b r):=by
 unfold zM at h;refine fnx xT {} [.tmp 6] func100 results100 ntmps100 ?_;refine jg h (λx h=>?_) λb2 h=>?_
 ·refine br h (λh=>?_) λh=>?_
  ·refine cl call101 (λ_=>oR _ _ _) h λr4 h=>?_;exact jt h
  ·exact jt h
 ·refine jg h (λx h=>?_) λb6 h=>?_
  ·refine br h (λh=>?_) λh=>?_
   ·refine cl call101 (λ_=>oR _ _ _) h λr8 h=>?_;exact jt h
   ·exact jt h
  ·cases h;exact⟨rfl,rfl,rfl⟩

theorem aTj(a:cR)(c:Int){r:Bool}(h:aDj a c=some r):Fn Tryz.prog 56 [.agg (cO a),.i c] (.b r):=by
 unfold aDj at h;refine fnx xT {} [.tmp 4] func56 results56 ntmps56 ?_;refine cl call100 (λ_=>aJj _ _ _) h λr2 h=>?_;refine jg h (λx h=>?_) λb4 h=>?_
 ·refine br h (λh=>?_) λh=>?_
  ·refine cl call101 (λ_=>oR _ _ _) h λr6 h=>?_;exact jt h
  ·exact jt h
 ·cases h;exact⟨rfl,rfl,rfl⟩

theorem aVz(a:eJ){r:Bool}(h:aFp a=some r):Fn Tryz.prog 55 [.agg (bS a)] (.b r):=by
 unfold aFp at h;refine fnx xT {} [.tmp 2] func55 results55 ntmps55 ?_;refine cl call56 (λ_=>aTj _ _) h λr2 h=>?_;cases h;exact⟨rfl,rfl,rfl⟩

theorem aXj(c:aI)(f:List aC)(a:Int)(b:Int){Q:((Option bC)×aB×Int)->Prop}(h:qZ c f a b Q):bI Tryz.prog 46 [.agg (bH c),.d (Z25 f),.i a,.i b] [] (λr' o'=>∃(r:(Option bC)×aB×Int),Q r/\r'=.tup [cK aX r.1,.agg (aF r.2.1),.i r.2.2]/\o'=[]):=by
 unfold qZ at h;refine cB func46 rfl (rs:=[.tmp 8,.cell 9 111,.tmp 10]) results46 ntmps46 (Nat.le_of_ble_eq_true rfl) ?_;refine aO (aL ?_);refine aZ rfl (eP (v:=.agg (bH c)) (aA rfl) rfl rfl rfl) ?_;rintro _ ⟨b1,rfl⟩;refine ta (cK aX (none:Option bC)) ?_;refine aZ rfl (cF (zs:=[.j 0,.j 0]) (aA rfl) zeroValue111 rfl rfl) ?_;rintro _ ⟨b2,rfl⟩;refine au 4 ?_;refine to (sla 0 (bH c) rfl rfl wM) (tm (.d (Z25 f)) ?_);refine aZ rfl (nT (aA rfl) (.func _ _ call45) rfl rfl (tV _ _ h)) ?_;rintro _ ⟨_,_,⟨r3,h,rfl,rfl⟩,rfl⟩;refine au 3 ?_;refine ta (cK aX r3.1) (au 6 ?_);refine to (eS (aA rfl) aMy (zs:=[.j 0,.j 0]) rfl rfl rfl rfl (es:=[.j a,.j b]) rfl) ?_;refine aZ rfl (cF (zs:=[.j 0,.j 0]) (aA rfl) zeroValue111 rfl rfl) ?_;rintro _ ⟨b4,rfl⟩;refine to (sst 2 rfl rfl sizeOf111 (aF (aB.mk a b))) (au 7 ?_);obtain⟨b5,h6,h⟩:=fB h;refine eD 5 [9,11,12,13] 30 b5 ?_ ?_
 ·refine bch h6 (λe h6=>?_) (λe h6=>?_)
  ·refine tk e (sla 2 (aF (aB.mk a b)) rfl rfl kM) (tk e (sla 0 (bH c) rfl rfl wM) ?_);obtain⟨j,g,h6⟩:=bns h6;refine tk e (scr call87 (zW _ _ g)) (au 2 ?_);obtain rfl:=sIn h6;refine aM (bX rfl (ae rfl) rfl)
  ·refine au 5 ?_;obtain rfl:=sIn h6;refine aM (bX rfl (ae rfl) rfl)
 ·refine aM ?_;refine tip h (λc7 h=>?_) (λc7 h=>?_)
  ·refine au 4 ?_;refine kX mix 5 [9] (λX8=>[(8,cK aX r3.1),(33,.i 1)]) (λX8=>[.box b1 0 (bH c),.box b2 0 (aF (aB.mk a b)),.box b4 0 (aF (aB.mk a b))]) ?_ ?_
   ·refine⟨0,λX8=>[(31,0,cK aX r3.1),(32,1,.agg (aF (aB.mk a b))),(33,2,.i 1),(8,3,cK aX r3.1)],λX8=>[([],.box b1 0 (bH c)),([(4,.box b2 0 (aF (aB.mk a b)))],.box b2 0 (aF (aB.mk 0 0))),([],.box b4 0 (aF (aB.mk a b)))],?_,?_⟩
    · exact xok [(0,5),(0,5),(0,0),(1,5),(2,0)] ⟨λ_ _ w _ k=>xp w (ym k (cK aX r3.1)),
 λ_ _ w _ k=>xp w (yla k 2 (aF (aB.mk a b)) rfl (og k rfl rfl) kM),
 λ_ _ w _ k=>xp w (ym k (.i 1)),
 λ_ _ w _ k=>xp w (ya k (cK aX r3.1)),
 fun _ _ _ _ k=>xs 1 k rfl rfl (cV (i:=1) (aK k rfl) (og k rfl rfl) (aK k rfl) rfl rfl sizeOf111 rfl (aA rfl) (Nat.le_of_ble_eq_true rfl) (ds':=(aF (aB.mk a b))) rfl),trivial⟩
    · exactλX8=>cP (aQ rfl (aQ rfl (bA (ae rfl))))
   ·intro X8;refine au 2 ?_;exact bP ⟨rfl,_,[],[.box b1 0 (bH c),.box b2 0 (aF (aB.mk a b)),.box b4 0 (aF (aB.mk a b))],_,.three (.tmp 8 (v:=cK aX r3.1) rfl) (.cell 9 111 rfl (i:=1) rfl kM (es:=(aF (aB.mk a b))) rfl rfl) (.tmp 10 (v:=.i 1) rfl),.refl _,.same _,(r3.1,(aB.mk a b),1),h,rfl,rfl⟩
  ·refine lS (aO ?_);refine kX mix 5 [9] (λX9=>[(8,cK aX r3.1),(33,.i r3.2)]) (λX9=>[.box b1 0 (bH c),.box b2 0 (aF (aB.mk a b)),.box b4 0 (aF (aB.mk a b))]) ?_ ?_
   ·refine⟨0,λX9=>[(31,0,cK aX r3.1),(32,1,.agg (aF (aB.mk a b))),(33,2,.i r3.2),(8,3,cK aX r3.1)],λX9=>[([],.box b1 0 (bH c)),([(4,.box b2 0 (aF (aB.mk a b)))],.box b2 0 (aF (aB.mk 0 0))),([],.box b4 0 (aF (aB.mk a b)))],?_,?_⟩
    · exact xok [(0,5),(0,5),(0,0),(1,5),(2,0)] ⟨λ_ _ w _ k=>xp w (ym k (cK aX r3.1)),
 λ_ _ w _ k=>xp w (yla k 2 (aF (aB.mk a b)) rfl (og k rfl rfl) kM),
 λ_ _ w _ k=>xp w (ym k (.i r3.2)),
 λ_ _ w _ k=>xp w (ya k (cK aX r3.1)),
 fun _ _ _ _ k=>xs 1 k rfl rfl (cV (i:=1) (aK k rfl) (og k rfl rfl) (aK k rfl) rfl rfl sizeOf111 rfl (aA rfl) (Nat.le_of_ble_eq_true rfl) (ds':=(aF (aB.mk a b))) rfl),trivial⟩
    · exactλX9=>cP (aQ rfl (aQ rfl (bA (ae rfl))))
   ·intro X9;refine au 2 ?_;exact bP ⟨rfl,_,[],[.box b1 0 (bH c),.box b2 0 (aF (aB.mk a b)),.box b4 0 (aF (aB.mk a b))],_,.three (.tmp 8 (v:=cK aX r3.1) rfl) (.cell 9 111 rfl (i:=1) rfl kM (es:=(aF (aB.mk a b))) rfl rfl) (.tmp 10 (v:=.i r3.2) rfl),.refl _,.same _,(r3.1,(aB.mk a b),r3.2),h,rfl,rfl⟩

theorem aOa(c:aI)(g:List aC)(e:Int)(f:Int){Q:(Int×Int)->Prop}(h:pZ c g e f Q):bI Tryz.prog 16 [.agg (bH c),.d (Z25 g),.i e,.i f] [] (λr' o'=>∃(r:Int×Int),Q r/\r'=.tup [.i r.1,.i r.2]/\o'=[]):=by
 unfold pZ at h;refine cB func16 rfl (rs:=[.tmp 8,.tmp 9]) results16 ntmps16 (Nat.le_of_ble_eq_true rfl) ?_;refine aO (aL ?_);refine aZ rfl (eP (v:=.agg (bH c)) (aA rfl) rfl rfl rfl) ?_;rintro _ ⟨b1,rfl⟩;refine au 5 ?_;refine to (sla 0 (bH c) rfl rfl wM) (au 3 ?_);refine aZ rfl (nT (aA rfl) (.func _ _ call46) rfl rfl (aXj _ _ _ _ h)) ?_;rintro _ ⟨_,_,⟨r2,h,rfl,rfl⟩,rfl⟩;refine au 4 ?_;refine aZ rfl (cF (zs:=[.j 0,.j 0]) (aA rfl) zeroValue111 rfl rfl) ?_;rintro _ ⟨b3,rfl⟩;refine ta (cK aX r2.1) (to (sst 1 rfl rfl sizeOf111 (aF r2.2.1)) (au 8 ?_));refine tip h (λc4 h=>?_) (λc4 h=>?_)
 ·refine au 6 ?_;exact bP ⟨rfl,_,[],[.box b1 0 (bH c),.box b3 0 (aF r2.2.1)],_,.two (.tmp 8 (v:=.i 0) rfl) (.tmp 9 (v:=.i r2.2.2) rfl),.refl _,.same _,(0,r2.2.2),h,rfl,rfl⟩
 ·refine lS (aO ?_);obtain⟨x5,h6,h⟩:=fB h;refine dX mix 10 [] [(13,.i (aR r2.2.1 0 x5.won)),(35,.b (cN r2.2.1 x5.won))] ?_ ?_
  ·refine⟨[(28,0,cK aX r2.1),(29,1,.cp [.j x5.Tree.Rounds,.sl 1 (x5.Tree.Slots.map aE),.sl 1 (x5.players.map aE),.mp false (x5.won.map λp:aB×Int=>((λa:aB=>Value.agg ((aF a).map bD).toArray) p.1,aE p.2))]),(30,2,.cp [.mp false (x5.won.map λp:aB×Int=>((λa:aB=>Value.agg ((aF a).map bD).toArray) p.1,aE p.2))]),(31,3,.d (.mp false (x5.won.map λp:aB×Int=>((λa:aB=>Value.agg ((aF a).map bD).toArray) p.1,aE p.2)))),(32,4,.agg (aF r2.2.1)),(33,5,.tup [.i (aR r2.2.1 0 x5.won),.b (cN r2.2.1 x5.won)]),(27,6,.tup [.i (aR r2.2.1 0 x5.won),.b (cN r2.2.1 x5.won)]),(34,7,.i (aR r2.2.1 0 x5.won)),(35,8,.b (cN r2.2.1 x5.won)),(13,9,.i (aR r2.2.1 0 x5.won))],?_,?_⟩
   · exact dk [0,1,2,3,0,405,6,7,7,8] ⟨go (zm (cK aX r2.1)),
 go λS hS=>aNv (enc:=aX) (aA rfl) (aK hS rfl) h6,
 go (zfc [.mp false (x5.won.map λp:aB×Int=>((λa:aB=>Value.agg ((aF a).map bD).toArray) p.1,aE p.2))] rfl aAe),
 go (zlc rfl aGl),
 go (zla 1 (aF r2.2.1) rfl rfl kM),
 go λS hS=>vE (enc:=aE) (agg:=false) (l:=x5.won) (z:=0) (a:=r2.2.1) (aA rfl) yQ underlying114 zeroValue3 (λ_ _=>.d (.lit _ rfl)) (aK hS rfl) rfl rfl (aK hS rfl) (nM (enc:=aF) r2.2.1 rfl),
 go (zm (.tup [.i (aR r2.2.1 0 x5.won),.b (cN r2.2.1 x5.won)])),
 go (zex rfl rfl),
 go (zex rfl rfl),
 go (za (.i (aR r2.2.1 0 x5.won))),trivial⟩
   · exact cP (aQ rfl (aQ rfl (bA trivial)))
  ·refine au 8 ?_;refine tip h (λc7 h=>?_) (λc7 h=>?_)
   ·refine au 5 ?_;exact bP ⟨rfl,_,[],[.box b1 0 (bH c),.box b3 0 (aF r2.2.1)],_,.two (.tmp 8 (v:=.i 0) rfl) (.tmp 9 (v:=.i 3) rfl),.refl _,.same _,(0,3),h,rfl,rfl⟩
   ·refine au 7 ?_;exact bP ⟨rfl,_,[],[.box b1 0 (bH c),.box b3 0 (aF r2.2.1)],_,.two (.tmp 8 (v:=.i (aR r2.2.1 0 x5.won)) rfl) (.tmp 9 (v:=.i 0) rfl),.refl _,.same _,(aR r2.2.1 0 x5.won,0),h,rfl,rfl⟩

theorem aPr(a0:aI)(a1:List aC){r:(List aP)×Int}(h:wR a0 a1=some r):Fn Tryz.prog 53 [.agg (bH a0),.d (Z25 a1)] ((λx:(List aP)×Int=>.tup [.d (.sl 4 (x.1.map cE)),.i x.2]) r):=aHr (enc:=λx:(List aP)×Int=>.tup [.d (.sl 4 (x.1.map cE)),.i x.2]) (aPq a0 a1 (aNe a0 a1 h (λx=>x=r) rfl))

theorem aOb(a0:aI)(a1:List aC)(a2:Int)(a3:Int){r:Int×Int}(h:vI a0 a1 a2 a3=some r):Fn Tryz.prog 16 [.agg (bH a0),.d (Z25 a1),.i a2,.i a3] ((λx:Int×Int=>.tup [.i x.1,.i x.2]) r):=aHr (enc:=λx:Int×Int=>.tup [.i x.1,.i x.2]) (aOa a0 a1 a2 a3 (aKd a0 a1 a2 a3 h (λx=>x=r) rfl))

theorem bBg(g:aI)(j:List aC)(e:List eJ){r:(List eU)×(List aP)×Int}(h:aLj g j e=some r):Fn Tryz.prog 22 [.agg (bH g),.d (Z25 j),.d (.sl 3 (e.map bS))] (.tup [.d (.sl 6 (r.1.map aKj)),.d (.sl 4 (r.2.1.map cE)),.i r.2.2]):=by
 unfold aLj at h;refine fnx xT {ow:=[11,12,30017,30068,300017,300068],lr:=[(20,[17,3068])]} [.tmp 6,.tmp 7,.tmp 8] func22 results22 ntmps22 ?_;refine cd call53 (λ_=>aPr _ _) h λr2 h=>?_;refine br h (λh=>?_) λh=>?_
 ·cases h
 ·refine ol ?_;refine jg h (λx h=>?_) λb4 h=>?_
  ·refine br h (λh=>?_) λh=>?_
   ·exact jt h
   ·refine cl call54 (λ_=>wI _ _ 55 [] call55 (λ_ _ h=>aVz _ h)) h λr7 h=>?_;exact jt h
  ·refine br h (λh=>?_) λh=>?_
   ·cases h
   ·refine ol ?_;refine xlp [1,2,3,38,39] [3] (λ((b,c,a):Int×(List eU)×(List aP))=>([(11,.d (.hv 0 11 0)),(12,.d (.hv 0 12 0)),(40,.i b)],[(11,.arr 141 6 (c.map aKj)),(12,.arr 53 4 (a.map cE))])) (λk ((b,c,a):Int×(List eU)×(List aP))=>qG j e r2.1 (r2.1.length:Int) g k b c a) (0,([]:List eU),([]:List aP)) h (lev []) ?_;rintro l ⟨b,c,a⟩ h;simp only[qG] at h;refine br h (λh=>?_) λh=>?_
    ·refine oi h λm h=>?_;refine cl call16 (λ_=>aOb _ _ _ _) h λs h=>?_;refine br h (λh=>?_) λh=>?_
     ·simp only[xI] at h;exact⟨(w64 (b+1),c,a),h,lev []⟩
     ·refine⟨by kernel_rfl,?_⟩;refine oi h λn h=>?_;refine oi h λo h=>?_;refine⟨by kernel_rfl,?_⟩;refine ol ?_;refine xlp [1,2,3,11,12,14,17,38,39,40,69,70] [3,11,12,14,3068,17] (λ(f:Int)=>([(71,.i f)],[])) (λk (f:Int)=>aDi (qG j e r2.1 (r2.1.length:Int) g l) j e r2.1 (r2.1.length:Int) b (a.length:Int) g c a m ([]:List Int) n.Length ([]:List Int) o.Due 0 k f) (0) h (lev []) ?_;rintro t f h;simp only[aDi] at h;refine br h (λh=>?_) λh=>?_
      ·cases h
      ·simp only[aLl] at h;refine⟨by kernel_rfl,?_⟩;refine oap h λp h=>?_;refine oap h λq h=>?_;refine⟨by kernel_rfl,?_⟩;simp only[xI] at h;exact⟨(w64 (b+1),p,q),h,lev [(11,100),(12,104)]⟩
    ·simp only[aLk] at h;refine ol ?_;refine br h (λh=>?_) λh=>?_
     ·cases h
     ·cases h;exact⟨rfl,_,_,_,rfl,rfl,rfl,rfl,rfl,rfl⟩

theorem fO(d:Int)(c:Int)(a:Int){r:Bool}(h:fN d c a=some r):Fn Tryz.prog 91 [.i d,.i c,.i a] (.b r):=by
 unfold fN at h;refine fnx xT {} [.tmp 6] func91 results91 ntmps91 ?_;refine jg h (λx h=>?_) λb1 h=>?_
 ·refine br h (λh=>?_) λh=>?_
  ·exact jt h
  ·exact jt h
 ·cases h;exact⟨rfl,rfl,rfl⟩

theorem aQg(a:fW){r:Bool}(h:aBb a=some r):Fn Tryz.prog 108 [.agg (dM a)] (.b r):=by
 unfold aBb at h;refine fnx xT {} [.tmp 2] func108 results108 ntmps108 ?_;refine cl call91 (λ_=>fO _ _ _) h λr2 h=>?_;refine jg h (λx h=>?_) λb4 h=>?_
 ·refine br h (λh=>?_) λh=>?_
  ·refine cl call91 (λ_=>fO _ _ _) h λr6 h=>?_;exact jt h
  ·exact jt h
 ·refine jg h (λx h=>?_) λb8 h=>?_
  ·refine br h (λh=>?_) λh=>?_
   ·refine cl call91 (λ_=>fO _ _ _) h λc h=>?_;exact jt h
   ·exact jt h
  ·refine jg h (λx h=>?_) λd h=>?_
   ·refine br h (λh=>?_) λh=>?_
    ·refine cl call91 (λ_=>fO _ _ _) h λe h=>?_;exact jt h
    ·exact jt h
   ·refine jg h (λx h=>?_) λf h=>?_
    ·refine br h (λh=>?_) λh=>?_
     ·refine cl call91 (λ_=>fO _ _ _) h λg h=>?_;exact jt h
     ·exact jt h
    ·cases h;exact⟨rfl,rfl,rfl⟩

theorem aOh(a:aT){r:Bool}(h:yN a=some r):Fn Tryz.prog 109 [.agg (aH a)] (.b r):=by
 unfold yN at h;refine fnx xT {} [.tmp 2] func109 results109 ntmps109 ?_;refine br h (λh=>?_) λh=>?_
 ·refine cl call91 (λ_=>fO _ _ _) h λr2 h=>?_;refine jg h (λx h=>?_) λb4 h=>?_
  ·refine br h (λh=>?_) λh=>?_
   ·refine cl call91 (λ_=>fO _ _ _) h λr6 h=>?_;exact jt h
   ·exact jt h
  ·refine jg h (λx h=>?_) λb8 h=>?_
   ·refine br h (λh=>?_) λh=>?_
    ·refine cl call91 (λ_=>fO _ _ _) h λc h=>?_;exact jt h
    ·exact jt h
   ·refine jg h (λx h=>?_) λd h=>?_
    ·refine br h (λh=>?_) λh=>?_
     ·refine cl call91 (λ_=>fO _ _ _) h λe h=>?_;exact jt h
     ·exact jt h
    ·cases h;exact⟨rfl,rfl,rfl⟩
 ·cases h

theorem aAz(o:fW)(q:List aT){r:Int}(h:uX o q=some r):Fn Tryz.prog 62 [.agg (dM o),.d (.sl 5 (q.map aH))] (.i r):=by
 unfold uX at h;refine oT [.tmp 4] func62 results62 ntmps62 ?_;refine aO (aL ?_);refine aZ rfl (eP (v:=.agg (dM o)) (aA rfl) rfl rfl rfl) ?_;rintro _ ⟨b1,rfl⟩;refine au 5 ?_;refine to (sla 0 (dM o) rfl rfl aGa) ?_;obtain⟨r2,h3,h⟩:=bns h;refine to (scr call108 (aQg _ h3)) (to (sn rfl) (aM ?_));refine tih h (λc4 h=>?_) (λc4 h=>?_)
 ·refine aO ?_;cases h
 ·refine au 8 ?_;refine tih h (λc5 h=>?_) (λc5 h=>?_)
  ·refine aO ?_;cases h
  ·refine au 3 ?_;refine aZ rfl (tQ (aA rfl)) ?_;rintro _ ⟨r6,rfl⟩;refine au 10 ?_;refine eQ (S:=Int×(List (Int×aT))×(List Nat)×Nat) [5,17,18] (λs7=>[(19,.i s7.1)]) (λs7=>[.map r6 (s7.2.1.map λp:Int×aT=>(VI p.1,(λv:aT=>AV.agg (aH v)) p.2)) s7.2.2.1 s7.2.2.2]) (λk s7=>tW q (q.length:Int) k s7.1 s7.2.1) (λ_=>rfl) (0,([]:List (Int×aT)),[],0) h (aW [1] rfl rfl (aQ rfl (bA (ae rfl)))) ?_;rintro F ⟨s,c,x,u⟩ h;simp only[tW] at h;refine au 5 ?_;refine tih h (λy h=>?_) (λy h=>?_)
   ·refine au 5 ?_;obtain⟨e,A,h⟩:=bns h;refine to (six rfl rfl zR.of (dI aH A)) (to (aLx (aH e) rfl sB) ?_);refine aZ rfl (cF (zs:=[.j 0,.j 0,.j 0,.j 0,.j 0]) (aA rfl) zeroValue145 rfl rfl) ?_;rintro _ ⟨G,rfl⟩;refine to (sst 1 rfl rfl sizeOf145 (aH e)) (au 7 ?_);refine to (aIr (av:=(λv:aT=>AV.agg (aH v))) (l:=c) (z:=(aT.mk 0 0 0 0 0)) (a:=e.Id) (m:=0) (aA rfl) sP underlying201 zeroValue145 (λ_ _=>.agg (mA rfl)) rfl rfl rfl rfl (cC (kv:=VI) e.Id)) ?_;refine au 3 ?_;refine aZ rfl (cF (zs:=[.j 0,.j 0,.j 0,.j 0,.j 0]) (aA rfl) zeroValue145 rfl rfl) ?_;rintro _ ⟨H,rfl⟩;refine to (sst 2 rfl rfl sizeOf145 (aH (aR e.Id (aT.mk 0 0 0 0 0) c))) (au 4 ?_);refine to (sla 1 (aH e) rfl rfl sB) ?_;obtain⟨I,B,h⟩:=bns h;refine to (scr call109 (aOh _ B)) (au 2 ?_);obtain⟨C,f,h⟩:=bns h;refine eD 7 [5,7,17,18,19] 40 C ?_ ?_
    ·refine bch f (λt f=>?_) (λt f=>?_)
     ·refine au 7 ?_;obtain rfl:=sIn f;refine aM (bX rfl (ae rfl) rfl)
     ·refine au 2 ?_;obtain⟨w,g,f⟩:=bns f;refine eD 4 [5,7,17,18,19,33,34,35] 39 w ?_ ?_
      ·refine bch g (λj g=>?_) (λj g=>?_)
       ·refine tk j (sla 2 (aH (aR e.Id (aT.mk 0 0 0 0 0) c)) rfl rfl sB) (tk j (sla 1 (aH e) rfl rfl sB) (tk j (aWn (a:=(aR e.Id (aT.mk 0 0 0 0 0) c)) (b:=e) (aA rfl) rfl rfl rfl rfl Tryz.eqGuardType145 bPf) ?_));refine tk t (spt (.b (!decide ((aR e.Id (aT.mk 0 0 0 0 0) c)=e))) j) ?_;obtain rfl:=sIn g;refine aM (bX rfl (ae rfl) rfl)
       ·refine au 4 ?_;obtain rfl:=sIn g;refine aM (bX rfl (ae rfl) rfl)
      ·refine to (spf (.b w) t) ?_;obtain rfl:=sIn f;refine aM (bX rfl (ae rfl) rfl)
    ·refine aM ?_;refine tih h (λE h=>?_) (λE h=>?_)
     ·refine aO ?_;cases h
     ·refine au 5 ?_;refine to (sla 1 (aH e) rfl rfl sB) (to (pN (av:=(λv:aT=>AV.agg (aH v))) (l:=c) (v:=e) (a:=e.Id) (m:=0) sP underlying201 rfl rfl rfl rfl (cC (kv:=VI) e.Id) rfl rfl) ?_);refine jW ?_;refine au 4 ?_;exact⟨(w64 (s+1),(dL e.Id e c),(mbs e.Id c x u),(mck e.Id c u)),h,aW [0] rfl rfl (aQ rfl (bA (ae rfl)))⟩
   ·refine dO ?_;refine .inl ⟨rfl,?_⟩;simp only[aGe] at h;refine au 4 ?_;obtain rfl:=sIn h;refine dA (jM (kA (l:=[4]) (ae rfl))) ?_;exact rt

theorem aAv(e:List cR)(f:cR->Option Bool){r:Int}(a:Nat)(c:List AV)(j:∀args w,(callFunc a args).run Tryz.prog w=.ok (.enter a args) w)(l:∀(x0:cR) r,f x0=some r->Fn Tryz.prog a ([.agg (cO x0)]++c) (.b r))(h:nK e f=some r):Fn Tryz.prog 198 [.d (.sl 2 (e.map cO)),.fn a c] (.i r):=by
 unfold nK at h;refine oT [.tmp 4] func198 results198 ntmps198 ?_;refine au 12 ?_;refine eQ (S:=Int) [0,1,7] (λs1=>[(8,.i s1)]) (λs1=>[]) (λk s1=>iR e f (e.length:Int) k s1) (λ_=>rfl) (0) h (aW [] rfl rfl (aQ rfl (bA (ae rfl)))) ?_;rintro k2 g h;simp only[iR] at h;refine au 5 ?_;refine tih h (λc3 h=>?_) (λc3 h=>?_)
 ·refine au 10 ?_;refine tm (.fn a c) (au 2 ?_);obtain⟨x4,h5,h⟩:=bns h;refine to (six rfl rfl aSc.of (dI cO h5)) (to (aLx (cO x4) rfl bRa) ?_);obtain⟨r6,h7,h⟩:=bns h;refine to (fV (aA rfl) (.clo _ _ _ _ j rfl) (sG rfl) rfl (BVs.refl _ _) (l _ _ h7) rfl) ?_;refine aM ?_;refine tih h (λc8 h=>?_) (λc8 h=>?_)
  ·refine aO ?_;cases h
  ·refine gW ?_;refine au 4 ?_;exact⟨(w64 (g+1)),h,aW [] rfl rfl (aQ rfl (bA (ae rfl)))⟩
 ·refine dO ?_;refine .inl ⟨rfl,?_⟩;simp only[qP] at h;refine au 4 ?_;obtain rfl:=sIn h;exact rt

theorem xQ(g:List cR)(i:cR->Option Bool){r:Bool}(a:Nat)(c:List AV)(e:∀args w,(callFunc a args).run Tryz.prog w=.ok (.enter a args) w)(f:∀(x0:cR) r,i x0=some r->Fn Tryz.prog a ([.agg (cO x0)]++c) (.b r))(h:lN g i=some r):Fn Tryz.prog 104 [.d (.sl 2 (g.map cO)),.fn a c] (.b r):=by
 unfold lN at h;refine oT [.tmp 4] func104 results104 ntmps104 ?_;refine au 7 ?_;refine tm (.fn a c) ?_;obtain⟨r1,h2,h⟩:=bns h;refine to (scr call198 (aAv _ _ a c e f h2)) (au 3 ?_);obtain rfl:=sIn h;exact rt

theorem aTi(a:cR){r:Bool}(h:aDg a=some r):Fn Tryz.prog 105 [.agg (cO a)] (.b r):=by
 unfold aDg at h;refine fnx xT {} [.tmp 2] func105 results105 ntmps105 ?_;refine cl call100 (λ_=>aJj _ _ _) h λr2 h=>?_;cases h;exact⟨rfl,rfl,rfl⟩

theorem aDh(c:mZ){r:Int}(h:xH c=some r):Fn Tryz.prog 58 [.agg (aVw c)] (.i r):=by
 unfold xH at h;refine fnx xT {} [.tmp 2] func58 results58 ntmps58 ?_;refine ol ?_;refine cl call101 (λ_=>oR _ _ _) h λr2 h=>?_;refine jg h (λx h=>?_) λb4 h=>?_
 ·refine br h (λh=>?_) λh=>?_
  ·exact jt h
  ·refine cl call101 (λ_=>oR _ _ _) h λr6 h=>?_;exact jt h
 ·refine jg h (λx h=>?_) λb8 h=>?_
  ·refine br h (λh=>?_) λh=>?_
   ·exact jt h
   ·refine ol ?_;exact jt h
  ·refine br h (λh=>?_) λh=>?_
   ·cases h
   ·refine ol ?_;refine xlp [1,25,26] [1] (λ(a:Int)=>([(27,.i a)],[])) (λk (a:Int)=>vD c.Days (c.Days.length:Int) c k a) (0) h (lev []) ?_;rintro d a h;simp only[vD] at h;refine br h (λh=>?_) λh=>?_
    ·refine oi h λe h=>?_;refine ol ?_;refine cl call101 (λ_=>oR _ _ _) h λf h=>?_;refine jg h (λx h=>?_) λg h=>?_
     ·refine br h (λh=>?_) λh=>?_
      ·exact jt h
      ·refine ol ?_;refine oi h λj h=>?_;refine ol ?_;exact jt h
     ·refine br h (λh=>?_) λh=>?_
      ·cases h
      ·refine cl call104 (λ_=>xQ _ _ 105 [] call105 (λ_ _ h=>aTi _ h)) h λl h=>?_;refine br h (λh=>?_) λh=>?_
       ·cases h
       ·exact⟨(w64 (a+1)),h,lev []⟩
    ·simp only[aJh] at h;refine ol ?_;refine xlp [1,49,50] [1] (λ(b:Int)=>([(51,.i b)],[])) (λk (b:Int)=>aBe c.Jobs (c.Jobs.length:Int) c k b) (0) h (lev []) ?_;rintro m b h;simp only[aBe] at h;refine br h (λh=>?_) λh=>?_
     ·cases h
     ·simp only[aJi] at h;cases h;exact⟨rfl,rfl,rfl⟩

theorem aPs(a:aI)(b:List aC){Q:Int->Prop}(h:rT a b Q):bI Tryz.prog 15 [.agg (bH a),.d (Z25 b)] [] (λr' o'=>∃(r:Int),Q r/\r'=.i r/\o'=[]):=by
 unfold rT at h;refine cB func15 rfl (rs:=[.tmp 4]) results15 ntmps15 (Nat.le_of_ble_eq_true rfl) ?_;refine aO (aL ?_);refine aZ rfl (eP (v:=.agg (bH a)) (aA rfl) rfl rfl rfl) ?_;rintro _ ⟨b1,rfl⟩;refine au 4 ?_;refine to (sla 0 (bH a) rfl rfl wM) (tm (.d (Z25 b)) ?_);refine aZ rfl (nT (aA rfl) (.func _ _ call45) rfl rfl (tV _ _ h)) ?_;rintro _ ⟨_,_,⟨r2,h,rfl,rfl⟩,rfl⟩;refine au 3 ?_;refine ta (cK aX r2.1) (au 7 ?_);exact bP ⟨rfl,_,[],[.box b1 0 (bH a)],_,.one (.tmp 4 (v:=.i r2.2) rfl),.refl _,.same _,r2.2,h,rfl,rfl⟩

theorem nU(d:Int)(c:Int)(a:Int){r:Bool}(h:mH d c a=some r):Fn Tryz.prog 111 [.i d,.i c,.i a] (.b r):=by
 unfold mH at h;refine fnx xT {} [.tmp 6] func111 results111 ntmps111 ?_;refine jg h (λx h=>?_) λb1 h=>?_
 ·refine br h (λh=>?_) λh=>?_
  ·exact jt h
  ·exact jt h
 ·cases h;exact⟨rfl,rfl,rfl⟩

theorem aEw(a:Int)(c:kT){r:Bool}(h:vF a c=some r):Fn Tryz.prog 110 [.i a,.cp (jE c)] (.b r):=by
 unfold vF at h;refine fnx xT {} [.tmp 3] func110 results110 ntmps110 ?_;refine jg h (λx h=>?_) λb1 h=>?_
 ·refine br h (λh=>?_) λh=>?_
  ·exact jt h
  ·exact jt h
 ·refine jg h (λx h=>?_) λb3 h=>?_
  ·refine br h (λh=>?_) λh=>?_
   ·exact jt h
   ·exact jt h
  ·refine jg h (λx h=>?_) λb5 h=>?_
   ·refine br h (λh=>?_) λh=>?_
    ·exact jt h
    ·exact jt h
   ·cases h;exact⟨rfl,rfl,rfl⟩

theorem aJl(a:kT){r:Int}(h:zO a=some r):Fn Tryz.prog 63 [.agg (jE a)] (.i r):=by
 unfold zO at h;refine fnx xT {} [.tmp 2] func63 results63 ntmps63 ?_;refine cl call111 (λ_=>nU _ _ _) h λr2 h=>?_;refine jg h (λx h=>?_) λb4 h=>?_
 ·refine br h (λh=>?_) λh=>?_
  ·refine cl call111 (λ_=>nU _ _ _) h λr6 h=>?_;exact jt h
  ·exact jt h
 ·refine jg h (λx h=>?_) λb8 h=>?_
  ·refine br h (λh=>?_) λh=>?_
   ·refine cl call110 (λ_=>aEw _ _) h λb h=>?_;exact jt h
   ·exact jt h
  ·refine jg h (λx h=>?_) λc h=>?_
   ·refine br h (λh=>?_) λh=>?_
    ·refine cl call110 (λ_=>aEw _ _) h λd h=>?_;exact jt h
    ·exact jt h
   ·refine jg h (λx h=>?_) λe h=>?_
    ·refine br h (λh=>?_) λh=>?_
     ·refine cl call111 (λ_=>nU _ _ _) h λf h=>?_;exact jt h
     ·exact jt h
    ·refine jg h (λx h=>?_) λg h=>?_
     ·refine br h (λh=>?_) λh=>?_
      ·refine cl call111 (λ_=>nU _ _ _) h λj h=>?_;exact jt h
      ·exact jt h
     ·refine jg h (λx h=>?_) λk h=>?_
      ·refine br h (λh=>?_) λh=>?_
       ·refine cl call111 (λ_=>nU _ _ _) h λl h=>?_;exact jt h
       ·exact jt h
      ·refine jg h (λx h=>?_) λm h=>?_
       ·refine br h (λh=>?_) λh=>?_
        ·refine cl call111 (λ_=>nU _ _ _) h λn h=>?_;exact jt h
        ·exact jt h
       ·refine br h (λh=>?_) λh=>?_
        ·cases h;exact⟨rfl,rfl,rfl⟩
        ·cases h

theorem aPt(a0:aI)(a1:List aC){r:Int}(h:wS a0 a1=some r):Fn Tryz.prog 15 [.agg (bH a0),.d (Z25 a1)] ((λx:Int=>.i x) r):=aHr (enc:=λx:Int=>.i x) (aPs a0 a1 (aNf a0 a1 h (λx=>x=r) rfl))

theorem aRp(a:oN){r:Int}(h:aBf a=some r):Fn Tryz.prog 33 [.agg (gY a)] (.i r):=by
 unfold aBf at h;refine fnx xT {} [.tmp 2] func33 results33 ntmps33 ?_;refine cd call22 (λ_=>bBg _ _ _) h λr2 h=>?_;refine cl call62 (λ_=>aAz _ _) h λr4 h=>?_;refine br h (λh=>?_) λh=>?_
 ·refine br h (λh=>?_) λh=>?_
  ·cases h
  ·refine cl call58 (λ_=>aDh _) h λr6 h=>?_;refine br h (λh=>?_) λh=>?_
   ·refine br h (λh=>?_) λh=>?_
    ·cases h
    ·cases h;exact⟨rfl,rfl,rfl⟩
   ·refine jg h (λx h=>?_) λb8 h=>?_
    ·refine br h (λh=>?_) λh=>?_
     ·exact jt h
     ·exact jt h
    ·refine br h (λh=>?_) λh=>?_
     ·cases h
     ·cases h;exact⟨rfl,rfl,rfl⟩
 ·refine cl call15 (λ_=>aPt _ _) h λb h=>?_;refine br h (λh=>?_) λh=>?_
  ·refine br h (λh=>?_) λh=>?_
   ·cases h
   ·refine cl call58 (λ_=>aDh _) h λc h=>?_;refine br h (λh=>?_) λh=>?_
    ·refine br h (λh=>?_) λh=>?_
     ·cases h
     ·cases h;exact⟨rfl,rfl,rfl⟩
    ·refine jg h (λx h=>?_) λd h=>?_
     ·refine br h (λh=>?_) λh=>?_
      ·exact jt h
      ·exact jt h
     ·refine br h (λh=>?_) λh=>?_
      ·cases h
      ·cases h;exact⟨rfl,rfl,rfl⟩
  ·refine cl call63 (λ_=>aJl _) h λe h=>?_;refine br h (λh=>?_) λh=>?_
   ·cases h
   ·refine cl call58 (λ_=>aDh _) h λf h=>?_;refine br h (λh=>?_) λh=>?_
    ·refine br h (λh=>?_) λh=>?_
     ·cases h
     ·cases h;exact⟨rfl,rfl,rfl⟩
    ·refine jg h (λx h=>?_) λg h=>?_
     ·refine br h (λh=>?_) λh=>?_
      ·exact jt h
      ·exact jt h
     ·refine br h (λh=>?_) λh=>?_
      ·cases h
      ·cases h;exact⟨rfl,rfl,rfl⟩

theorem aDo(b:Str)(e:Int){r:Str}(h:nS b e=some r):Fn Tryz.prog 74 [.d (.lit (.string ⟨b.toArray⟩)),.i e] (.d (.lit (.string ⟨r.toArray⟩))):=by
 unfold nS at h;refine oT [.tmp 4] func74 results74 ntmps74 ?_;refine au 7 ?_;refine to (aEv (aA rfl) rfl rfl (by decide)) ?_;refine to (sar rfl rfl rfl) (to (aGr (aA rfl) rfl runUnderlying3 runUnderlying21) ?_);refine to (bPz (aA rfl) rfl underlying21 underlying9) ?_;refine tm (.d (.lit (.string ⟨b.toArray⟩))) ?_;obtain⟨x1,h2,h⟩:=bns h;refine to (aRw (aA rfl) rfl rfl h2) ?_;refine au 10 ?_;obtain⟨x3,h4,h⟩:=bns h;refine to (bCu (aA rfl) rfl underlying9 underlying159 underlying5 h4) ?_;refine au 4 ?_;refine eQ (S:=Int×Int) [5,17,18] (λs5=>[(6,.i s5.1),(19,.i s5.2)]) (λs5=>[]) (λk s5=>gQ x1 x3 (x3.length:Int) k s5.1 s5.2) (λ_=>rfl) (0,0) h (aW [] rfl rfl (aQ rfl (aQ rfl (bA (ae rfl))))) ?_;rintro k6 ⟨a,c⟩ h;simp only[gQ] at h;refine au 5 ?_;refine tih h (λc7 h=>?_) (λc7 h=>?_)
 ·refine au 5 ?_;obtain⟨x8,h9,h⟩:=bns h;refine to (six rfl rfl aRy.of (dI pB h9)) (au 6 ?_);refine to (aGr (aA rfl) rfl runUnderlying5 runUnderlying3) ?_;refine au 2 ?_;refine jW ?_;refine au 4 ?_;exact⟨(w64 (a+(w64 x8)),w64 (c+1)),h,aW [] rfl rfl (aQ rfl (aQ rfl (bA (ae rfl))))⟩
 ·refine dO ?_;refine .inl ⟨rfl,?_⟩;simp only[pT] at h;refine au 3 ?_;refine to (aEv (aA rfl) rfl rfl (by decide)) ?_;refine au 5 ?_;obtain⟨l,g,h⟩:=bns h;refine to (aRw (aA rfl) rfl rfl g) ?_;refine tm (.i (a.tmod 97)) (to (bOi (aA rfl) rfl rfl (by decide)) ?_);refine to (aGr (aA rfl) rfl runUnderlying3 runUnderlying5) ?_;refine au 2 ?_;refine to (aEv (aA rfl) rfl rfl (by decide)) ?_;refine to (aGr (aA rfl) rfl runUnderlying3 runUnderlying5) ?_;refine to (sar rfl rfl rfl) (to (lL (aA rfl) aRy rfl rfl (rows:=([IntKind.u8.wrap (48+(IntKind.u8.wrap (w64 ((a.tmod 97).tdiv 10)))),IntKind.u8.wrap (48+(IntKind.u8.wrap ((a.tmod 97).tmod 10))),10]).map pB) rfl (bN (f:=pB) λ_=>rfl) rfl (by decide)) ?_);refine to (bQa (aA rfl) rfl rfl underlying159 underlying5 underlying9) ?_;obtain⟨m,j,h⟩:=bns h;refine to (aRw (aA rfl) rfl rfl j) ?_;refine au 2 ?_;obtain rfl:=sIn h;exact rt

theorem aBk(a:List aT){r:Unit}(_:tS a=some r):Fn Tryz.prog 184 [.d (.sl 5 (a.map aH))] (.fn 243 [.cp [.sl 5 (a.map aH)]]):=by
 refine eH func184 rfl (rs:=[.tmp 2]) results184 ntmps184 (Nat.le_of_ble_eq_true rfl) ?_;refine aO (aL ?_);refine aZ rfl (eP (v:=.d (.sl 5 (a.map aH))) (aA rfl) rfl rfl rfl) ?_;rintro _ ⟨b1,rfl⟩;refine au 4 ?_;refine to (aLp (aA rfl) rfl rfl) ?_;refine ta (.fn 243 [.bp b1 0 0]) (aM ?_);exact bP ⟨rfl,_,[.box b1 0 [.sl 5 (a.map aH)]],.one (.tmp 2 (v:=.fn 243 [.bp b1 0 0]) rfl),.refl _,(aMd (.cons (lU 0 rfl rfl (dvc (.same _) dvn)) .nil))⟩

theorem sA{S:Type}(J K:S->MO->Prop)(ly:Nat)(a:S->aT->Option (S×Bool))(hy:∀(s:S) (m:MO) (x0:aT) (s':S×Bool),J s m->a s x0=some s'->aFz Tryz.prog ly [.agg (aH x0)] m (λb m'=>b=s'.2/\JK J K s' m'))(c:List aT)(sy:S)(m0:MO)(hj:J sy m0){r:S×Bool}(h:iC a c sy=some r):bI Tryz.prog 243 [.d (.lit (yv ly)),.cp [.sl 5 (c.map aH)]] [m0] (λ_ o'=>∃m',JK J K r m'/\o'=[m']):=by
 unfold iC at h;refine uQ func243 rfl (rs:=[]) results243 ntmps243 (Nat.le_of_ble_eq_true rfl) ?_;refine au 7 ?_;refine eQ (S:=Int×({x:S×MO // J x.1 x.2})) [0,5,6] (λs1=>[(7,.i s1.1)]) (λs1=>[s1.2.1.2]) (λk s1=>eC a c (c.length:Int) k s1.1 s1.2.1.1) (λ_=>rfl) (0,⟨(sy,m0),hj⟩) h (aW [0] rfl rfl (aQ rfl (bA (ae rfl)))) ?_;rintro k3 ⟨e,y2⟩ h;simp only[eC] at h;refine au 5 ?_;refine tih h (λc4 h=>?_) (λc4 h=>?_)
 ·refine au 5 ?_;obtain⟨x5,h6,h⟩:=bns h;refine to (six rfl rfl zR.of (dI aH h6)) (to (aLx (aH x5) rfl sB) ?_);refine aZ rfl (cF (zs:=[.j 0,.j 0,.j 0,.j 0,.j 0]) (aA rfl) zeroValue145 rfl rfl) ?_;rintro _ ⟨b7,rfl⟩;refine to (sst 1 rfl rfl sizeOf145 (aH x5)) (au 4 ?_);refine to (sla 1 (aH x5) rfl rfl sB) ?_;obtain⟨y8,h9,h⟩:=bns h;refine bAj rfl (bMr (aA rfl) rfl rfl rfl rfl (hy _ _ _ _ y2.2 h9)) ?_;rintro _ ⟨_,f,⟨rfl,g⟩,rfl⟩;refine to (sn rfl) (aM ?_);refine tih h (λj h=>?_) (λj h=>?_)
  ·obtain rfl:=sIn h;exact bP ⟨rfl,_,[f],[.box b7 0 (aH x5)],_,.none,.refl _,.same _,f,g,rfl⟩
  ·refine gW ?_;refine au 4 ?_;exact⟨(w64 (e+1),⟨(y8.1,f),(bUj g (bnf j))⟩),h,aW [0] rfl rfl (aQ rfl (bA (ae rfl)))⟩
 ·refine dO ?_;refine .inl ⟨rfl,?_⟩;simp only[kK] at h;obtain rfl:=sIn h;exact⟨_,[y2.1.2],[],_,.none,.refl _,.same _,y2.1.2,y2.2,rfl⟩

theorem xO(a:List aT){r:(List aT)}(h:mI a=some r):bI Tryz.prog 280 [.d (.lit (.slice none 0 0)),.fn 243 [.cp [.sl 5 (a.map aH)]]] [] (λr' o'=>∃(w0:Value),r'=.d (.lit w0)/\o'=[.arr w0 145 5 (r.map aH)]):=by
 unfold mI at h;refine cB func280 rfl (rs:=[.tmp 4]) results280 ntmps280 (Nat.le_of_ble_eq_true rfl) ?_;refine dA (gF 145 5) ?_;refine aO (aL ?_);refine aZ rfl (eP (v:=.d (.lit (.slice none 0 0))) (aA rfl) rfl rfl rfl) ?_;rintro _ ⟨b1,rfl⟩;refine to (eZ 145 5 (.inl rfl) (aA rfl)) ?_;refine au 4 ?_;refine tm (.fn 243 [.cp [.sl 5 (a.map aH)]]) (aM (qQ ?_));obtain⟨⟨s3,b9⟩,h4,h⟩:=bns h;refine bJs (S:=(List aT)×Value) (S0:=(List aT)) (f:=243) (ps:=[7]) (λz7=>z7.1) (λz7=>[.arr z7.2 145 5 (z7.1.map aH),.box b1 0 [.lit z7.2],.arr (.slice none 0 0) 145 5 (([]:List aT).map aH)]) (bTg (λx8:aT=>.agg (aH x8)) _) (([]:List aT),(.slice none 0 0)) ([]:List aT) (s3,b9) (aW [0,1,2] rfl rfl (le_refl _)) rfl call243 rfl (by decide) rfl rfl (λl J K hy m0 h0=>sA (S:=(List aT)) J K l _ (λ_ _ _ _ hJ hq=>hy _ _ _ _ hJ ⟨_,rfl,hq⟩) a _ m0 h0 h4) ?_ ?_ ?_
 ·rintro⟨e5,w6⟩ _ _ ⟨x8,rfl,h⟩;refine⟨rfl,?_⟩;refine aL ?_;refine aZ rfl (cF (zs:=[.j 0,.j 0,.j 0,.j 0,.j 0]) (aA rfl) zeroValue145 rfl rfl) ?_;rintro _ ⟨k,rfl⟩;refine to (sst 3 rfl rfl sizeOf145 (aH x8)) (au 4 ?_);refine to (sla 3 (aH x8) rfl rfl sB) (to (lL (aA rfl) zR rfl rfl (rows:=([x8]).map aH) rfl (bN (f:=aH) λ_=>rfl) rfl (by decide)) ?_);obtain⟨g,j,h⟩:=bns h;refine aZ rfl (iW (i:=0) (aA rfl) zR rfl rfl rfl (λ_=>rfl) j rfl) ?_;rintro _ ⟨e,rfl⟩;refine to (sst 1 rfl rfl sizeOf36 [.lit e]) ?_;refine jW ?_;obtain rfl:=sIn h;exact⟨rfl,(g,e),rfl,aW [0,1,2] rfl rfl aQu⟩
 ·rintro⟨e5,w6⟩ b c;subst c;have h:=yK b h;refine bTh ?_;refine au 5 ?_;obtain rfl:=sIn h;exact bP ⟨rfl,_,[.arr w6 145 5 (e5.map aH)],[.box b1 0 [.lit w6],.arr (.slice none 0 0) 145 5 (([]:List aT).map aH)],_,.one (.tmp 4 (v:=.d (.lit w6)) rfl),.refl _,.same _,w6,rfl,rfl⟩
 ·rintro⟨e5,w6⟩ b c;subst c;have h:=vT b h;cases h

theorem zB(a:List aT){r:(List aT)}(h:nH a=some r):bI Tryz.prog 241 [.fn 243 [.cp [.sl 5 (a.map aH)]]] [] (λr' o'=>∃(w0:Value),r'=.d (.lit w0)/\o'=[.arr w0 145 5 (r.map aH)]):=by
 unfold nH at h;refine cB func241 rfl (rs:=[.tmp 2]) results241 ntmps241 (Nat.le_of_ble_eq_true rfl) ?_;refine aO (aL (to (eZ 145 5 (.inl rfl) (aA rfl)) ?_));refine au 3 ?_;refine tm (.fn 243 [.cp [.sl 5 (a.map aH)]]) ?_;obtain⟨r2,h3,h⟩:=bns h;refine aZ rfl (rL (aA rfl) (.func _ _ call280) rfl rfl (xO _ h3)) ?_;rintro _ ⟨v4,rfl⟩;refine au 2 ?_;obtain rfl:=sIn h;refine dA (aW [1,0] rfl rfl (le_refl _)) ?_;exact bP ⟨rfl,_,[.arr v4 145 5 (r2.map aH)],Z15,_,.one (.tmp 2 (v:=.d (.lit v4)) rfl),.refl _,.same _,v4,rfl,rfl⟩

theorem zD(x:List aT)(cmp:aT->aT->Option Int){r:List aT}{x_v:Value}{e:TypeId}(f:Nat)(v:List AV)(he:∀args w,(callFunc f args).run Tryz.prog w=.ok (.enter f args) w)(hh:∀x0 x1 r,cmp x0 x1=some r->FnS Tryz.prog f ([.agg (aH x0),.agg (aH x1)]++v) (.i r))(h:rZ x cmp=some r):bI Tryz.prog 242 [.d (.lit x_v),.fn f v] [.arr x_v e 5 (x.map aH)] (λr' o'=>r'=.tup []/\o'=[.arr x_v e 5 (r.map aH)]):=bQi (k:=5) (enc:=aH) (λ_=>rfl) (λ_=>rfl) (by intro x v hv;simp[aH,bD] at hv;rcases hv with h|h|h|h|h<;>subst h<;>rfl) (λenc hk h1 cf hO g cb blk off cap d w=>Tryz.slices_SortFunc_total_k enc hk h1 cf hO g cb blk off cap d w) (λp cap fv w=>Tryz.slices_SortFunc_none_k p cap fv w) he hh h

theorem wJ(c:List aT)(e:aT->aT->Option Int){r:(List aT)}(a:Nat)(b:List AV)(f:∀args w,(callFunc a args).run Tryz.prog w=.ok (.enter a args) w)(g:∀(x0:aT) (x1:aT) r,e x0 x1=some r->FnS Tryz.prog a ([.agg (aH x0),.agg (aH x1)]++b) (.i r))(h:lQ c e=some r):bI Tryz.prog 183 [.fn 243 [.cp [.sl 5 (c.map aH)]],.fn a b] [] (λr' o'=>∃(w0:Value),r'=.d (.lit w0)/\o'=[.arr w0 145 5 (r.map aH)]):=by
 unfold lQ at h;refine cB func183 rfl (rs:=[.tmp 4]) results183 ntmps183 (Nat.le_of_ble_eq_true rfl) ?_;refine aO (aL (to (eZ 145 5 (.inl rfl) (aA rfl)) ?_));refine au 3 ?_;refine tm (.fn 243 [.cp [.sl 5 (c.map aH)]]) ?_;obtain⟨r2,h3,h⟩:=bns h;refine aZ rfl (rL (aA rfl) (.func _ _ call241) rfl rfl (zB _ h3)) ?_;rintro _ ⟨v4,rfl⟩;refine au 5 ?_;refine tm (.fn a b) ?_;obtain⟨r5,h6,h⟩:=bns h;refine cL (aW [1,0] rfl rfl (le_refl _)) ?_;refine aZ rfl (gM (passed:=[.arr v4 145 5 (r2.map aH)]) (aA rfl) rfl (.func _ _ call242) rfl rfl (zD r2 e a b f g h6)) ?_;rintro _ ⟨_,_,⟨rfl,rfl⟩,rfl⟩;refine au 6 ?_;obtain rfl:=sIn h;exact bP ⟨rfl,_,[.arr v4 145 5 (r5.map aH)],Z15,_,.one (.tmp 4 (v:=.d (.lit v4)) rfl),.refl _,.same _,v4,rfl,rfl⟩

theorem aKh[md:Mode](b:List Int){r:Int}(h:aBu b=some r):Fn Tryz.prog 186 [.d (.sl 1 (b.map aE))] (.i r):=by
 unfold aBu at h;refine fnx xT {} [.tmp 2] func186 results186 ntmps186 ?_;refine ol ?_;refine xlp [3,6,7] [] (λ(a:Int)=>([(8,.i a)],[])) (λk (a:Int)=>uZ 0 b (b.length:Int) k a) (0) h (lev []) ?_;rintro k2 a h;simp only[uZ] at h;refine br h (λh=>?_) λh=>?_
 ·refine oi h λx3 h=>?_;refine br h (λh=>?_) λh=>?_
  ·cases h
  ·exact⟨(w64 (a+1)),h,lev []⟩
 ·simp only[aJd] at h;cases h;exact⟨rfl,rfl,rfl⟩

theorem aQf[md:Mode](a:aT)(b:aT){r:Int}(h:aBa a b=some r):Fn Tryz.prog 185 [.agg (aH a),.agg (aH b)] (.i r):=by
 unfold aBa at h;refine fnx xT {} [.tmp 4] func185 results185 ntmps185 ?_;refine cl call186 (λ_=>aKh _) h λr3 h=>?_;cases h;exact⟨rfl,rfl,rfl⟩

theorem aAs(b:List aT){r:(List aT)}{a:Value}(h:nI b=some r):bI Tryz.prog 187 [.d (.lit a)] [.arr a 145 5 (b.map aH)] (λr' o'=>∃w0:Value,r'=.d (.lit w0)/\o'=[.arr w0 145 5 (r.map aH)]):=by
 unfold nI at h;refine cB func187 rfl (rs:=[.tmp 2]) results187 ntmps187 (Nat.le_of_ble_eq_true rfl) ?_;refine aO (aL (to (eZ 145 5 (.inl rfl) (aA rfl)) ?_));refine au 5 ?_;refine to (nG (m:=0) (aA rfl) rfl rfl zR.of) ?_;refine au 2 ?_;refine tih h (λc2 h=>?_) (λc2 h=>?_)
 ·refine au 5 ?_;obtain rfl:=sIn h;exact bP ⟨rfl,_,[.arr a 145 5 (b.map aH)],Z15,_,.one (.tmp 2 (v:=.d (.lit a)) rfl),.refl _,.same _,a,rfl,rfl⟩
 ·refine au 3 ?_;cases h

theorem aNi(c:bZ)(e:aT){r:bZ}{s t:Nat}{f:Nat}{u:List Nat}{o:Nat}{g:Value}{j:Value}{q:Value}(h:wZ c e=some r):bI Tryz.prog 189 [.bp s t 0,.agg (aH e)] [.box s t [.j c.Field.Places,.j c.Field.Wilds,.j c.Field.Guards,.j c.Field.Close,.j c.Field.Freeze,.lit (.map (some f)),.lit g,.k c.frozen,.lit j,.lit q,.j c.more,.j c.entered],.map f (c.players.map λp:Int×aD=>(VI p.1,(λv:aD=>AV.agg (aG v)) p.2)) u o,.arr g 3 1 (c.wilds.map aE),.arr j 3 1 (c.first.map aE),.arr q 3 1 (c.late.map aE)] (λr' o'=>∃(y:List Nat) (A:Nat) (w2:Value) (w4:Value) (w5:Value),r'=.tup []/\o'=[.box s t [.j r.Field.Places,.j r.Field.Wilds,.j r.Field.Guards,.j r.Field.Close,.j r.Field.Freeze,.lit (.map (some f)),.lit w2,.k r.frozen,.lit w4,.lit w5,.j r.more,.j r.entered],.map f (r.players.map λp:Int×aD=>(VI p.1,(λv:aD=>AV.agg (aG v)) p.2)) y A,.arr w2 3 1 (r.wilds.map aE),.arr w4 3 1 (r.first.map aE),.arr w5 3 1 (r.late.map aE)]):=by
 unfold wZ at h;refine uQ func189 rfl (rs:=[]) results189 ntmps189 (Nat.le_of_ble_eq_true rfl) ?_;refine aO (aL ?_);refine aZ rfl (eP (v:=.agg (aH e)) (aA rfl) rfl rfl rfl) ?_;rintro _ ⟨b1,rfl⟩;refine aM (aO ?_);refine kX mix 8 [0,3] (λX2=>[(4,.bp (X2 7).b 0 0),(11,.agg (aG (Z4 e c)))]) (λX2=>[.box s t [.j c.Field.Places,.j c.Field.Wilds,.j c.Field.Guards,.j c.Field.Close,.j c.Field.Freeze,.lit (.map (some f)),.lit g,.k c.frozen,.lit j,.lit q,.j c.more,.j c.entered],.map f (c.players.map λp:Int×aD=>(VI p.1,(λv:aD=>AV.agg (aG v)) p.2)) u o,.arr g 3 1 (c.wilds.map aE),.arr j 3 1 (c.first.map aE),.arr q 3 1 (c.late.map aE),.box b1 0 (aH e),.box (X2 7).b 0 (aG Z0)]) ?_ ?_
 ·refine⟨1,λX2=>[(5,0,.bp s t 0),(6,1,.bp s t 0),(7,2,.bp s t 5),(8,3,.d (.lit (.map (some f)))),(9,4,.bp b1 0 3),(10,5,.i e.Player),(11,6,.agg (aG (Z4 e c))),(4,7,.bp (X2 7).b 0 0)],λX2=>[([],.box s t [.j c.Field.Places,.j c.Field.Wilds,.j c.Field.Guards,.j c.Field.Close,.j c.Field.Freeze,.lit (.map (some f)),.lit g,.k c.frozen,.lit j,.lit q,.j c.more,.j c.entered]),([],.map f (c.players.map λp:Int×aD=>(VI p.1,(λv:aD=>AV.agg (aG v)) p.2)) u o),([],.arr g 3 1 (c.wilds.map aE)),([],.arr j 3 1 (c.first.map aE)),([],.arr q 3 1 (c.late.map aE)),([],.box b1 0 (aH e)),([(7,.box (X2 7).b 0 (aG Z0))],nob)],?_,?_⟩
  · exact xok [(0,0),(1,0),(2,0),(3,0),(0,0),(5,0),(406,0),(0,0)] ⟨λ_ _ w _ k=>xp w (ym k (.bp s t 0)),
 λ_ _ w _ k=>xp w (bJ (aA rfl) (aK k rfl)),
 λ_ _ w _ k=>xp w (yf k rfl nL),
 λ_ _ w _ k=>xp w (yl k 0 rfl (og k rfl rfl) rfl uB),
 λ_ _ w _ k=>xp w (yf k rfl aKo),
 λ_ _ w _ k=>xp w (yl k 5 rfl (og k rfl rfl) rfl dG),
 λ_ _ w _ k=>xp w (aDs (av:=(λv:aD=>AV.agg (aG v))) (l:=c.players) (z:=Z0) (a:=e.Player) (m:=1) (aA rfl) sP underlying131 zeroValue262 (λ_ _=>.agg (mA rfl)) (aK k rfl) (og k rfl rfl) rfl (aK k rfl) (cC (kv:=VI) e.Player)),
 λX2 S hw hi hS=>tU (X:=X2) (p:=6) (v:=λx=>.bp x.b 0 0) (mo:=λx=>.box x.b 0 (aG Z0)) hS hi rfl rfl (λ_=>rfl) hw (λ_=>rfl) (λ_=>rfl) (λ_=>rfl) (λ_=>⟨rfl,rfl,.inr rfl,⟨rfl,rfl,.inr rfl,⟨rfl,rfl,.inr rfl,⟨rfl,rfl,.inr rfl,⟨rfl,rfl,.inr rfl,⟨rfl,rfl,.inr rfl,⟨rfl,rfl,.inr rfl,⟨rfl,rfl,.inl rfl,trivial⟩⟩⟩⟩⟩⟩⟩⟩) (λ_=>⟨trivial,rfl,⟨trivial,rfl,⟨trivial,rfl,⟨trivial,rfl,⟨trivial,rfl,⟨trivial,rfl,⟨⟨rfl,.inl rfl,trivial⟩,rfl,trivial⟩⟩⟩⟩⟩⟩⟩) (kW (cF (zs:=[.k false,.k false,.j 0,.j 0,.k false,.k false,.k false,.k false]) (aA rfl) zeroValue262 rfl rfl) (by rintro _ ⟨w,rfl⟩;exact⟨⟨w,undef⟩,aW [0,1,2,3,4,5,7] rfl rfl (le_refl _)⟩)),trivial⟩
  · exactλX2=>cP (aQ rfl (aQ rfl (bA (ae rfl))))
 ·intro X2;refine to (sst 6 rfl rfl sizeOf262 (aG (Z4 e c))) (au 14 ?_);refine tih h (λc3 h=>?_) (λc3 h=>?_)
  ·refine lS ?_;refine tih h (λc4 h=>?_) (λc4 h=>?_)
   ·refine aO ?_;refine dX mix 7 [0,3,4] [(18,.i e.Hour),(23,.i c.Field.Close)] ?_ ?_
    ·refine⟨[(17,0,.bp b1 0 1),(18,1,.i e.Hour),(19,2,.bp s t 0),(20,3,.bp s t 0),(21,4,.bp s t 0),(22,5,.bp s t 3),(23,6,.i c.Field.Close)],?_,?_⟩
     · exact dk [0,1,0,3,4,5,6] ⟨go (zf rfl aUs),
 go (zl 5 rfl rfl rfl dG),
 go (zm (.bp s t 0)),
 go λS hS=>bJ (aA rfl) (aK hS rfl),
 go (zf rfl aUr),
 go (zf rfl bKq),
 go (zl 0 rfl rfl rfl dG),trivial⟩
     · exact cP (aQ rfl (aQ rfl (bA (ae rfl))))
    ·refine au 2 ?_;obtain⟨b5,h6,h⟩:=bns h;refine eD 4 [0,3,4] 29 b5 ?_ ?_
     ·refine bch h6 (λc9 h6=>?_) (λc9 h6=>?_)
      ·refine au 4 ?_;obtain rfl:=sIn h6;refine aM (bX rfl (ae rfl) rfl)
      ·refine au 4 ?_;obtain rfl:=sIn h6;refine aM (bX rfl (ae rfl) rfl)
     ·refine aM ?_;refine tih h (λc7 h=>?_) (λc7 h=>?_)
      ·refine au 3 ?_;refine to (bJ (aA rfl) rfl) ?_;refine au 3 ?_;refine to (bJ (aA rfl) rfl) ?_;refine to (sf rfl aKn) (to (sst 0 rfl rfl sizeOf3 [.j c.Field.Places,.j c.Field.Wilds,.j c.Field.Guards,.j c.Field.Close,.j c.Field.Freeze,.lit (.map (some f)),.lit g,.k c.frozen,.lit j,.lit q,.j c.more,.j (w64 (c.entered+1))]) (aM ?_));refine kX mix 15 [0,3,4] (λX8=>[(45,.i (w64 (c.entered+1)))]) (λX8=>[.box s t [.j c.Field.Places,.j c.Field.Wilds,.j c.Field.Guards,.j c.Field.Close,.j c.Field.Freeze,.lit (.map (some f)),.lit g,.k c.frozen,.lit j,.lit q,.j c.more,.j (w64 (c.entered+1))],.map f (c.players.map λp:Int×aD=>(VI p.1,(λv:aD=>AV.agg (aG v)) p.2)) u o,.arr g 3 1 (c.wilds.map aE),.arr j 3 1 (c.first.map aE),.arr q 3 1 (c.late.map aE),.box b1 0 (aH e),.box (X2 7).b 0 (Z22 e c)]) ?_ ?_
       ·refine⟨0,λX8=>[(37,0,.bp b1 0 2),(38,1,.i e.Kind),(39,2,.b (decide (e.Kind=2))),(40,3,.bp b1 0 4),(41,4,.i e.Rank),(42,5,.bp s t 0),(43,6,.bp s t 0),(44,7,.bp s t 11),(45,8,.i (w64 (c.entered+1))),(46,9,.bp (X2 7).b 0 0),(47,11,.bp (X2 7).b 0 1),(48,13,.bp (X2 7).b 0 2)],λX8=>[([],.box s t [.j c.Field.Places,.j c.Field.Wilds,.j c.Field.Guards,.j c.Field.Close,.j c.Field.Freeze,.lit (.map (some f)),.lit g,.k c.frozen,.lit j,.lit q,.j c.more,.j (w64 (c.entered+1))]),([],.map f (c.players.map λp:Int×aD=>(VI p.1,(λv:aD=>AV.agg (aG v)) p.2)) u o),([],.arr g 3 1 (c.wilds.map aE)),([],.arr j 3 1 (c.first.map aE)),([],.arr q 3 1 (c.late.map aE)),([],.box b1 0 (aH e)),([(14,.box (X2 7).b 0 (Z22 e c)),(12,.box (X2 7).b 0 (aG (aD.mk true (decide (e.Kind=2)) ((Z4 e c).rank) ((Z4 e c).turn) ((Z4 e c).quit) ((Z4 e c).signed) ((Z4 e c).wild) ((Z4 e c).had)))),(10,.box (X2 7).b 0 (aG (aD.mk true ((Z4 e c).guard) ((Z4 e c).rank) ((Z4 e c).turn) ((Z4 e c).quit) ((Z4 e c).signed) ((Z4 e c).wild) ((Z4 e c).had))))],.box (X2 7).b 0 (aG (Z4 e c)))],?_,?_⟩
        · exact xok [(0,1315),(1,1315),(2,1315),(0,15),(4,15),(0,0),(6,0),(7,0),(8,0),(0,111315),(10,1315),(11,1315),(31112,15),(1113,15),(5111314,0)] ⟨λ_ _ w _ k=>xp w (yf k rfl aUt),
 λ_ _ w _ k=>xp w (yl k 5 rfl (og k rfl rfl) rfl dG),
 λ_ _ w _ k=>xp w (ycm k rfl rfl rfl),
 λ_ _ w _ k=>xp w (yf k rfl bHh),
 λ_ _ w _ k=>xp w (yl k 5 rfl (og k rfl rfl) rfl dG),
 λ_ _ w _ k=>xp w (ym k (.bp s t 0)),
 λ_ _ w _ k=>xp w (bJ (aA rfl) (aK k rfl)),
 λ_ _ w _ k=>xp w (yf k rfl aKn),
 λ_ _ w _ k=>xp w (yl k 0 rfl (og k rfl rfl) rfl dG),
 λ_ _ w _ k=>xp w (yf k rfl aUu),
 λ_ _ _ _ k=>xs 6 k rfl rfl (cV (i:=6) (aK k rfl) (og k rfl rfl) rfl rfl rfl sizeOf4 rfl (aA rfl) (Nat.le_of_ble_eq_true rfl) (ds':=(aG (aD.mk true ((Z4 e c).guard) ((Z4 e c).rank) ((Z4 e c).turn) ((Z4 e c).quit) ((Z4 e c).signed) ((Z4 e c).wild) ((Z4 e c).had)))) rfl),
 λ_ _ w _ k=>xp w (yf k rfl bHj),
 λ_ _ _ _ k=>xs 6 k rfl rfl (cV (i:=6) (aK k rfl) (og k rfl rfl) (aK k rfl) rfl rfl sizeOf4 rfl (aA rfl) (Nat.le_of_ble_eq_true rfl) (ds':=(aG (aD.mk true (decide (e.Kind=2)) ((Z4 e c).rank) ((Z4 e c).turn) ((Z4 e c).quit) ((Z4 e c).signed) ((Z4 e c).wild) ((Z4 e c).had)))) rfl),
 λ_ _ w _ k=>xp w (yf k rfl aKp),
 fun _ _ _ _ k=>xs 6 k rfl rfl (cV (i:=6) (aK k rfl) (og k rfl rfl) (aK k rfl) rfl rfl sizeOf3 rfl (aA rfl) (Nat.le_of_ble_eq_true rfl) (ds':=(Z22 e c)) rfl),trivial⟩
        · exactλX8=>cP (aQ rfl (bA (ae rfl)))
       ·intro X8;refine to (sf rfl aKq) (to (sst 6 rfl rfl sizeOf3 (aG (Z6 e c))) ?_);refine jW ?_;refine dX mix 7 [] [(134,.d (.lit (.map (some f)))),(136,.i e.Player),(137,.agg (aG (Z6 e c)))] ?_ ?_
        ·refine⟨[(131,0,.bp s t 0),(132,1,.bp s t 0),(133,2,.bp s t 5),(134,3,.d (.lit (.map (some f)))),(135,4,.bp b1 0 3),(136,5,.i e.Player),(137,6,.agg (aG (Z6 e c)))],?_,?_⟩
         · exact dk [0,1,2,3,0,5,0] ⟨go (zm (.bp s t 0)),
 go λS hS=>bJ (aA rfl) (aK hS rfl),
 go (zf rfl nL),
 go (zl 0 rfl rfl rfl uB),
 go (zf rfl aKo),
 go (zl 5 rfl rfl rfl dG),
 go (zla 6 (aG (Z6 e c)) rfl rfl aMc),trivial⟩
         · exact cP (aQ rfl (aQ rfl (aQ rfl (bA trivial))))
        ·refine to (pN (av:=(λv:aD=>AV.agg (aG v))) (l:=c.players) (v:=(Z6 e c)) (a:=e.Player) (m:=1) sP underlying131 rfl rfl rfl rfl (cC (kv:=VI) e.Player) rfl rfl) ?_;refine aM ?_;obtain rfl:=sIn h;exact⟨_,[.box s t [.j c.Field.Places,.j c.Field.Wilds,.j c.Field.Guards,.j c.Field.Close,.j c.Field.Freeze,.lit (.map (some f)),.lit g,.k c.frozen,.lit j,.lit q,.j c.more,.j (w64 (c.entered+1))],.map f ((dL e.Player (Z6 e c) c.players).map λp:Int×aD=>(VI p.1,(λv:aD=>AV.agg (aG v)) p.2)) (mbs e.Player c.players u o) (mck e.Player c.players o),.arr g 3 1 (c.wilds.map aE),.arr j 3 1 (c.first.map aE),.arr q 3 1 (c.late.map aE)],[.box b1 0 (aH e),.box (X2 7).b 0 (aG (Z6 e c))],_,.none,.refl _,.same _,(mbs e.Player c.players u o),(mck e.Player c.players o),g,j,q,rfl,rfl⟩
      ·refine gW ?_;refine dX mix 7 [] [(134,.d (.lit (.map (some f)))),(136,.i e.Player),(137,.agg (aG (Z4 e c)))] ?_ ?_
       ·refine⟨[(131,0,.bp s t 0),(132,1,.bp s t 0),(133,2,.bp s t 5),(134,3,.d (.lit (.map (some f)))),(135,4,.bp b1 0 3),(136,5,.i e.Player),(137,6,.agg (aG (Z4 e c)))],?_,?_⟩
        · exact dk [0,1,2,3,0,5,0] ⟨go (zm (.bp s t 0)),
 go λS hS=>bJ (aA rfl) (aK hS rfl),
 go (zf rfl nL),
 go (zl 0 rfl rfl rfl uB),
 go (zf rfl aKo),
 go (zl 5 rfl rfl rfl dG),
 go (zla 6 (aG (Z4 e c)) rfl rfl aMc),trivial⟩
        · exact cP (aQ rfl (aQ rfl (aQ rfl (bA trivial))))
       ·refine to (pN (av:=(λv:aD=>AV.agg (aG v))) (l:=c.players) (v:=aR e.Player Z0 c.players) (a:=e.Player) (m:=1) sP underlying131 rfl rfl rfl rfl (cC (kv:=VI) e.Player) rfl rfl) ?_;refine aM ?_;obtain rfl:=sIn h;exact⟨_,[.box s t [.j c.Field.Places,.j c.Field.Wilds,.j c.Field.Guards,.j c.Field.Close,.j c.Field.Freeze,.lit (.map (some f)),.lit g,.k c.frozen,.lit j,.lit q,.j c.more,.j c.entered],.map f ((dL e.Player (Z4 e c) c.players).map λp:Int×aD=>(VI p.1,(λv:aD=>AV.agg (aG v)) p.2)) (mbs e.Player c.players u o) (mck e.Player c.players o),.arr g 3 1 (c.wilds.map aE),.arr j 3 1 (c.first.map aE),.arr q 3 1 (c.late.map aE)],[.box b1 0 (aH e),.box (X2 7).b 0 (aG (Z4 e c))],_,.none,.refl _,.same _,(mbs e.Player c.players u o),(mck e.Player c.players o),g,j,q,rfl,rfl⟩
   ·refine aO ?_;cases h
  ·cases h

theorem aVx(t:fW)(u:List aT)(x:Int){r:(Option bZ)}(h:aFe t u x=some r):Fn Tryz.prog 92 [.agg (dM t),.d (.sl 5 (u.map aH)),.i x] (cK cW r):=by
 unfold aFe at h;refine oT [.tmp 6] func92 results92 ntmps92 ?_;refine aO (aL ?_);refine aZ rfl (eP (v:=.agg (dM t)) (aA rfl) rfl rfl rfl) ?_;rintro _ ⟨b1,rfl⟩;refine ta (cK cW (none:Option bZ)) (au 3 ?_);refine to (sla 0 (dM t) rfl rfl aGa) ?_;refine aZ rfl (tQ (aA rfl)) ?_;rintro _ ⟨r2,rfl⟩;refine to (eS (aA rfl) bQo (zs:=[.j 0,.j 0,.j 0,.j 0,.j 0,.lit (.map none),.lit (.slice none 0 0),.k false,.lit (.slice none 0 0),.lit (.slice none 0 0),.j 0,.j 0]) rfl rfl rfl rfl (es:=[.j t.Places,.j t.Wilds,.j t.Guards,.j t.Close,.j t.Freeze,.lit (.map (some r2)),.lit (.slice none 0 0),.k false,.lit (.slice none 0 0),.lit (.slice none 0 0),.j 0,.j 0]) rfl) ?_;refine aZ rfl (eP (v:=.agg [.j t.Places,.j t.Wilds,.j t.Guards,.j t.Close,.j t.Freeze,.lit (.map (some r2)),.lit (.slice none 0 0),.k false,.lit (.slice none 0 0),.lit (.slice none 0 0),.j 0,.j 0]) (aA rfl) rfl rfl rfl) ?_;rintro _ ⟨b3,rfl⟩;refine cL (gF 3 1) ?_;refine cL (gF 3 1) ?_;refine cL (gF 3 1) ?_;refine au 5 ?_;obtain⟨x4,h5,h⟩:=bns h;refine to (oS (aA rfl) (.func _ _ call184) rfl rfl (aBk _ h5)) ?_;obtain⟨r8,h9,h⟩:=bns h;refine aZ rfl (rL (aA rfl) (.func _ _ call183) rfl rfl (wJ _ _ 185 [] call185 (λ_ _ _ h=>aQf (md:=aGu) _ _ h) h9)) ?_;rintro _ ⟨L,rfl⟩;refine au 6 ?_;obtain⟨B,M,h⟩:=bns h;refine cL (aW [6,0,1,2,3,4,5] rfl rfl (le_refl _)) ?_;refine aZ rfl (gM (passed:=[.arr L 145 5 (r8.map aH)]) (aA rfl) rfl (.func _ _ call187) rfl rfl (aAs r8 M)) ?_;rintro _ ⟨_,_,⟨H,rfl,rfl⟩,rfl⟩;refine to (nG (m:=0) (aA rfl) rfl rfl zR.of) ?_;refine au 3 ?_;refine eQ (S:=Int×(List (Int×aD))×(List Int)×(List Int)×(List Int)×fW×Bool×Int×Int×(List Nat)×Nat×Value×Value×Value) [2,3,7,19,20] (λq=>[(21,.i q.1)]) (λq=>[.box b1 0 (dM t),.map r2 (q.2.1.map λp:Int×aD=>(VI p.1,(λv:aD=>AV.agg (aG v)) p.2)) q.2.2.2.2.2.2.2.2.2.1 q.2.2.2.2.2.2.2.2.2.2.1,.arr q.2.2.2.2.2.2.2.2.2.2.2.1 3 1 (q.2.2.1.map aE),.arr q.2.2.2.2.2.2.2.2.2.2.2.2.1 3 1 (q.2.2.2.1.map aE),.arr q.2.2.2.2.2.2.2.2.2.2.2.2.2 3 1 (q.2.2.2.2.1.map aE),.box b3 0 [.j q.2.2.2.2.2.1.Places,.j q.2.2.2.2.2.1.Wilds,.j q.2.2.2.2.2.1.Guards,.j q.2.2.2.2.2.1.Close,.j q.2.2.2.2.2.1.Freeze,.lit (.map (some r2)),.lit q.2.2.2.2.2.2.2.2.2.2.2.1,.k q.2.2.2.2.2.2.1,.lit q.2.2.2.2.2.2.2.2.2.2.2.2.1,.lit q.2.2.2.2.2.2.2.2.2.2.2.2.2,.j q.2.2.2.2.2.2.2.1,.j q.2.2.2.2.2.2.2.2.1],.arr H 145 5 (B.map aH)]) (λk q=>tY x (B.length:Int) t B k q.1 q.2.1 q.2.2.1 q.2.2.2.1 q.2.2.2.2.1 q.2.2.2.2.2.1 q.2.2.2.2.2.2.1 q.2.2.2.2.2.2.2.1 q.2.2.2.2.2.2.2.2.1) (λ_=>rfl) (0,([]:List (Int×aD)),([]:List Int),([]:List Int),([]:List Int),t,false,0,0,[],0,(.slice none 0 0),(.slice none 0 0),(.slice none 0 0)) h (aW [1,2,4,5,6,3,0] rfl rfl (aQ rfl (bA (ae rfl)))) ?_;rintro a2 ⟨E,b,s,c,e,a,g,j,o,F,G,y,z,A⟩ h;simp only[tY] at h;refine au 5 ?_;refine tih h (λN h=>?_) (λN h=>?_)
 ·refine au 5 ?_;obtain⟨C,I,h⟩:=bns h;refine to (pM (m:=6) (aA rfl) rfl rfl rfl zR.of (dI aH I)) ?_;refine to (aRv (aA rfl) rfl (l:=6) rfl (aDp aH I) sB (es:=(aH C)) rfl rfl) ?_;refine aZ rfl (cF (zs:=[.j 0,.j 0,.j 0,.j 0,.j 0]) (aA rfl) zeroValue145 rfl rfl) ?_;rintro _ ⟨O,rfl⟩;refine to (sst 7 rfl rfl sizeOf145 (aH C)) (au 9 ?_);refine tih h (λP h=>?_) (λP h=>?_)
  ·refine dO ?_;refine .inr ⟨by decide,?_⟩;refine .inl ⟨rfl,?_⟩;simp only[tX] at h;refine au 8 ?_;refine tih h (λQ h=>?_) (λQ h=>?_)
   ·cases h
   ·refine au 6 ?_;refine dA (aW [0,6,7,1,2,3,4,5] rfl rfl (le_refl _)) ?_;apply aSj [.box b1 0 (dM t),.arr H 145 5 (B.map aH),.box O 0 (aH C)] [.map r2 (b.map λp:Int×aD=>(VI p.1,(λv:aD=>AV.agg (aG v)) p.2)) F G,.arr y 3 1 (s.map aE),.arr z 3 1 (c.map aE),.arr A 3 1 (e.map aE),.box b3 0 [.j a.Places,.j a.Wilds,.j a.Guards,.j a.Close,.j a.Freeze,.lit (.map (some r2)),.lit y,.k g,.lit z,.lit A,.j j,.j o]] rfl;exact kN (k:=52) (v:=.cp [.j a.Places,.j a.Wilds,.j a.Guards,.j a.Close,.j a.Freeze,.mp true (b.map λp:Int×aD=>(VI p.1,aG p.2)),.sl 1 (s.map aE),.k g,.sl 1 (c.map aE),.sl 1 (e.map aE),.j j,.j o]) (lU 4 rfl rfl (dvc (.same _) (dvc (.same _) (dvc (.same _) (dvc (.same _) (dvc (.same _) (dvc (aHi (kv:=VI) (av:=(λv:aD=>AV.agg (aG v))) (l:=b) (enc:=aG) (agg:=true) 0 rfl (λh=>by cases h) (λ_=>rfl)) (dvc (cI 1 rfl (bN (f:=aE) λ_=>rfl)) (dvc (.same _) (dvc (cI 2 rfl (bN (f:=aE) λ_=>rfl)) (dvc (cI 3 rfl (bN (f:=aE) λ_=>rfl)) (dvc (.same _) (dvc (.same _) dvn))))))))))))) (kN (k:=7) (v:=.cp [.j a.Places,.j a.Wilds,.j a.Guards,.j a.Close,.j a.Freeze,.mp true (b.map λp:Int×aD=>(VI p.1,aG p.2)),.sl 1 (s.map aE),.k g,.sl 1 (c.map aE),.sl 1 (e.map aE),.j j,.j o]) (lU 4 rfl rfl (dvc (.same _) (dvc (.same _) (dvc (.same _) (dvc (.same _) (dvc (.same _) (dvc (aHi (kv:=VI) (av:=(λv:aD=>AV.agg (aG v))) (l:=b) (enc:=aG) (agg:=true) 0 rfl (λh=>by cases h) (λ_=>rfl)) (dvc (cI 1 rfl (bN (f:=aE) λ_=>rfl)) (dvc (.same _) (dvc (cI 2 rfl (bN (f:=aE) λ_=>rfl)) (dvc (cI 3 rfl (bN (f:=aE) λ_=>rfl)) (dvc (.same _) (dvc (.same _) dvn))))))))))))) (kN (k:=6) (v:=.cp [.j a.Places,.j a.Wilds,.j a.Guards,.j a.Close,.j a.Freeze,.mp true (b.map λp:Int×aD=>(VI p.1,aG p.2)),.sl 1 (s.map aE),.k g,.sl 1 (c.map aE),.sl 1 (e.map aE),.j j,.j o]) (lU 4 rfl rfl (dvc (.same _) (dvc (.same _) (dvc (.same _) (dvc (.same _) (dvc (.same _) (dvc (aHi (kv:=VI) (av:=(λv:aD=>AV.agg (aG v))) (l:=b) (enc:=aG) (agg:=true) 0 rfl (λh=>by cases h) (λ_=>rfl)) (dvc (cI 1 rfl (bN (f:=aE) λ_=>rfl)) (dvc (.same _) (dvc (cI 2 rfl (bN (f:=aE) λ_=>rfl)) (dvc (cI 3 rfl (bN (f:=aE) λ_=>rfl)) (dvc (.same _) (dvc (.same _) dvn))))))))))))) (aCp _ _)));obtain rfl:=sIn h;refine dA (jM (kA (l:=[6]) (ae rfl))) ?_;exact rt
  ·refine au 10 ?_;refine tih h (λT h=>?_) (λT h=>?_)
   ·cases h
   ·refine au 4 ?_;refine to (sla 7 (aH C) rfl rfl sB) ?_;obtain⟨w,U,h⟩:=bns h;refine cL (aW [5,1,2,3,4,0,6,7] rfl rfl (le_refl _)) ?_;refine aZ rfl (gM (passed:=[.box b3 0 [.j a.Places,.j a.Wilds,.j a.Guards,.j a.Close,.j a.Freeze,.lit (.map (some r2)),.lit y,.k g,.lit z,.lit A,.j j,.j o],.map r2 (b.map λp:Int×aD=>(VI p.1,(λv:aD=>AV.agg (aG v)) p.2)) F G,.arr y 3 1 (s.map aE),.arr z 3 1 (c.map aE),.arr A 3 1 (e.map aE)]) (aA rfl) rfl (.func _ _ call189) rfl rfl (aNi (bZ.mk a b s g c e j o) C U)) ?_;rintro _ ⟨_,_,⟨J,K,V,W,X,rfl,rfl⟩,rfl⟩;refine au 4 ?_;refine to (bJ (aA rfl) rfl) ?_;refine au 3 ?_;refine tih h (λY h=>?_) (λY h=>?_)
    ·cases h
    ·refine gW ?_;refine au 4 ?_;exact⟨(w64 (E+1),w.players,w.wilds,w.first,w.late,w.Field,w.frozen,w.more,w.entered,J,K,V,W,X),h,aW [5,1,2,3,4,0,6] rfl rfl (aQ rfl (bA (ae rfl)))⟩
 ·refine dO ?_;refine .inl ⟨rfl,?_⟩;simp only[tX] at h;refine au 8 ?_;refine tih h (λZ h=>?_) (λZ h=>?_)
  ·cases h
  ·refine au 6 ?_;refine dA (aW [0,6,1,2,3,4,5] rfl rfl (le_refl _)) ?_;apply aSj [.box b1 0 (dM t),.arr H 145 5 (B.map aH)] [.map r2 (b.map λp:Int×aD=>(VI p.1,(λv:aD=>AV.agg (aG v)) p.2)) F G,.arr y 3 1 (s.map aE),.arr z 3 1 (c.map aE),.arr A 3 1 (e.map aE),.box b3 0 [.j a.Places,.j a.Wilds,.j a.Guards,.j a.Close,.j a.Freeze,.lit (.map (some r2)),.lit y,.k g,.lit z,.lit A,.j j,.j o]] rfl;exact kN (k:=52) (v:=.cp [.j a.Places,.j a.Wilds,.j a.Guards,.j a.Close,.j a.Freeze,.mp true (b.map λp:Int×aD=>(VI p.1,aG p.2)),.sl 1 (s.map aE),.k g,.sl 1 (c.map aE),.sl 1 (e.map aE),.j j,.j o]) (lU 4 rfl rfl (dvc (.same _) (dvc (.same _) (dvc (.same _) (dvc (.same _) (dvc (.same _) (dvc (aHi (kv:=VI) (av:=(λv:aD=>AV.agg (aG v))) (l:=b) (enc:=aG) (agg:=true) 0 rfl (λh=>by cases h) (λ_=>rfl)) (dvc (cI 1 rfl (bN (f:=aE) λ_=>rfl)) (dvc (.same _) (dvc (cI 2 rfl (bN (f:=aE) λ_=>rfl)) (dvc (cI 3 rfl (bN (f:=aE) λ_=>rfl)) (dvc (.same _) (dvc (.same _) dvn))))))))))))) (kN (k:=7) (v:=.cp [.j a.Places,.j a.Wilds,.j a.Guards,.j a.Close,.j a.Freeze,.mp true (b.map λp:Int×aD=>(VI p.1,aG p.2)),.sl 1 (s.map aE),.k g,.sl 1 (c.map aE),.sl 1 (e.map aE),.j j,.j o]) (lU 4 rfl rfl (dvc (.same _) (dvc (.same _) (dvc (.same _) (dvc (.same _) (dvc (.same _) (dvc (aHi (kv:=VI) (av:=(λv:aD=>AV.agg (aG v))) (l:=b) (enc:=aG) (agg:=true) 0 rfl (λh=>by cases h) (λ_=>rfl)) (dvc (cI 1 rfl (bN (f:=aE) λ_=>rfl)) (dvc (.same _) (dvc (cI 2 rfl (bN (f:=aE) λ_=>rfl)) (dvc (cI 3 rfl (bN (f:=aE) λ_=>rfl)) (dvc (.same _) (dvc (.same _) dvn))))))))))))) (kN (k:=6) (v:=.cp [.j a.Places,.j a.Wilds,.j a.Guards,.j a.Close,.j a.Freeze,.mp true (b.map λp:Int×aD=>(VI p.1,aG p.2)),.sl 1 (s.map aE),.k g,.sl 1 (c.map aE),.sl 1 (e.map aE),.j j,.j o]) (lU 4 rfl rfl (dvc (.same _) (dvc (.same _) (dvc (.same _) (dvc (.same _) (dvc (.same _) (dvc (aHi (kv:=VI) (av:=(λv:aD=>AV.agg (aG v))) (l:=b) (enc:=aG) (agg:=true) 0 rfl (λh=>by cases h) (λ_=>rfl)) (dvc (cI 1 rfl (bN (f:=aE) λ_=>rfl)) (dvc (.same _) (dvc (cI 2 rfl (bN (f:=aE) λ_=>rfl)) (dvc (cI 3 rfl (bN (f:=aE) λ_=>rfl)) (dvc (.same _) (dvc (.same _) dvn))))))))))))) (aCp _ _)));obtain rfl:=sIn h;refine dA (jM (kA (l:=[6]) (ae rfl))) ?_;exact rt

theorem aYc(c:fW)(a:List aT)(e:Int)(b:Int){r:(Option bZ)×Int}(h:aHo c a e b=some r):Fn Tryz.prog 49 [.agg (dM c),.d (.sl 5 (a.map aH)),.i e,.i b] (.tup [cK cW r.1,.i r.2]):=by
 unfold aHo at h;refine oT [.tmp 8,.tmp 9] func49 results49 ntmps49 ?_;refine aO (aL ?_);refine aZ rfl (eP (v:=.agg (dM c)) (aA rfl) rfl rfl rfl) ?_;rintro _ ⟨b1,rfl⟩;refine ta (cK cW (none:Option bZ)) (au 5 ?_);refine to (sla 0 (dM c) rfl rfl aGa) (tm (.d (.sl 5 (a.map aH))) ?_);obtain⟨r2,h3,h⟩:=bns h;refine to (scr call62 (aAz _ _ h3)) (au 7 ?_);refine tih h (λc4 h=>?_) (λc4 h=>?_)
 ·refine aO ?_;cases h
 ·refine au 5 ?_;obtain⟨r5,h6,h⟩:=bns h;refine to (scr call91 (fO _ _ _ h6)) (au 2 ?_);obtain⟨b7,h8,h⟩:=bns h;refine eD 4 [1,2,4] 24 b7 ?_ ?_
  ·refine bch h8 (λf h8=>?_) (λf h8=>?_)
   ·refine au 4 ?_;obtain rfl:=sIn h8;refine aM (bX rfl (ae rfl) rfl)
   ·refine tk f (sm (.i b)) ?_;obtain⟨m,g,h8⟩:=bns h8;refine tk f (scr call91 (fO _ _ _ g)) (au 2 ?_);obtain rfl:=sIn h8;refine aM (bX rfl (ae rfl) rfl)
  ·refine aM ?_;refine tih h (λc9 h=>?_) (λc9 h=>?_)
   ·refine aO ?_;cases h
   ·refine au 3 ?_;refine to (sla 0 (dM c) rfl rfl aGa) (au 2 ?_);obtain⟨j,k,h⟩:=bns h;refine to (oS (aA rfl) (.func _ _ call92) rfl rfl (aVx _ _ _ k)) ?_;refine ta (cK cW j) (au 2 ?_);obtain rfl:=sIn h;refine dA (jM (kA (l:=[8,9]) (ae rfl))) ?_;exact bP ⟨rfl,_,.two _ _,rfl,rfl⟩

theorem oH(a:bZ){r:Int}(h:pR a=some r):Fn Tryz.prog 52 [.cp (cW a)] (.i r):=by
 unfold pR at h;refine fnx xT {} [.tmp 2] func52 results52 ntmps52 ?_;refine⟨by kernel_rfl,?_⟩;refine⟨by kernel_rfl,?_⟩;cases h;exact⟨rfl,rfl,rfl⟩

theorem aJq(e:bZ)(c:List Int){r:Int}(h:uL e c=some r):Fn Tryz.prog 191 [.cp (cW e),.d (.sl 1 (c.map aE))] (.i r):=by
 unfold uL at h;refine oT [.tmp 4] func191 results191 ntmps191 ?_;refine au 12 ?_;refine eQ (S:=Int×Int) [0,7,8] (λs1=>[(4,.i s1.1),(9,.i s1.2)]) (λs1=>[]) (λk s1=>kF e c (c.length:Int) k s1.1 s1.2) (λ_=>rfl) (0,0) h (aW [] rfl rfl (aQ rfl (aQ rfl (bA (ae rfl))))) ?_;rintro k2 ⟨b,f⟩ h;simp only[kF] at h;refine au 5 ?_;refine tih h (λc3 h=>?_) (λc3 h=>?_)
 ·refine au 5 ?_;obtain⟨x4,h5,h⟩:=bns h;refine to (six rfl rfl fH.of (dI aE h5)) (au 6 ?_);refine to (eB (aA rfl) rfl) ?_;refine to (sfc [.mp true (e.players.map λp:Int×aD=>(VI p.1,aG p.2))] rfl nL) (au 2 ?_);refine to (sD (enc:=aG) (agg:=true) (l:=e.players) (z:=Z0) (a:=x4) (aA rfl) sP underlying131 zeroValue262 (λ_ _=>.agg (mA rfl)) rfl rfl rfl rfl (cC (kv:=VI) x4)) ?_;refine to (aFu (aA rfl) rfl runUnderlying262 rfl aRg rfl) ?_;refine aM ?_;refine tih h (λc6 h=>?_) (λc6 h=>?_)
  ·refine au 4 ?_;refine jW ?_;refine au 4 ?_;exact⟨(w64 (b+1),w64 (f+1)),h,aW [] rfl rfl (aQ rfl (aQ rfl (bA (ae rfl))))⟩
  ·refine gW ?_;refine au 4 ?_;exact⟨(b,w64 (f+1)),h,aW [] rfl rfl (aQ rfl (aQ rfl (bA (ae rfl))))⟩
 ·refine dO ?_;refine .inl ⟨rfl,?_⟩;simp only[wX] at h;refine au 5 ?_;obtain rfl:=sIn h;exact rt

theorem aHm(c:List (Int×aD))(d:Int){r:Bool}{f g j k m o q s t u e:D}(h:iJ c d=some r):Fn Tryz.prog 194 [.cp [f,g,j,k,m,.mp true (c.map λp:Int×aD=>(VI p.1,aG p.2)),o,q,s,t,u,e],.i d] (.b r):=by
 unfold iJ at h;refine oT [.tmp 4] func194 results194 ntmps194 ?_;refine au 7 ?_;refine to (eB (aA rfl) rfl) ?_;refine to (sfc [.mp true (c.map λp:Int×aD=>(VI p.1,aG p.2))] rfl nL) (au 2 ?_);refine to (sD (enc:=aG) (agg:=true) (l:=c) (z:=Z0) (a:=d) (aA rfl) sP underlying131 zeroValue262 (λ_ _=>.agg (mA rfl)) rfl rfl rfl rfl (cC (kv:=VI) d)) ?_;refine aZ rfl (cF (zs:=[.k false,.k false,.j 0,.j 0,.k false,.k false,.k false,.k false]) (aA rfl) zeroValue262 rfl rfl) ?_;rintro _ ⟨b1,rfl⟩;refine to (sst 0 rfl rfl sizeOf262 (aG (aR d Z0 c))) (au 6 ?_);obtain⟨b2,h3,h⟩:=bns h;refine eD 4 [5] 18 b2 ?_ ?_
 ·refine bch h3 (λc7 h3=>?_) (λc7 h3=>?_)
  ·refine au 4 ?_;obtain rfl:=sIn h3;refine aM (bX rfl (ae rfl) rfl)
  ·refine au 4 ?_;obtain rfl:=sIn h3;refine aM (bX rfl (ae rfl) rfl)
 ·refine tm (.b b2) ?_;obtain⟨b4,h5,h⟩:=bns h;refine eD 4 [] 23 b4 ?_ ?_
  ·refine bch h5 (λc6 h5=>?_) (λc6 h5=>?_)
   ·refine au 4 ?_;obtain rfl:=sIn h5;refine aM (bX rfl trivial rfl)
   ·refine au 4 ?_;obtain rfl:=sIn h5;refine aM (bX rfl trivial rfl)
  ·refine au 2 ?_;obtain rfl:=sIn h;refine dA (jM (kA (l:=[4]) (ae rfl))) ?_;exact rt

theorem aGt(x:List Int)(cmp:Int->Int->Option Int){r:List Int}{x_v:Value}{e:TypeId}(f:Nat)(v:List AV)(he:∀args w,(callFunc f args).run Tryz.prog w=.ok (.enter f args) w)(hh:∀x0 x1 r,cmp x0 x1=some r->FnS Tryz.prog f ([.i x0,.i x1]++v) (.i r))(h:sL x cmp=some r):bI Tryz.prog 195 [.d (.lit x_v),.fn f v] [.arr x_v e 1 (x.map aE)] (λr' o'=>r'=.tup []/\o'=[.arr x_v e 1 (r.map aE)]):=bJp (λenc h1 cf hO g cb blk off cap d w=>Tryz.slices_SortFunc_total enc h1 cf hO g cb blk off cap d w) (λp cap fv w=>Tryz.slices_SortFunc_none (α:=Int) p cap fv w) he hh h

theorem tF[md:Mode](a:aD){r:Int}(h:lV a=some r):Fn Tryz.prog 197 [.agg (aG a)] (.i r):=by
 unfold lV at h;refine fnx xT {} [.tmp 2] func197 results197 ntmps197 ?_;refine br h (λh=>?_) λh=>?_
 ·cases h;exact⟨rfl,rfl,rfl⟩
 ·cases h;exact⟨rfl,rfl,rfl⟩

theorem aFf[md:Mode](e:Int)(g:Int)(c:bZ){r:Int}(h:kE e g c=some r):Fn Tryz.prog 196 [.i e,.i g,.cp [.pt (cW c)]] (.i r):=by
 unfold kE at h;refine oT [.tmp 5] func196 results196 ntmps196 ?_;refine au 5 ?_;refine kX mix 15 [] (λX1=>[(6,.bp (X1 12).b 0 0),(7,.bp (X1 13).b 0 0),(20,.agg (aG (Z20 g c)))]) (λX1=>[.box (X1 12).b 0 (aG (Z20 e c)),.box (X1 13).b 0 (aG Z0)]) ?_ ?_
 ·refine⟨2,λX1=>[(9,0,.cp [.j c.Field.Places,.j c.Field.Wilds,.j c.Field.Guards,.j c.Field.Close,.j c.Field.Freeze,.mp true (c.players.map λp:Int×aD=>(VI p.1,aG p.2)),.sl 1 (c.wilds.map aE),.k c.frozen,.sl 1 (c.first.map aE),.sl 1 (c.late.map aE),.j c.more,.j c.entered]),(10,1,.cp [.j c.Field.Places,.j c.Field.Wilds,.j c.Field.Guards,.j c.Field.Close,.j c.Field.Freeze,.mp true (c.players.map λp:Int×aD=>(VI p.1,aG p.2)),.sl 1 (c.wilds.map aE),.k c.frozen,.sl 1 (c.first.map aE),.sl 1 (c.late.map aE),.j c.more,.j c.entered]),(11,2,.cp [.mp true (c.players.map λp:Int×aD=>(VI p.1,aG p.2))]),(12,3,.d (.mp true (c.players.map λp:Int×aD=>(VI p.1,aG p.2)))),(13,4,.i e),(14,5,.agg (aG (Z20 e c))),(15,6,.cp [.j c.Field.Places,.j c.Field.Wilds,.j c.Field.Guards,.j c.Field.Close,.j c.Field.Freeze,.mp true (c.players.map λp:Int×aD=>(VI p.1,aG p.2)),.sl 1 (c.wilds.map aE),.k c.frozen,.sl 1 (c.first.map aE),.sl 1 (c.late.map aE),.j c.more,.j c.entered]),(16,7,.cp [.j c.Field.Places,.j c.Field.Wilds,.j c.Field.Guards,.j c.Field.Close,.j c.Field.Freeze,.mp true (c.players.map λp:Int×aD=>(VI p.1,aG p.2)),.sl 1 (c.wilds.map aE),.k c.frozen,.sl 1 (c.first.map aE),.sl 1 (c.late.map aE),.j c.more,.j c.entered]),(17,8,.cp [.mp true (c.players.map λp:Int×aD=>(VI p.1,aG p.2))]),(18,9,.d (.mp true (c.players.map λp:Int×aD=>(VI p.1,aG p.2)))),(19,10,.i g),(20,11,.agg (aG (Z20 g c))),(6,12,.bp (X1 12).b 0 0),(7,13,.bp (X1 13).b 0 0)],λX1=>[([(14,.box (X1 12).b 0 (aG (Z20 e c))),(12,.box (X1 12).b 0 (aG Z0))],nob),([(13,.box (X1 13).b 0 (aG Z0))],nob)],?_,?_⟩
  · exact xok [(0,15),(1,15),(2,15),(3,15),(0,15),(405,15),(0,0),(7,0),(8,0),(9,0),(0,0),(1011,0),(0,15),(0,15),(61314,0)] ⟨λ_ _ w _ k=>xp w (aLq (.ptc _) (cG (aA rfl) (aK k rfl) aMp)),
 λ_ _ w _ k=>xp w (eB (aA rfl) (aK k rfl)),
 λ_ _ w _ k=>xp w (yfc k [.mp true (c.players.map λp:Int×aD=>(VI p.1,aG p.2))] rfl nL),
 λ_ _ w _ k=>xp w (ylc k rfl uB),
 λ_ _ w _ k=>xp w (ym k (.i e)),
 λ_ _ w _ k=>xp w (sD (enc:=aG) (agg:=true) (l:=c.players) (z:=Z0) (a:=e) (aA rfl) sP underlying131 zeroValue262 (λ_ _=>.agg (mA rfl)) (aK k rfl) rfl rfl (aK k rfl) (cC (kv:=VI) e)),
 λ_ _ w _ k=>xp w (aLq (.ptc _) (cG (aA rfl) (aK k rfl) aMp)),
 λ_ _ w _ k=>xp w (eB (aA rfl) (aK k rfl)),
 λ_ _ w _ k=>xp w (yfc k [.mp true (c.players.map λp:Int×aD=>(VI p.1,aG p.2))] rfl nL),
 λ_ _ w _ k=>xp w (ylc k rfl uB),
 λ_ _ w _ k=>xp w (ym k (.i g)),
 λ_ _ w _ k=>xp w (sD (enc:=aG) (agg:=true) (l:=c.players) (z:=Z0) (a:=g) (aA rfl) sP underlying131 zeroValue262 (λ_ _=>.agg (mA rfl)) (aK k rfl) rfl rfl (aK k rfl) (cC (kv:=VI) g)),
 λX1 S hw hi hS=>tU (X:=X1) (p:=0) (v:=λx=>.bp x.b 0 0) (mo:=λx=>.box x.b 0 (aG Z0)) hS hi rfl rfl (λ_=>rfl) hw (λ_=>rfl) (λ_=>rfl) (λ_=>rfl) (λ_=>⟨rfl,rfl,.inr rfl,⟨rfl,rfl,.inr rfl,⟨rfl,rfl,.inr rfl,⟨rfl,rfl,.inr rfl,⟨rfl,rfl,.inr rfl,⟨rfl,rfl,.inr rfl,⟨rfl,rfl,.inr rfl,⟨rfl,rfl,.inr rfl,⟨rfl,rfl,.inr rfl,⟨rfl,rfl,.inr rfl,⟨rfl,rfl,.inr rfl,⟨rfl,rfl,.inr rfl,⟨rfl,rfl,.inl rfl,⟨rfl,rfl,.inr rfl,trivial⟩⟩⟩⟩⟩⟩⟩⟩⟩⟩⟩⟩⟩⟩) (λ_=>⟨⟨rfl,.inl rfl,⟨rfl,.inl rfl,trivial⟩⟩,rfl,⟨⟨rfl,.inr rfl,trivial⟩,rfl,trivial⟩⟩) (kW (cF (zs:=[.k false,.k false,.j 0,.j 0,.k false,.k false,.k false,.k false]) (aA rfl) zeroValue262 rfl rfl) (by rintro _ ⟨w,rfl⟩;exact⟨⟨w,undef⟩,aW [2,1] rfl rfl (le_refl _)⟩)),
 λX1 S hw hi hS=>tU (X:=X1) (p:=1) (v:=λx=>.bp x.b 0 0) (mo:=λx=>.box x.b 0 (aG Z0)) hS hi rfl rfl (λ_=>rfl) hw (λ_=>rfl) (λ_=>rfl) (λ_=>rfl) (λ_=>⟨rfl,rfl,.inr rfl,⟨rfl,rfl,.inr rfl,⟨rfl,rfl,.inr rfl,⟨rfl,rfl,.inr rfl,⟨rfl,rfl,.inr rfl,⟨rfl,rfl,.inr rfl,⟨rfl,rfl,.inr rfl,⟨rfl,rfl,.inr rfl,⟨rfl,rfl,.inr rfl,⟨rfl,rfl,.inr rfl,⟨rfl,rfl,.inr rfl,⟨rfl,rfl,.inr rfl,⟨rfl,rfl,.inr rfl,⟨rfl,rfl,.inl rfl,trivial⟩⟩⟩⟩⟩⟩⟩⟩⟩⟩⟩⟩⟩⟩) (λ_=>⟨⟨rfl,.inr rfl,⟨rfl,.inr rfl,trivial⟩⟩,rfl,⟨⟨rfl,.inl rfl,trivial⟩,rfl,trivial⟩⟩) (kW (cF (zs:=[.k false,.k false,.j 0,.j 0,.k false,.k false,.k false,.k false]) (aA rfl) zeroValue262 rfl rfl) (by rintro _ ⟨w,rfl⟩;exact⟨⟨w,undef⟩,aW [0,2] rfl rfl (le_refl _)⟩)),
 λ_ _ _ _ k=>xs 0 k rfl rfl (cV (i:=0) (aK k rfl) (og k rfl rfl) (aK k rfl) rfl rfl sizeOf262 rfl (aA rfl) (Nat.le_of_ble_eq_true rfl) (ds':=(aG (Z20 e c))) rfl),trivial⟩
  · exactλX1=>cP (aQ rfl (aQ rfl (aQ rfl (bA trivial))))
 ·intro X1;refine to (sst 1 rfl rfl sizeOf262 (aG (Z20 g c))) (au 3 ?_);refine ta (.fn 197 []) (aM (aO ?_));obtain⟨r2,h3,h⟩:=bns h;obtain⟨r4,h5,h⟩:=bns h;refine dX mix 17 [] [(27,.i (w64 (r2-r4))),(32,.i (w64 (((Z20 e c).rank)-((Z20 g c).rank)))),(37,.i (w64 (((Z20 e c).turn)-((Z20 g c).turn))))] ?_ ?_
  ·refine⟨[(21,0,.fn 197 []),(22,1,.agg (aG (Z20 e c))),(23,2,.i r2),(24,3,.fn 197 []),(25,4,.agg (aG (Z20 g c))),(26,5,.i r4),(27,6,.i (w64 (r2-r4))),(28,7,.bp (X1 12).b 0 2),(29,8,.i ((Z20 e c).rank)),(30,9,.bp (X1 13).b 0 2),(31,10,.i ((Z20 g c).rank)),(32,11,.i (w64 (((Z20 e c).rank)-((Z20 g c).rank)))),(33,12,.bp (X1 12).b 0 3),(34,13,.i ((Z20 e c).turn)),(35,14,.bp (X1 13).b 0 3),(36,15,.i ((Z20 g c).turn)),(37,16,.i (w64 (((Z20 e c).turn)-((Z20 g c).turn))))],?_,?_⟩
   · exact dk [0,0,102,0,0,405,306,0,8,0,10,911,0,13,0,15,1416] ⟨go (zm (.fn 197 [])),
 go (zla 0 (aG (Z20 e c)) rfl rfl aMc),
 go λS hS=>fV (aA rfl) (.clo _ _ _ _ call197 (rG hS rfl)) (sG (ev2 (aK hS rfl) evn)) rfl (BVs.refl _ _) (tF _ h3) rfl,
 go (zm (.fn 197 [])),
 go (zla 1 (aG (Z20 g c)) rfl rfl aMc),
 go λS hS=>fV (aA rfl) (.clo _ _ _ _ call197 (rG hS rfl)) (sG (ev2 (aK hS rfl) evn)) rfl (BVs.refl _ _) (tF _ h5) rfl,
 go (zar rfl rfl rfl),
 go (zf rfl aKp),
 go (zl 0 rfl rfl rfl dG),
 go (zf rfl aKp),
 go (zl 1 rfl rfl rfl dG),
 go (zar rfl rfl rfl),
 go (zf rfl aKq),
 go (zl 0 rfl rfl rfl dG),
 go (zf rfl aKq),
 go (zl 1 rfl rfl rfl dG),
 go (zar rfl rfl rfl),trivial⟩
   · exact cP (aQ rfl (aQ rfl (aQ rfl (bA trivial))))
  ·refine to (lL (aA rfl) fH rfl rfl (rows:=([w64 (r2-r4),w64 (((Z20 e c).rank)-((Z20 g c).rank)),w64 (((Z20 e c).turn)-((Z20 g c).turn))]).map aE) rfl (bN (f:=aE) λ_=>rfl) rfl (by decide)) ?_;obtain⟨r6,h7,h⟩:=bns h;refine to (scr call186 (aKh _ h7)) (au 2 ?_);obtain rfl:=sIn h;refine dA (jM (kA (l:=[5]) (ae rfl))) ?_;exact rt

theorem aGf(a:bZ){Q:(List Int)->Prop}(h:pC a Q):bI Tryz.prog 96 [.cp (cW a)] [] (λr' o'=>∃(r:(List Int)) (w0:Value),Q r/\r'=.d (.lit w0)/\o'=[.arr w0 3 1 (r.map aE)]):=by
 unfold pC at h;refine cB func96 rfl (rs:=[.tmp 2]) results96 ntmps96 (Nat.le_of_ble_eq_true rfl) ?_;refine aO (aL ?_);refine cL (bRm 0 rfl (.cpt _)) ?_;refine aZ rfl (eP (v:=.d (.pt (cW a))) (aA rfl) rfl rfl rfl) ?_;rintro _ ⟨b1,rfl⟩;refine to (eZ 3 1 (.inl rfl) (aA rfl)) ?_;refine au 3 ?_;refine to (eZ 3 1 (.inl rfl) (aA rfl)) ?_;refine au 4 ?_;refine to (aLq (.ptc _) (kV (aA rfl) rfl (i:=0) rfl rfl aMp)) ?_;refine to (eB (aA rfl) rfl) ?_;refine to (sfc [.mp true (a.players.map λp:Int×aD=>(VI p.1,aG p.2))] rfl nL) (to (slc rfl uB) ?_);refine aZ rfl (bFo (kv:=VI) (enc:=aG) (agg:=true) (l:=a.players) (av:=(λv:aD=>AV.agg (aG v))) (λ_=>rfl) (aA rfl) underlying131 rfl rfl) ?_;rintro _ ⟨q4,r5,m,c,h8,rfl⟩;have h:=aDc h h8;refine aM (qQ ?_);refine vQ [1,9] (λ(g:(List Int)×Value×(List Nat))=>[(3,.d (.lit g.2.1))]) (λ(g:(List Int)×Value×(List Nat))=>[.box b1 0 [.pt (cW a)],.arr g.2.1 3 1 (g.1.map aE),zJ VI (λv:aD=>AV.agg (aG v)) a.players r5 m c,.iter q4 r5 c g.2.2 c]) (λ(k:Nat) (g:(List Int)×Value×(List Nat))=>fM Q a k g.1 (jY a.players m g.2.2)) (λ_ h=>h) (([]:List Int),(.slice none 0 0),[]) h (aW [0,2,3,4] rfl rfl (aQ rfl (bA (ae rfl)))) ?_;rintro H ⟨b,j,e⟩ h;simp only[fM] at h;refine aO (aL ?_);refine aZ rfl (bJf (kv:=VI) (av:=(λv:aD=>AV.agg (aG v))) (l:=a.players) (mi:=3) (mm:=2) (aA rfl) rfl rfl rfl) ?_;rintro _ (⟨y,rfl⟩|⟨I,q,o,s,rfl⟩)
 ·have h:=h.1 y;refine au 3 ?_;refine iY rfl (λt=>?_) (λt=>?_)
  ·exact absurd t (by decide)
  ·refine dO ?_;refine .inl ⟨rfl,?_⟩;simp only[mP] at h;refine au 3 ?_;refine to (aLp (aA rfl) rfl rfl) ?_;refine cL (aW [1,2,3,0] rfl rfl (le_refl _)) ?_;apply bDl [.arr j 3 1 (b.map aE),zJ VI (λv:aD=>AV.agg (aG v)) a.players r5 m c,.iter q4 r5 c e c] [.box b1 0 [.pt (cW a)]] rfl;exact kN (k:=22) (v:=.fn 196 [.cp [.pt (cW a)]]) (aMd (.cons (lU 0 rfl rfl (dvc (.same _) dvn)) .nil)) (kN (k:=1) (v:=.cp [.pt (cW a)]) (lU 0 rfl rfl (dvc (.same _) dvn)) (aCp _ _));obtain⟨u,z,h⟩:=fB h;refine aZ rfl (gM (passed:=[.arr j 3 1 (b.map aE)]) (aA rfl) rfl (.func _ _ call195) rfl rfl (aGt b (λA B=>kE A B a) 196 [.cp [.pt (cW a)]] call196 (λ_ _ _ h=>aFf (md:=aGu) _ _ a h) z)) ?_;rintro _ ⟨_,_,⟨rfl,rfl⟩,rfl⟩;refine au 6 ?_;exact bP ⟨rfl,_,[.arr j 3 1 (u.map aE)],[zJ VI (λv:aD=>AV.agg (aG v)) a.players r5 m c,.iter q4 r5 c e c],_,.one (.tmp 2 (v:=.d (.lit j)) rfl),.refl _,.same _,u,j,h,rfl,rfl⟩
 ·have h:=aFj h s;refine au 3 ?_;refine iY rfl (λw=>?_) (λw=>?_)
  ·refine au 4 ?_;refine to (bFl (kv:=VI) (av:=(λv:aD=>AV.agg (aG v))) (l:=a.players) (mi:=3) (mm:=2) (ka:=.i o.1) (aA rfl) rfl rfl rfl s (λ_ _=>.d (.lit _ rfl))) ?_;refine au 5 ?_;refine to (aLq (.ptc _) (kV (aA rfl) rfl (i:=0) rfl rfl aMp)) ?_;refine tm (.i o.1) ?_;obtain⟨J,C,h⟩:=fB h;refine to (scr call194 (aHm _ _ C)) (aM ?_);refine tip h (λE h=>?_) (λE h=>?_)
   ·refine au 3 ?_;refine to (lL (aA rfl) fH rfl rfl (rows:=([o.1]).map aE) rfl (bN (f:=aE) λ_=>rfl) rfl (by decide)) ?_;obtain⟨F,G,h⟩:=fB h;refine aZ rfl (iW (i:=1) (aA rfl) fH rfl rfl rfl (λ_=>rfl) G rfl) ?_;rintro _ ⟨x,rfl⟩;refine ta (.d (.lit x)) ?_;refine jW ?_;exact⟨(F,x,(e++[q])),h,aW [0,1,2,3] rfl rfl (aQ rfl (bA (ae rfl)))⟩
   ·refine gW ?_;exact⟨(b,j,(e++[q])),h,aW [0,1,2,3] rfl rfl (aQ rfl (bA (ae rfl)))⟩
  ·exact absurd w (by decide)

theorem vZ(a0:bZ){r:List Int}(h:mM a0=some r):bI Tryz.prog 96 (Z12 a0) [] (λr' o'=>∃w0,r'=.d (.lit w0)/\o'=[.arr w0 3 1 (r.map aE)]):=bIq (enc:=λx:List Int=>x.map aE) (aGf a0 (aFg a0 h (λx=>x=r) rfl))
theorem aHl(a0:bZ){r:List Int}(h:mM a0=some r):Fn Tryz.prog 96 (Z12 a0) (.d (.sl 1 (r.map aE))):=bHr (vZ a0 h)

theorem aHn(c:bZ){r:(List Int)}(h:uM c=some r):bI Tryz.prog 93 [.cp (cW c)] [] (λr' o'=>∃(w0:Value),r'=.d (.lit w0)/\o'=[.arr w0 3 1 (r.map aE)]):=by
 unfold uM at h;refine cB func93 rfl (rs:=[.tmp 2]) results93 ntmps93 (Nat.le_of_ble_eq_true rfl) ?_;refine aO (aL (to (eZ 3 1 (.inl rfl) (aA rfl)) ?_));refine au 3 ?_;refine to (eZ 3 1 (.inl rfl) (aA rfl)) ?_;refine au 5 ?_;obtain⟨r3,h4,h⟩:=bns h;refine to (oS (aA rfl) (.func _ _ call96) rfl rfl (aHl _ h4)) ?_;refine au 4 ?_;refine eQ (S:=Int×(List Int)×Value) [0,7,8] (λs5=>[(3,.d (.lit s5.2.2)),(9,.i s5.1)]) (λs5=>[.arr s5.2.2 3 1 (s5.2.1.map aE)]) (λk s5=>kG c r3 (r3.length:Int) k s5.1 s5.2.1) (λ_=>rfl) (0,([]:List Int),(.slice none 0 0)) h (aW [1] rfl rfl (aQ rfl (aQ rfl (bA (ae rfl))))) ?_;rintro k7 ⟨u,e,w6⟩ h;simp only[kG] at h;refine au 5 ?_;refine tih h (λc8 h=>?_) (λc8 h=>?_)
 ·refine au 5 ?_;obtain⟨x9,y,h⟩:=bns h;refine to (six rfl rfl fH.of (dI aE y)) (au 4 ?_);obtain⟨o,w,h⟩:=bns h;obtain⟨A,q,h⟩:=bns h;refine dX mix 26 [0,3,5,7,8,9] [(38,.b A)] ?_ ?_
  ·refine bch q (λg q=>?_) (λg q=>?_)
   ·obtain⟨G,s,q⟩:=bns q;refine bch s (λj s=>?_) (λj s=>?_)
    ·obtain rfl:=sIn s;obtain rfl:=sIn q;refine⟨[(13,0,.d (.lit w6)),(14,1,.i (e.length:Int)),(15,2,.cp [.j c.Field.Places,.j c.Field.Wilds,.j c.Field.Guards,.j c.Field.Close,.j c.Field.Freeze,.mp true (c.players.map λp:Int×aD=>(VI p.1,aG p.2)),.sl 1 (c.wilds.map aE),.k c.frozen,.sl 1 (c.first.map aE),.sl 1 (c.late.map aE),.j c.more,.j c.entered]),(16,3,.i o),(17,4,.b (decide ((e.length:Int)<o))),(18,5,.b (decide ((e.length:Int)<o))),(19,6,.cp [.j c.Field.Places,.j c.Field.Wilds,.j c.Field.Guards,.j c.Field.Close,.j c.Field.Freeze,.mp true (c.players.map λp:Int×aD=>(VI p.1,aG p.2)),.sl 1 (c.wilds.map aE),.k c.frozen,.sl 1 (c.first.map aE),.sl 1 (c.late.map aE),.j c.more,.j c.entered]),(20,7,.cp [.j c.Field.Places,.j c.Field.Wilds,.j c.Field.Guards,.j c.Field.Close,.j c.Field.Freeze,.mp true (c.players.map λp:Int×aD=>(VI p.1,aG p.2)),.sl 1 (c.wilds.map aE),.k c.frozen,.sl 1 (c.first.map aE),.sl 1 (c.late.map aE),.j c.more,.j c.entered]),(21,8,.cp [.mp true (c.players.map λp:Int×aD=>(VI p.1,aG p.2))]),(22,9,.d (.mp true (c.players.map λp:Int×aD=>(VI p.1,aG p.2)))),(23,10,.i x9),(24,11,.agg (aG (aR x9 Z0 c.players))),(25,12,.b ((aR x9 Z0 c.players).guard)),(26,13,.b (!((aR x9 Z0 c.players).guard))),(27,14,.b (!((aR x9 Z0 c.players).guard))),(28,15,.tup []),(29,16,.tup []),(30,17,.tup []),(31,18,.tup []),(32,19,.tup []),(33,20,.tup []),(34,21,.tup []),(35,22,.tup []),(36,23,.tup []),(37,24,.b true),(38,25,.b (true))],?_,?_⟩
     · exact dk [0,1,0,3,204,5,6,607,608,609,6,61011,612,613,614,15,15,151617,15,1519,1520,1521,1522,151823,61524,625] ⟨go (zm (.d (.lit w6))),
 go λS hS=>nG (m:=0) (aA rfl) (aK hS rfl) rfl fH.of,
 go (zm (Z2 c)),
 go λS hS=>fV (aA rfl) (.func _ _ call52) (ev2 (aK hS rfl) evn) rfl (BVs.refl _ _) (oH _ w) rfl,
 go (zcm rfl rfl rfl),
 go (zm (.b (decide ((e.length:Int)<o)))),
 gt g (zm (Z2 c)),
 gt g λS hS=>eB (aA rfl) (aK hS rfl),
 gt g (zfc [.mp true (c.players.map λp:Int×aD=>(VI p.1,aG p.2))] rfl nL),
 gt g (zlc rfl uB),
 gt g (zm (.i x9)),
 gt g λS hS=>sD (enc:=aG) (agg:=true) (l:=c.players) (z:=Z0) (a:=x9) (aA rfl) sP underlying131 zeroValue262 (λ_ _=>.agg (mA rfl)) (aK hS rfl) rfl rfl (aK hS rfl) (cC (kv:=VI) x9),
 gt g λS hS=>aFu (aA rfl) (aK hS rfl) runUnderlying262 rfl aRg rfl,
 gt g (zn rfl),
 gt g (zm (.b (!((aR x9 Z0 c.players).guard)))),
 gp j,
 gp j,
 gp j,
 gp j,
 gp j,
 gp j,
 gp j,
 gp j,
 gp j,
 gt g (zpt (.b true) j),
 go (zpt (.b (true)) g),trivial⟩
     · exact cP (aQ rfl (bA (ae rfl)))
    ·obtain⟨t,B,s⟩:=bns s;obtain rfl:=sIn s;obtain rfl:=sIn q;refine⟨[(13,0,.d (.lit w6)),(14,1,.i (e.length:Int)),(15,2,.cp [.j c.Field.Places,.j c.Field.Wilds,.j c.Field.Guards,.j c.Field.Close,.j c.Field.Freeze,.mp true (c.players.map λp:Int×aD=>(VI p.1,aG p.2)),.sl 1 (c.wilds.map aE),.k c.frozen,.sl 1 (c.first.map aE),.sl 1 (c.late.map aE),.j c.more,.j c.entered]),(16,3,.i o),(17,4,.b (decide ((e.length:Int)<o))),(18,5,.b (decide ((e.length:Int)<o))),(19,6,.cp [.j c.Field.Places,.j c.Field.Wilds,.j c.Field.Guards,.j c.Field.Close,.j c.Field.Freeze,.mp true (c.players.map λp:Int×aD=>(VI p.1,aG p.2)),.sl 1 (c.wilds.map aE),.k c.frozen,.sl 1 (c.first.map aE),.sl 1 (c.late.map aE),.j c.more,.j c.entered]),(20,7,.cp [.j c.Field.Places,.j c.Field.Wilds,.j c.Field.Guards,.j c.Field.Close,.j c.Field.Freeze,.mp true (c.players.map λp:Int×aD=>(VI p.1,aG p.2)),.sl 1 (c.wilds.map aE),.k c.frozen,.sl 1 (c.first.map aE),.sl 1 (c.late.map aE),.j c.more,.j c.entered]),(21,8,.cp [.mp true (c.players.map λp:Int×aD=>(VI p.1,aG p.2))]),(22,9,.d (.mp true (c.players.map λp:Int×aD=>(VI p.1,aG p.2)))),(23,10,.i x9),(24,11,.agg (aG (aR x9 Z0 c.players))),(25,12,.b ((aR x9 Z0 c.players).guard)),(26,13,.b (!((aR x9 Z0 c.players).guard))),(27,14,.b (!((aR x9 Z0 c.players).guard))),(28,15,.cp [.j c.Field.Places,.j c.Field.Wilds,.j c.Field.Guards,.j c.Field.Close,.j c.Field.Freeze,.mp true (c.players.map λp:Int×aD=>(VI p.1,aG p.2)),.sl 1 (c.wilds.map aE),.k c.frozen,.sl 1 (c.first.map aE),.sl 1 (c.late.map aE),.j c.more,.j c.entered]),(29,16,.d (.lit w6)),(30,17,.i t),(31,18,.cp [.j c.Field.Places,.j c.Field.Wilds,.j c.Field.Guards,.j c.Field.Close,.j c.Field.Freeze,.mp true (c.players.map λp:Int×aD=>(VI p.1,aG p.2)),.sl 1 (c.wilds.map aE),.k c.frozen,.sl 1 (c.first.map aE),.sl 1 (c.late.map aE),.j c.more,.j c.entered]),(32,19,.cp [.j c.Field.Places,.j c.Field.Wilds,.j c.Field.Guards,.j c.Field.Close,.j c.Field.Freeze,.mp true (c.players.map λp:Int×aD=>(VI p.1,aG p.2)),.sl 1 (c.wilds.map aE),.k c.frozen,.sl 1 (c.first.map aE),.sl 1 (c.late.map aE),.j c.more,.j c.entered]),(33,20,.cp [.j c.Field.Places,.j c.Field.Wilds,.j c.Field.Guards,.j c.Field.Close,.j c.Field.Freeze]),(34,21,.cp [.j c.Field.Guards]),(35,22,.i c.Field.Guards),(36,23,.b (decide (t<c.Field.Guards))),(37,24,.b (decide (t<c.Field.Guards))),(38,25,.b (decide (t<c.Field.Guards)))],?_,?_⟩
     · exact dk [0,1,0,3,204,5,6,607,608,609,6,61011,612,613,614,15,15,151617,15,1519,1520,1521,1522,151823,61524,625] ⟨go (zm (.d (.lit w6))),
 go λS hS=>nG (m:=0) (aA rfl) (aK hS rfl) rfl fH.of,
 go (zm (Z2 c)),
 go λS hS=>fV (aA rfl) (.func _ _ call52) (ev2 (aK hS rfl) evn) rfl (BVs.refl _ _) (oH _ w) rfl,
 go (zcm rfl rfl rfl),
 go (zm (.b (decide ((e.length:Int)<o)))),
 gt g (zm (Z2 c)),
 gt g λS hS=>eB (aA rfl) (aK hS rfl),
 gt g (zfc [.mp true (c.players.map λp:Int×aD=>(VI p.1,aG p.2))] rfl nL),
 gt g (zlc rfl uB),
 gt g (zm (.i x9)),
 gt g λS hS=>sD (enc:=aG) (agg:=true) (l:=c.players) (z:=Z0) (a:=x9) (aA rfl) sP underlying131 zeroValue262 (λ_ _=>.agg (mA rfl)) (aK hS rfl) rfl rfl (aK hS rfl) (cC (kv:=VI) x9),
 gt g λS hS=>aFu (aA rfl) (aK hS rfl) runUnderlying262 rfl aRg rfl,
 gt g (zn rfl),
 gt g (zm (.b (!((aR x9 Z0 c.players).guard)))),
 gt j (zm (Z2 c)),
 gt j (zm (.d (.lit w6))),
 gt j λS hS=>fV (aA rfl) (.func _ _ call191) (ev2 (aK hS rfl) (ev2 (aK hS rfl) evn)) rfl (.cons (.same _) (.cons (.d (cI 0 rfl (bN (f:=aE) λ_=>rfl))) .nil)) (aJq _ _ B) rfl,
 gt j (zm (Z2 c)),
 gt j λS hS=>eB (aA rfl) (aK hS rfl),
 gt j (zfc [.j c.Field.Places,.j c.Field.Wilds,.j c.Field.Guards,.j c.Field.Close,.j c.Field.Freeze] rfl aUr),
 gt j (zfc [.j c.Field.Guards] rfl bKp),
 gt j (zlc rfl dG),
 gt j (zcm rfl rfl rfl),
 gt g (zpf (.b (decide (t<c.Field.Guards))) j),
 go (zpt (.b (decide (t<c.Field.Guards))) g),trivial⟩
     · exact cP (aQ rfl (bA (ae rfl)))
   ·obtain rfl:=sIn q;refine⟨[(13,0,.d (.lit w6)),(14,1,.i (e.length:Int)),(15,2,.cp [.j c.Field.Places,.j c.Field.Wilds,.j c.Field.Guards,.j c.Field.Close,.j c.Field.Freeze,.mp true (c.players.map λp:Int×aD=>(VI p.1,aG p.2)),.sl 1 (c.wilds.map aE),.k c.frozen,.sl 1 (c.first.map aE),.sl 1 (c.late.map aE),.j c.more,.j c.entered]),(16,3,.i o),(17,4,.b (decide ((e.length:Int)<o))),(18,5,.b (decide ((e.length:Int)<o))),(19,6,.tup []),(20,7,.tup []),(21,8,.tup []),(22,9,.tup []),(23,10,.tup []),(24,11,.tup []),(25,12,.tup []),(26,13,.tup []),(27,14,.tup []),(28,15,.tup []),(29,16,.tup []),(30,17,.tup []),(31,18,.tup []),(32,19,.tup []),(33,20,.tup []),(34,21,.tup []),(35,22,.tup []),(36,23,.tup []),(37,24,.tup []),(38,25,.b false)],?_,?_⟩
    · exact dk [0,1,0,3,204,5,6,607,608,609,6,61011,612,613,614,15,15,151617,15,1519,1520,1521,1522,151823,61524,625] ⟨go (zm (.d (.lit w6))),
 go λS hS=>nG (m:=0) (aA rfl) (aK hS rfl) rfl fH.of,
 go (zm (Z2 c)),
 go λS hS=>fV (aA rfl) (.func _ _ call52) (ev2 (aK hS rfl) evn) rfl (BVs.refl _ _) (oH _ w) rfl,
 go (zcm rfl rfl rfl),
 go (zm (.b (decide ((e.length:Int)<o)))),
 gp g,
 gp g,
 gp g,
 gp g,
 gp g,
 gp g,
 gp g,
 gp g,
 gp g,
 gq,
 gq,
 gq,
 gq,
 gq,
 gq,
 gq,
 gq,
 gq,
 gp g,
 go (zpf (.b false) g),trivial⟩
    · exact cP (aQ rfl (bA (ae rfl)))
  ·refine aM ?_;refine tih h (λC h=>?_) (λC h=>?_)
   ·refine au 3 ?_;refine to (lL (aA rfl) fH rfl rfl (rows:=([x9]).map aE) rfl (bN (f:=aE) λ_=>rfl) rfl (by decide)) ?_;obtain⟨E,F,h⟩:=bns h;refine aZ rfl (iW (i:=0) (aA rfl) fH rfl rfl rfl (λ_=>rfl) F rfl) ?_;rintro _ ⟨x,rfl⟩;refine ta (.d (.lit x)) ?_;refine jW ?_;refine au 4 ?_;exact⟨(w64 (u+1),E,x),h,aW [0] rfl rfl (aQ rfl (aQ rfl (bA (ae rfl))))⟩
   ·refine gW ?_;refine au 4 ?_;exact⟨(w64 (u+1),e,w6),h,aW [0] rfl rfl (aQ rfl (aQ rfl (bA (ae rfl))))⟩
 ·refine dO ?_;refine .inl ⟨rfl,?_⟩;simp only[wY] at h;refine au 5 ?_;obtain rfl:=sIn h;exact bP ⟨rfl,_,[.arr w6 3 1 (e.map aE)],[],_,.one (.tmp 2 (v:=.d (.lit w6)) rfl),.refl _,.same _,w6,rfl,rfl⟩

theorem aBl(a:bZ){r:(List Int)}(h:sO a=some r):Fn Tryz.prog 50 [.cp (cW a)] (.d (.sl 1 (r.map aE))):=by
 unfold sO at h;refine fnx xT {} [.tmp 2] func50 results50 ntmps50 ?_;refine br h (λh=>?_) λh=>?_
 ·refine cow call93 (λ_=>aHn _) h λr1 h=>?_;cases h;exact⟨rfl,rfl,rfl⟩
 ·cases h

theorem aFx(e:List Int)(f:Int->Option Bool){r:Int}(a:Nat)(c:List AV)(g:∀args w,(callFunc a args).run Tryz.prog w=.ok (.enter a args) w)(j:∀(x0:Int) r,f x0=some r->Fn Tryz.prog a ([.i x0]++c) (.b r))(h:rP e f=some r):Fn Tryz.prog 193 [.d (.sl 1 (e.map aE)),.fn a c] (.i r):=by
 unfold rP at h;refine oT [.tmp 4] func193 results193 ntmps193 ?_;refine au 12 ?_;refine eQ (S:=Int) [0,1,7] (λs1=>[(8,.i s1)]) (λs1=>[]) (λk s1=>oM e f (e.length:Int) k s1) (λ_=>rfl) (0) h (aW [] rfl rfl (aQ rfl (bA (ae rfl)))) ?_;rintro k2 l h;simp only[oM] at h;refine au 5 ?_;refine tih h (λc3 h=>?_) (λc3 h=>?_)
 ·refine au 10 ?_;refine tm (.fn a c) (au 2 ?_);obtain⟨x4,h5,h⟩:=bns h;refine to (six rfl rfl fH.of (dI aE h5)) (to (slc rfl dG) ?_);obtain⟨r6,h7,h⟩:=bns h;refine to (fV (aA rfl) (.clo _ _ _ _ g rfl) (sG rfl) rfl (BVs.refl _ _) (j _ _ h7) rfl) ?_;refine aM ?_;refine tih h (λc8 h=>?_) (λc8 h=>?_)
  ·refine au 5 ?_;obtain rfl:=sIn h;exact rt
  ·refine gW ?_;cases h
 ·refine dO ?_;refine .inl ⟨rfl,?_⟩;simp only[uG] at h;refine aO ?_;cases h

theorem aDz(l:List Int)(j:Int->Option Bool){r:(List Int)}{c:Value}(a:Nat)(e:List AV)(n:∀args w,(callFunc a args).run Tryz.prog w=.ok (.enter a args) w)(o:∀(x0:Int) r,j x0=some r->Fn Tryz.prog a ([.i x0]++e) (.b r))(h:qN l j=some r):bI Tryz.prog 95 [.d (.lit c),.fn a e] [.arr c 3 1 (l.map aE)] (λr' o'=>∃w0:Value,r'=.d (.lit w0)/\o'=[.arr w0 3 1 (r.map aE)]):=by
 unfold qN at h;refine cB func95 rfl (rs:=[.tmp 4]) results95 ntmps95 (Nat.le_of_ble_eq_true rfl) ?_;refine aO (aL (to (eZ 3 1 (.inl rfl) (aA rfl)) ?_));refine au 4 ?_;refine tm (.fn a e) ?_;obtain⟨r2,h3,h⟩:=bns h;refine to (sc call193 (aFx _ _ a e n o h3) (.cons (.d (cI 0 rfl (bN (f:=aE) λ_=>rfl))) (.cons (.same _) .nil))) (au 8 ?_);refine tih h (λc4 h=>?_) (λc4 h=>?_)
 ·refine aO ?_;cases h
 ·refine au 9 ?_;refine eQ (S:=Int×Int) [0,1] (λs5=>[(5,.i s5.1),(6,.i s5.2)]) (λs5=>[.arr c 3 1 (l.map aE)]) (λk s5=>oF j l k s5.1 s5.2) (λ_=>rfl) (r2,w64 (r2+1)) h (aW [0] rfl rfl (aQ rfl (aQ rfl (bA (ae rfl))))) ?_;rintro k6 ⟨g,t⟩ h;simp only[oF] at h;refine au 5 ?_;refine to (nG (m:=0) (aA rfl) rfl rfl fH.of) ?_;refine au 2 ?_;refine tih h (λc7 h=>?_) (λc7 h=>?_)
  ·refine au 4 ?_;cases h
  ·refine dO ?_;refine .inl ⟨rfl,?_⟩;simp only[tR] at h;refine au 4 ?_;obtain⟨u8,h9,h⟩:=bns h;refine to (bAb (m:=0) (aA rfl) rfl rfl rfl fH.of h9) ?_;obtain⟨u,p,h⟩:=bns h;refine to (bMm (f:=aE) (m:=0) fH rfl rfl p (by decide)) ?_;refine au 5 ?_;obtain⟨x,s,h⟩:=bns h;refine to (bAa (m:=0) (q:=g.toNat) (v:=c) (aA rfl) rfl rfl rfl rfl (bRf s) fH.of) ?_;refine au 2 ?_;obtain rfl:=sIn h;exact bP ⟨rfl,_,[.arr (nC c g.toNat) 3 1 ((l.take g.toNat).map aE)],[],_,.one (.tmp 4 (v:=.d (.lit (nC c g.toNat))) rfl),.refl _,.same _,(nC c g.toNat),rfl,rfl⟩

theorem aKk(a:Int)(c:List Int){r:Bool}(h:rF a c=some r):Fn Tryz.prog 97 [.i a,.cp [.sl 1 (c.map aE)]] (.b r):=by
 unfold rF at h;refine fnx xT {} [.tmp 3] func97 results97 ntmps97 ?_;refine cl call98 (λ_=>qM _ _) h λr1 h=>?_;cases h;exact⟨rfl,rfl,rfl⟩

theorem aOi(a:bZ){r:(List Int)}(h:yO a=some r):Fn Tryz.prog 51 [.cp (cW a)] (.d (.sl 1 (r.map aE))):=by
 unfold yO at h;refine oT [.tmp 2] func51 results51 ntmps51 ?_;refine aO (aL (to (aEu 1 (aA rfl)) ?_));refine au 4 ?_;obtain⟨r1,h2,h⟩:=bns h;refine to (oS (aA rfl) (.func _ _ call50) rfl rfl (aBl _ h2)) ?_;refine aZ rfl (cF (zs:=[.sl 1 ((([]:List Int)).map aE)]) (aA rfl) zeroValue24 rfl rfl) ?_;rintro _ ⟨b3,rfl⟩;refine to (sst 0 rfl rfl sizeOf24 [.sl 1 (r1.map aE)]) (au 4 ?_);obtain⟨r4,h5,h⟩:=bns h;refine aZ rfl (rL (aA rfl) (.func _ _ call96) rfl rfl (vZ _ h5)) ?_;rintro _ ⟨v6,rfl⟩;refine to (aLp (aA rfl) rfl rfl) ?_;refine cL (aW [1,0] rfl rfl (le_refl _)) ?_;apply bDl [.arr v6 3 1 (r4.map aE)] [.box b3 0 [.sl 1 (r1.map aE)]] rfl;exact kN (k:=8) (v:=.fn 97 [.cp [.sl 1 (r1.map aE)]]) (aMd (.cons (lU 0 rfl rfl (dvc (.same _) dvn)) .nil)) (kN (k:=3) (v:=.cp [.sl 1 (r1.map aE)]) (lU 0 rfl rfl (dvc (.same _) dvn)) (aCp _ _));obtain⟨r8,h9,h⟩:=bns h;refine aZ rfl (gM (passed:=[.arr v6 3 1 (r4.map aE)]) (aA rfl) rfl (.func _ _ call95) rfl rfl (aDz r4 (λy7=>rF y7 r1) 97 [.cp [.sl 1 (r1.map aE)]] call97 (λ_ _ h=>aKk _ _ h) h9)) ?_;rintro _ ⟨_,_,⟨b,rfl,rfl⟩,rfl⟩;refine au 2 ?_;obtain rfl:=sIn h;refine dA (jM (kN (k:=2) (v:=.d (.sl 1 (r8.map aE))) (.d (cI 0 rfl (bN (f:=aE) λ_=>rfl))) (bBu))) ?_;exact rt

theorem aYb(f:fW)(b:List aT)(g:Int){r:eT×Int}(h:aHk f b g=some r):Fn Tryz.prog 20 [.agg (dM f),.d (.sl 5 (b.map aH)),.i g] (.tup [.agg (dE r.1),.i r.2]):=by
 unfold aHk at h;refine eH func20 rfl (rs:=[.cell 6 68,.tmp 7]) results20 ntmps20 (Nat.le_of_ble_eq_true rfl) ?_;refine aO (aL ?_);refine aZ rfl (eP (v:=.agg (dM f)) (aA rfl) rfl rfl rfl) ?_;rintro _ ⟨b1,rfl⟩;refine aZ rfl (cF (zs:=Z21) (aA rfl) zeroValue68 rfl rfl) ?_;rintro _ ⟨b2,rfl⟩;refine au 4 ?_;refine to (sla 0 (dM f) rfl rfl aGa) (au 2 ?_);obtain⟨r3,h4,h⟩:=bns h;refine to (oS (aA rfl) (.func _ _ call49) rfl rfl (aYc _ _ _ _ h4)) ?_;refine au 3 ?_;refine ta (cK cW r3.1) (au 8 ?_);refine tih h (λc5 h=>?_) (λc5 h=>?_)
 ·refine aO ?_;cases h
 ·refine au 3 ?_;refine tm (cK cW r3.1) ?_;obtain⟨x6,h7,h⟩:=bns h;refine cL (aMg (enc:=cW) (k:=22) rfl h7) ?_;obtain⟨r8,h9,h⟩:=bns h;refine to (oS (aA rfl) (.func _ _ call50) rfl rfl (aBl _ h9)) ?_;refine au 3 ?_;obtain⟨a,j,h⟩:=bns h;refine dA (aMg (enc:=cW) (k:=8) rfl j) ?_;obtain⟨e,l,h⟩:=bns h;obtain⟨c,m,h⟩:=bns h;refine dX mix 12 [6] [(24,.d (.sl 1 (r8.map aE))),(28,.d (.sl 1 (a.wilds.map aE))),(30,.d (.sl 1 (e.map aE))),(35,.i (w64 (c-(r8.length:Int))))] ?_ ?_
  ·refine⟨[(24,0,.d (.sl 1 (r8.map aE))),(25,1,.cp [.j a.Field.Places,.j a.Field.Wilds,.j a.Field.Guards,.j a.Field.Close,.j a.Field.Freeze,.mp true (a.players.map λp:Int×aD=>(VI p.1,aG p.2)),.sl 1 (a.wilds.map aE),.k a.frozen,.sl 1 (a.first.map aE),.sl 1 (a.late.map aE),.j a.more,.j a.entered]),(26,2,.cp [.j a.Field.Places,.j a.Field.Wilds,.j a.Field.Guards,.j a.Field.Close,.j a.Field.Freeze,.mp true (a.players.map λp:Int×aD=>(VI p.1,aG p.2)),.sl 1 (a.wilds.map aE),.k a.frozen,.sl 1 (a.first.map aE),.sl 1 (a.late.map aE),.j a.more,.j a.entered]),(27,3,.cp [.sl 1 (a.wilds.map aE)]),(28,4,.d (.sl 1 (a.wilds.map aE))),(29,5,.cp [.j a.Field.Places,.j a.Field.Wilds,.j a.Field.Guards,.j a.Field.Close,.j a.Field.Freeze,.mp true (a.players.map λp:Int×aD=>(VI p.1,aG p.2)),.sl 1 (a.wilds.map aE),.k a.frozen,.sl 1 (a.first.map aE),.sl 1 (a.late.map aE),.j a.more,.j a.entered]),(30,6,.d (.sl 1 (e.map aE))),(31,7,.cp [.j a.Field.Places,.j a.Field.Wilds,.j a.Field.Guards,.j a.Field.Close,.j a.Field.Freeze,.mp true (a.players.map λp:Int×aD=>(VI p.1,aG p.2)),.sl 1 (a.wilds.map aE),.k a.frozen,.sl 1 (a.first.map aE),.sl 1 (a.late.map aE),.j a.more,.j a.entered]),(32,8,.i c),(33,9,.d (.sl 1 (r8.map aE))),(34,10,.i (r8.length:Int)),(35,11,.i (w64 (c-(r8.length:Int))))],?_,?_⟩
   · exact dk [0,0,2,3,4,0,6,0,8,0,10,911] ⟨go (zm (.d (.sl 1 (r8.map aE)))),
 go (zm (.cp [.j a.Field.Places,.j a.Field.Wilds,.j a.Field.Guards,.j a.Field.Close,.j a.Field.Freeze,.mp true (a.players.map λp:Int×aD=>(VI p.1,aG p.2)),.sl 1 (a.wilds.map aE),.k a.frozen,.sl 1 (a.first.map aE),.sl 1 (a.late.map aE),.j a.more,.j a.entered])),
 go λS hS=>eB (aA rfl) (aK hS rfl),
 go (zfc [.sl 1 (a.wilds.map aE)] rfl bHc),
 go (zlc rfl aAj),
 go (zm (.cp [.j a.Field.Places,.j a.Field.Wilds,.j a.Field.Guards,.j a.Field.Close,.j a.Field.Freeze,.mp true (a.players.map λp:Int×aD=>(VI p.1,aG p.2)),.sl 1 (a.wilds.map aE),.k a.frozen,.sl 1 (a.first.map aE),.sl 1 (a.late.map aE),.j a.more,.j a.entered])),
 go λS hS=>oS (aA rfl) (.func _ _ call51) (ev2 (aK hS rfl) evn) rfl (aOi _ l),
 go (zm (.cp [.j a.Field.Places,.j a.Field.Wilds,.j a.Field.Guards,.j a.Field.Close,.j a.Field.Freeze,.mp true (a.players.map λp:Int×aD=>(VI p.1,aG p.2)),.sl 1 (a.wilds.map aE),.k a.frozen,.sl 1 (a.first.map aE),.sl 1 (a.late.map aE),.j a.more,.j a.entered])),
 go λS hS=>fV (aA rfl) (.func _ _ call52) (ev2 (aK hS rfl) evn) rfl (BVs.refl _ _) (oH _ m) rfl,
 go (zm (.d (.sl 1 (r8.map aE)))),
 go (zle rfl fH.of),
 go (zar rfl rfl rfl),trivial⟩
   · exact cP (aQ rfl (aQ rfl (aQ rfl (aQ rfl (bA (ae rfl))))))
  ·refine to (eS (aA rfl) bSr (zs:=Z21) rfl rfl rfl rfl (es:=[.sl 1 (r8.map aE),.sl 1 (a.wilds.map aE),.sl 1 (e.map aE),.j (w64 (c-(r8.length:Int)))]) rfl) ?_;refine to (sst 1 rfl rfl sizeOf68 (dE (eT.mk r8 a.wilds e (w64 (c-(r8.length:Int)))))) (au 2 ?_);obtain rfl:=sIn h;exact bP ⟨rfl,_,[.box b1 0 (dM f),.box b2 0 (dE (eT.mk r8 a.wilds e (w64 (c-(r8.length:Int)))))],.two (.cell 6 68 rfl (i:=1) rfl bGf (es:=(dE (eT.mk r8 a.wilds e (w64 (c-(r8.length:Int)))))) rfl rfl) (.tmp 7 (v:=.i 0) rfl),.refl _,.same _⟩

theorem uD(n:Int){r:Str}(h:strconv_Itoa n=some r):Fn Tryz.prog 229 [.i n] (.d (.lit (.string ⟨r.toArray⟩))):=bPi bOu (λn h0 h1 w ht=>Tryz.strconv_Itoa n h0 h1 w ht) h

theorem aGv(l:List Str)(sep:Str){r:Str}(h:strings_Join l sep=some r):Fn Tryz.prog 230 [.d (.sl 1 (l.map iI)),.d (.lit (.string ⟨sep.toArray⟩))] (.d (.lit (.string ⟨r.toArray⟩))):=bPj (λa c sep w=>Tryz.strings_Join_none a c sep w) (λbk o c xs sep w h1 h2 h3 h4 h5=>Tryz.strings_Join bk o c xs sep w h1 h2 h3 h4 h5) h

theorem aTm(c:List Int){r:Str}(h:aDm c=some r):Fn Tryz.prog 222 [.d (.sl 1 (c.map aE))] (.d (.lit (.string ⟨r.toArray⟩))):=by
 unfold aDm at h;refine fnx xT {ow:=[3]} [.tmp 2] func222 results222 ntmps222 ?_;refine ol ?_;refine br h (λh=>?_) λh=>?_
 ·cases h
 ·refine ol ?_;refine xlp [9,10] [] (λ((b,a):Int×(List Str))=>([(3,.d (.hv 0 3 0)),(11,.i b)],[(3,.arr 9 1 (a.map iI))])) (λk ((b,a):Int×(List Str))=>sS c (c.length:Int) k b a) (0,([]:List Str)) h (lev []) ?_;rintro k3 ⟨b,a⟩ h;simp only[sS] at h;refine br h (λh=>?_) λh=>?_
  ·refine oi h λx4 h=>?_;refine cl call229 (λ_=>uD _) h λr6 h=>?_;refine oap h λx8 h=>?_;exact⟨(w64 (b+1),x8),h,lev [(3,19)]⟩
  ·simp only[aEq] at h;refine cl call230 (λ_=>aGv _ _) h λe h=>?_;cases h;exact⟨rfl,rfl,rfl⟩

end Go.Am
