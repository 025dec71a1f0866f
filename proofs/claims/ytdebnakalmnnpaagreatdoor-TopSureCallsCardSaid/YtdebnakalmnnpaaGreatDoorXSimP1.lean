/- The functions compute what the shallow ones say: printed by program. -/
import Derived.Test.YtdebnakalmnnpaaGreatDoorRgSh
import Derived.Test.YtdebnakalmnnpaaGreatDoorRfStrShelf
import Derived.Test.YtdebnakalmnnpaaGreatDoorRfAmb
import Derived.Test.YtdebnakalmnnpaaGreatDoorAmEnt
import Derived.Test.YtdebnakalmnnpaaGreatDoorRfShelf
import Derived.Test.YtdebnakalmnnpaaGreatDoorBbDet
import Derived.Test.YtdebnakalmnnpaaGreatDoorChecked
import Derived.Test.YtdebnakalmnnpaaGreatDoorAmX17
import Derived.KernelRfl
namespace Go.Am
open Go.Proofs
open Go.Proofs.Tryz
set_option maxRecDepth 100000
set_option maxHeartbeats 40000000
attribute [local instance] aDb

abbrev D.j(n:Int):D:=.lit (.int .i64 n)
abbrev D.k(b:Bool):D:=.lit (.bool b)
abbrev VI(n:Int):Value:=.int .i64 n
abbrev Z0(p0:Nat)(p1:Nat)(p2:aK)(p3:Value)(p4:Value)(p5:Value):List MO:=[.box p0 p1 [.j p2.Desk.Field.Places,.j p2.Desk.Field.Wilds,.j p2.Desk.Field.Guards,.j p2.Desk.Field.Close,.j p2.Desk.Field.Freeze,.j p2.Desk.Tree.Rounds,.sl 1 (p2.Desk.Tree.Slots.map aI),.j p2.Desk.Format.Sets,.j p2.Desk.Format.Games,.k p2.Desk.Format.NoAd,.j p2.Desk.Format.Tie,.j p2.Desk.Format.To,.j p2.Desk.Format.LastTie,.j p2.Desk.Format.LastTo,.j p2.Desk.Format.First,.j p2.Desk.Format.Then,.k p2.Desk.Format.Doubles,.sl 1 (p2.Desk.Days.map dD),.j p2.Desk.Rest,.sl 3 (p2.Desk.Stages.map cU),.j p2.Register.Hour,.lit p3,.lit p4,.j p2.Register.Round,.j p2.Register.Place,.j p2.Register.First,.sl 1 (p2.Register.Points.map aI),.lit p5,.j p2.bout.Round,.j p2.bout.Place,.j p2.bout.One,.j p2.bout.Two],.arr p3 101 5 (p2.Register.Notices.map dW),.arr p4 103 5 (p2.Register.Slips.map aG)]
abbrev Z1:=aF.mk ([]:List Int) ([]:List (List Int))
abbrev Z2:List D:=[.sl 1 ((([]:List Int)).map aI),.sl 1 ((([]:List (List Int))).map sO)]
abbrev Z3(p0:Nat)(p1:Nat)(p2:aD)(p3:Value)(p4:Nat)(p5:List Int)(p6:Nat)(p7:List (aA×Int))(p8:List Nat)(p9:Nat):List MO:=[.box p0 p1 [.j p2.Rounds,.sl 1 (p2.Slots.map aI),.lit p3,.lit (.map (some p4))],.arr p3 3 1 (p5.map aI),.map p6 (p7.map λp:aA×Int=>((λa:aA=>Value.agg ((aG a).map bA).toArray) p.1,(λv:Int=>AV.i v) p.2)) p8 p9]
abbrev Z4(p0:aD)(p1:List aA):List AV:=[.agg (bB p0),.d (.sl 5 (p1.map aG))]
abbrev Z5:List D:=[.lit .nilFunc]
abbrev Z6(p0:aD):=p0.Slots.map aI
abbrev Z7:List D:=[.lit (.int .u64 0),.lit (.int .u64 0),.lit (.int .u32 0),.lit (.int .u8 0),.lit (.int .u8 0),.lit (.int .u8 0),.lit (.int .u8 0),.lit .nilFunc,.lit (.pointer none),.lit (.int .i32 0),.lit (.int .i32 0)]
abbrev Z8(p0:aU):AV:=.cp [.j p0.Tree.Rounds,.sl 1 (p0.Tree.Slots.map aI),.sl 1 (p0.players.map aI),.mp false (p0.won.map λp:aB×Int=>((λa:aB=>Value.agg ((aH a).map bA).toArray) p.1,aI p.2))]
abbrev Z9:List D:=[.lit (.pointer none)]
abbrev Z10(p0:aD)(p1:List aA)(p2:Int)(p3:Int):List AV:=[.agg (bB p0),.d (.sl 5 (p1.map aG)),.i p2,.i p3]
abbrev Z11:=List Int
abbrev Z12(p0:bQ)(p1:dZ):List AV:=[.cp [.j p0.Size,.sl 4 (p0.Strips.map gN),.j p0.Wrong,.j p0.HalfX.Low,.j p0.HalfX.High,.j p0.HalfY.Low,.j p0.HalfY.High],.cp [.j p1.Left,.j p1.Right,.j p1.Bottom,.j p1.Top]]
abbrev Z13(p0:Value)(p1:List aR):List MO:=[.arr p0 135 4 (p1.map bD)]
abbrev Z14(p0:List Int):D:=.sl 1 (p0.map aI)
abbrev Z15(p0:aN):=p0.Score.Board.Sets.map cH
abbrev Z16:List MO:=[.arr (.slice none 0 0) 135 4 (([]:List aR).map bD)]
abbrev Z17:List MO:=[.arr (.slice none 0 0) 3 1 (([]:List Int).map aI)]
abbrev Z18:List D:=[.lit (.map none)]
abbrev Z19:=aJ.mk 0 0
abbrev Z20(p0:aK):=p0.Register.Notices.map dW
abbrev Z21(p0:aK):=p0.Desk.Tree.Slots.map aI
abbrev Z22(p0:aK):=p0.Register.Points.map aI
abbrev Z23(p0:aK):=p0.Register.Slips.map aG
abbrev Z24:List D:=[.sl 2 [],.j 0,.j 0,.j 0,.j 0,.j 0,.j 0,.j 0,.j 0]
abbrev Z25:List D:=[.sl 1 ((([]:List Int)).map aI),.lit (.slice none 0 0)]
abbrev Z26(p0:List aA):D:=.sl 5 (p0.map aG)
abbrev Z27:=aA.mk 0 0 0 0 0
abbrev Z28(p0:aK):=p0.Desk.Stages.map cU
abbrev Z29(p0:Nat):D:=.lit (.map (some p0))
abbrev Z30:List D:=[.lit (.int .u8 0)]
abbrev Z31(p0:aU):=p0.Tree.Slots.map aI
abbrev Z32:List D:=[.lit (.slice none 0 0)]
theorem mix:Tryz.prog.follows .mixedOrders=true:=Checked.mixed Tryz.checked

def xT:TT Tryz.prog:=⟨.n (.n (.n (.n (.n (.n (.n (.n .l 2 (⟨1,8⟩,_) (ti Tryz.t2 underlying2) .l) 3 (⟨1,8⟩,_) (ti Tryz.t3 underlying3) .l) 4 (⟨1,1⟩,_) (ti Tryz.t4 underlying4) (.n (.n .l 5 (⟨1,1⟩,_) (ti Tryz.t5 underlying5) .l) 6 (⟨1,1⟩,_) (ti Tryz.t6 underlying6) .l)) 7 (⟨4,24⟩,_) (ti Tryz.t7 underlying7) (.n (.n (.n .l 9 (⟨1,16⟩,_) (ti Tryz.t9 underlying9) .l) 10 (⟨1,16⟩,_) (ti Tryz.t10 underlying10) .l) 11 (⟨1,16⟩,_) (ti Tryz.t11 underlying11) (.n (.n .l 12 (⟨1,8⟩,_) (ti Tryz.t12 underlying12) .l) 13 (⟨2,24⟩,_) (ti Tryz.t13 underlying13) .l))) 14 (⟨2,24⟩,_) (ti Tryz.t14 underlying14) (.n (.n (.n (.n .l 15 (⟨1,8⟩,_) (ti Tryz.t15 underlying15) .l) 16 (⟨1,8⟩,_) (ti Tryz.t16 underlying16) .l) 17 (⟨1,8⟩,_) (ti Tryz.t17 underlying17) (.n (.n .l 18 (⟨1,8⟩,_) (ti Tryz.t18 underlying18) .l) 19 (⟨1,8⟩,_) (ti Tryz.t19 underlying19) .l)) 21 (⟨1,4⟩,_) (ti Tryz.t21 underlying21) (.n (.n (.n .l 22 (⟨5,40⟩,_) (ti Tryz.t22 underlying22) .l) 23 (⟨5,40⟩,_) (ti Tryz.t23 underlying23) .l) 24 (⟨1,24⟩,_) (ti Tryz.t24 underlying24) (.n .l 25 (⟨2,32⟩,_) (ti Tryz.t25 underlying25) .l)))) 26 (⟨2,32⟩,_) (ti Tryz.t26 underlying26) (.n (.n (.n (.n (.n .l 27 (⟨10,80⟩,_) (ti Tryz.t27 underlying27) .l) 28 (⟨10,80⟩,_) (ti Tryz.t28 underlying28) .l) 29 (⟨1,24⟩,_) (ti Tryz.t29 underlying29) (.n (.n .l 30 (⟨1,24⟩,_) (ti Tryz.t30 underlying30) .l) 31 (⟨20,208⟩,_) (ti Tryz.t31 underlying31) .l)) 32 (⟨20,208⟩,_) (ti Tryz.t32 underlying32) (.n (.n (.n .l 33 (⟨1,24⟩,_) (ti Tryz.t33 underlying33) .l) 36 (⟨1,24⟩,_) (ti Tryz.t36 underlying36) .l) 37 (⟨1,24⟩,_) (ti Tryz.t37 underlying37) (.n .l 38 (⟨2,16⟩,_) (ti Tryz.t38 underlying38) .l))) 39 (⟨2,16⟩,_) (ti Tryz.t39 underlying39) (.n (.n (.n (.n .l 40 (⟨7,72⟩,_) (ti Tryz.t40 underlying40) .l) 41 (⟨7,72⟩,_) (ti Tryz.t41 underlying41) .l) 42 (⟨4,32⟩,_) (ti Tryz.t42 underlying42) (.n (.n .l 43 (⟨4,32⟩,_) (ti Tryz.t43 underlying43) .l) 44 (⟨4,32⟩,_) (ti Tryz.t44 underlying44) .l)) 45 (⟨4,32⟩,_) (ti Tryz.t45 underlying45) (.n (.n (.n .l 46 (⟨16,144⟩,_) (ti Tryz.t46 underlying46) .l) 47 (⟨16,144⟩,_) (ti Tryz.t47 underlying47) .l) 48 (⟨1,8⟩,_) (ti Tryz.t48 underlying48) (.n .l 49 (⟨1,8⟩,_) (ti Tryz.t49 underlying49) .l))))) 50 (⟨1,8⟩,_) (ti Tryz.t50 underlying50) (.n (.n (.n (.n (.n (.n .l 54 (⟨1,8⟩,_) (ti Tryz.t54 underlying54) .l) 57 (⟨1,8⟩,_) (ti Tryz.t57 underlying57) .l) 60 (⟨1,24⟩,_) (ti Tryz.t60 underlying60) (.n (.n .l 61 (⟨1,24⟩,_) (ti Tryz.t61 underlying61) .l) 62 (⟨8,128⟩,_) (ti Tryz.t62 underlying62) .l)) 63 (⟨8,128⟩,_) (ti Tryz.t63 underlying63) (.n (.n (.n .l 66 (⟨1,8⟩,_) (ti Tryz.t66 underlying66) .l) 72 (⟨1,24⟩,_) (ti Tryz.t72 underlying72) .l) 73 (⟨12,112⟩,_) (ti Tryz.t73 underlying73) (.n (.n .l 74 (⟨12,112⟩,_) (ti Tryz.t74 underlying74) .l) 77 (⟨1,24⟩,_) (ti Tryz.t77 underlying77) .l))) 78 (⟨1,24⟩,_) (ti Tryz.t78 underlying78) (.n (.n (.n (.n .l 79 (⟨1,24⟩,_) (ti Tryz.t79 underlying79) .l) 80 (⟨1,24⟩,_) (ti Tryz.t80 underlying80) .l) 81 (⟨9,184⟩,_) (ti Tryz.t81 underlying81) (.n (.n .l 82 (⟨9,184⟩,_) (ti Tryz.t82 underlying82) .l) 87 (⟨4,32⟩,_) (ti Tryz.t87 underlying87) .l)) 88 (⟨4,32⟩,_) (ti Tryz.t88 underlying88) (.n (.n (.n .l 89 (⟨1,8⟩,_) (ti Tryz.t89 underlying89) .l) 93 (⟨1,8⟩,_) (ti Tryz.t93 underlying93) .l) 96 (⟨4,32⟩,_) (ti Tryz.t96 underlying96) (.n .l 97 (⟨4,32⟩,_) (ti Tryz.t97 underlying97) .l)))) 98 (⟨32,368⟩,_) (ti Tryz.t98 underlying98) (.n (.n (.n (.n (.n .l 99 (⟨32,368⟩,_) (ti Tryz.t99 underlying99) .l) 100 (⟨5,40⟩,_) (ti Tryz.t100 underlying100) .l) 101 (⟨5,40⟩,_) (ti Tryz.t101 underlying101) (.n (.n .l 102 (⟨5,40⟩,_) (ti Tryz.t102 underlying102) .l) 103 (⟨5,40⟩,_) (ti Tryz.t103 underlying103) .l)) 104 (⟨1,24⟩,_) (ti Tryz.t104 underlying104) (.n (.n (.n .l 109 (⟨1,24⟩,_) (ti Tryz.t109 underlying109) .l) 110 (⟨3,56⟩,_) (ti Tryz.t110 underlying110) .l) 111 (⟨3,56⟩,_) (ti Tryz.t111 underlying111) (.n .l 112 (⟨1,24⟩,_) (ti Tryz.t112 underlying112) .l))) 115 (⟨3,24⟩,_) (ti Tryz.t115 underlying115) (.n (.n (.n (.n .l 116 (⟨3,24⟩,_) (ti Tryz.t116 underlying116) .l) 117 (⟨1,8⟩,_) (ti Tryz.t117 underlying117) .l) 118 (⟨1,8⟩,_) (ti Tryz.t118 underlying118) (.n (.n .l 123 (⟨2,16⟩,_) (ti Tryz.t123 underlying123) .l) 124 (⟨2,16⟩,_) (ti Tryz.t124 underlying124) .l)) 125 (⟨4,32⟩,_) (ti Tryz.t125 underlying125) (.n (.n (.n .l 126 (⟨4,32⟩,_) (ti Tryz.t126 underlying126) .l) 128 (⟨3,24⟩,_) (ti Tryz.t128 underlying128) .l) 129 (⟨3,24⟩,_) (ti Tryz.t129 underlying129) (.n .l 130 (⟨2,16⟩,_) (ti Tryz.t130 underlying130) .l)))))) 131 (⟨2,16⟩,_) (ti Tryz.t131 underlying131) (.n (.n (.n (.n (.n (.n (.n .l 132 (⟨3,24⟩,_) (ti Tryz.t132 underlying132) .l) 133 (⟨3,24⟩,_) (ti Tryz.t133 underlying133) .l) 134 (⟨4,32⟩,_) (ti Tryz.t134 underlying134) (.n (.n .l 135 (⟨4,32⟩,_) (ti Tryz.t135 underlying135) .l) 137 (⟨1,24⟩,_) (ti Tryz.t137 underlying137) .l)) 140 (⟨2,16⟩,_) (ti Tryz.t140 underlying140) (.n (.n (.n .l 141 (⟨2,16⟩,_) (ti Tryz.t141 underlying141) .l) 143 (⟨1,8⟩,_) (ti Tryz.t143 underlying143) .l) 147 (⟨1,8⟩,_) (ti Tryz.t147 underlying147) (.n (.n .l 148 (⟨2,16⟩,_) (ti Tryz.t148 underlying148) .l) 149 (⟨2,16⟩,_) (ti Tryz.t149 underlying149) .l))) 151 (⟨1,8⟩,_) (ti Tryz.t151 underlying151) (.n (.n (.n (.n .l 156 (⟨1,24⟩,_) (ti Tryz.t156 underlying156) .l) 157 (⟨2,48⟩,_) (ti Tryz.t157 underlying157) .l) 158 (⟨2,48⟩,_) (ti Tryz.t158 underlying158) (.n (.n .l 163 (⟨6,80⟩,_) (ti Tryz.t163 underlying163) .l) 164 (⟨6,80⟩,_) (ti Tryz.t164 underlying164) .l)) 165 (⟨1,8⟩,_) (ti Tryz.t165 underlying165) (.n (.n (.n .l 170 (⟨12,112⟩,_) (ti Tryz.t170 underlying170) .l) 171 (⟨12,112⟩,_) (ti Tryz.t171 underlying171) .l) 176 (⟨1,8⟩,_) (ti Tryz.t176 underlying176) (.n .l 178 (⟨1,8⟩,_) (ti Tryz.t178 underlying178) .l)))) 182 (⟨1,8⟩,_) (ti Tryz.t182 underlying182) (.n (.n (.n (.n (.n .l 183 (⟨1,8⟩,_) (ti Tryz.t183 underlying183) .l) 185 (⟨1,8⟩,_) (ti Tryz.t185 underlying185) .l) 187 (⟨1,8⟩,_) (ti Tryz.t187 underlying187) (.n (.n .l 189 (⟨1,8⟩,_) (ti Tryz.t189 underlying189) .l) 190 (⟨1,8⟩,_) (ti Tryz.t190 underlying190) .l)) 196 (⟨1,8⟩,_) (ti Tryz.t196 underlying196) (.n (.n (.n .l 199 (⟨1,8⟩,_) (ti Tryz.t199 underlying199) .l) 200 (⟨1,8⟩,_) (ti Tryz.t200 underlying200) .l) 202 (⟨1,8⟩,_) (ti Tryz.t202 underlying202) (.n .l 203 (⟨1,8⟩,_) (ti Tryz.t203 underlying203) .l))) 205 (⟨1,8⟩,_) (ti Tryz.t205 underlying205) (.n (.n (.n (.n .l 210 (⟨1,8⟩,_) (ti Tryz.t210 underlying210) .l) 220 (⟨1,8⟩,_) (ti Tryz.t220 underlying220) .l) 221 (⟨10,80⟩,_) (ti Tryz.t221 underlying221) (.n (.n .l 222 (⟨16,128⟩,_) (ti Tryz.t222 underlying222) .l) 223 (⟨16,128⟩,_) (ti Tryz.t223 underlying223) .l)) 224 (⟨20,160⟩,_) (ti Tryz.t224 underlying224) (.n (.n (.n .l 225 (⟨20,160⟩,_) (ti Tryz.t225 underlying225) .l) 231 (⟨1,8⟩,_) (ti Tryz.t231 underlying231) .l) 232 (⟨1,8⟩,_) (ti Tryz.t232 underlying232) (.n .l 238 (⟨1,8⟩,_) (ti Tryz.t238 underlying238) .l))))) 239 (⟨1,8⟩,_) (ti Tryz.t239 underlying239) (.n (.n (.n (.n (.n (.n .l 240 (⟨2,16⟩,_) (ti Tryz.t240 underlying240) .l) 241 (⟨2,16⟩,_) (ti Tryz.t241 underlying241) .l) 245 (⟨1,8⟩,_) (ti Tryz.t245 underlying245) (.n (.n .l 246 (⟨4,64⟩,_) (ti Tryz.t246 underlying246) .l) 247 (⟨4,64⟩,_) (ti Tryz.t247 underlying247) .l)) 249 (⟨1,8⟩,_) (ti Tryz.t249 underlying249) (.n (.n (.n .l 255 (⟨1,24⟩,_) (ti Tryz.t255 underlying255) .l) 259 (⟨1,24⟩,_) (ti Tryz.t259 underlying259) .l) 260 (⟨5,56⟩,_) (ti Tryz.t260 underlying260) (.n .l 261 (⟨5,56⟩,_) (ti Tryz.t261 underlying261) .l))) 262 (⟨9,88⟩,_) (ti Tryz.t262 underlying262) (.n (.n (.n (.n .l 263 (⟨9,88⟩,_) (ti Tryz.t263 underlying263) .l) 289 (⟨1,8⟩,_) (ti Tryz.t289 underlying289) .l) 290 (⟨1,8⟩,_) (ti Tryz.t290 underlying290) (.n (.n .l 292 (⟨1,8⟩,_) (ti Tryz.t292 underlying292) .l) 294 (⟨1,8⟩,_) (ti Tryz.t294 underlying294) .l)) 295 (⟨1,8⟩,_) (ti Tryz.t295 underlying295) (.n (.n (.n .l 309 (⟨1,8⟩,_) (ti Tryz.t309 underlying309) .l) 312 (⟨10,80⟩,_) (ti Tryz.t312 underlying312) .l) 313 (⟨10,80⟩,_) (ti Tryz.t313 underlying313) (.n .l 314 (⟨1,24⟩,_) (ti Tryz.t314 underlying314) .l)))) 315 (⟨1,24⟩,_) (ti Tryz.t315 underlying315) (.n (.n (.n (.n (.n .l 316 (⟨24,240⟩,_) (ti Tryz.t316 underlying316) .l) 317 (⟨24,240⟩,_) (ti Tryz.t317 underlying317) .l) 334 (⟨1,8⟩,_) (ti Tryz.t334 underlying334) (.n (.n .l 345 (⟨1,4⟩,_) (ti Tryz.t345 underlying345) .l) 359 (⟨1,8⟩,_) (ti Tryz.t359 underlying359) .l)) 384 (⟨2,16⟩,_) (ti Tryz.t384 underlying384) (.n (.n (.n .l 385 (⟨2,16⟩,_) (ti Tryz.t385 underlying385) .l) 389 (⟨7,56⟩,_) (ti Tryz.t389 underlying389) .l) 390 (⟨7,56⟩,_) (ti Tryz.t390 underlying390) (.n .l 454 (⟨4,40⟩,_) (ti Tryz.t454 underlying454) .l))) 455 (⟨4,40⟩,_) (ti Tryz.t455 underlying455) (.n (.n (.n (.n .l 456 (⟨0,0⟩,_) (ti Tryz.t456 underlying456) .l) 457 (⟨0,0⟩,_) (ti Tryz.t457 underlying457) .l) 458 (⟨0,0⟩,_) (ti Tryz.t458 underlying458) (.n (.n .l 459 (⟨1,1⟩,_) (ti Tryz.t459 underlying459) .l) 460 (⟨1,1⟩,_) (ti Tryz.t460 underlying460) .l)) 461 (⟨1,8⟩,_) (ti Tryz.t461 underlying461) (.n (.n (.n .l 462 (⟨1,4⟩,_) (ti Tryz.t462 underlying462) .l) 463 (⟨1,4⟩,_) (ti Tryz.t463 underlying463) .l) 464 (⟨11,48⟩,_) (ti Tryz.t464 underlying464) (.n .l 465 (⟨11,48⟩,_) (ti Tryz.t465 underlying465) .l)))))),
 .n (.n (.n (.n (.n (.n (.n (.n .l 2 [.j 0] ⟨_,zeroValue2,rfl,rfl⟩ .l) 3 [.j 0] ⟨_,zeroValue3,rfl,rfl⟩ .l) 4 [.k false] ⟨_,zeroValue4,rfl,rfl⟩ (.n (.n .l 5 Z30 ⟨_,zeroValue5,rfl,rfl⟩ .l) 6 Z30 ⟨_,zeroValue6,rfl,rfl⟩ .l)) 7 [.j 0,.j 0,.k false,.lit (.int .u8 0)] ⟨_,zeroValue7,rfl,rfl⟩ (.n (.n (.n .l 9 [.lit (.string ⟨#[]⟩)] ⟨_,zeroValue9,rfl,rfl⟩ .l) 10 [.lit (.string ⟨#[]⟩)] ⟨_,zeroValue10,rfl,rfl⟩ .l) 11 [.lit (.string ⟨#[]⟩)] ⟨_,zeroValue11,rfl,rfl⟩ (.n (.n .l 12 [.lit (.int .u64 0)] ⟨_,zeroValue12,rfl,rfl⟩ .l) 13 [.lit (.string ⟨#[]⟩),.lit (.int .u64 0)] ⟨_,zeroValue13,rfl,rfl⟩ .l))) 14 [.lit (.string ⟨#[]⟩),.lit (.int .u64 0)] ⟨_,zeroValue14,rfl,rfl⟩ (.n (.n (.n (.n .l 15 Z9 ⟨_,zeroValue15,rfl,rfl⟩ .l) 16 Z9 ⟨_,zeroValue16,rfl,rfl⟩ .l) 17 Z9 ⟨_,zeroValue17,rfl,rfl⟩ (.n (.n .l 18 Z9 ⟨_,zeroValue18,rfl,rfl⟩ .l) 19 Z9 ⟨_,zeroValue19,rfl,rfl⟩ .l)) 21 [.lit (.int .i32 0)] ⟨_,zeroValue21,rfl,rfl⟩ (.n (.n (.n .l 22 [.j 0,.j 0,.j 0,.j 0,.j 0] ⟨_,zeroValue22,rfl,rfl⟩ .l) 23 [.j 0,.j 0,.j 0,.j 0,.j 0] ⟨_,zeroValue23,rfl,rfl⟩ .l) 24 [.sl 1 []] ⟨_,zeroValue24,rfl,rfl⟩ (.n .l 25 [.j 0,.sl 1 []] ⟨_,zeroValue25,rfl,rfl⟩ .l)))) 26 [.j 0,.sl 1 []] ⟨_,zeroValue26,rfl,rfl⟩ (.n (.n (.n (.n (.n .l 27 [.j 0,.j 0,.k false,.j 0,.j 0,.j 0,.j 0,.j 0,.j 0,.k false] ⟨_,zeroValue27,rfl,rfl⟩ .l) 28 [.j 0,.j 0,.k false,.j 0,.j 0,.j 0,.j 0,.j 0,.j 0,.k false] ⟨_,zeroValue28,rfl,rfl⟩ .l) 29 [.sl 1 []] ⟨_,zeroValue29,rfl,rfl⟩ (.n (.n .l 30 [.sl 3 []] ⟨_,zeroValue30,rfl,rfl⟩ .l) 31 [.j 0,.j 0,.j 0,.j 0,.j 0,.j 0,.sl 1 [],.j 0,.j 0,.k false,.j 0,.j 0,.j 0,.j 0,.j 0,.j 0,.k false,.sl 1 [],.j 0,.sl 3 []] ⟨_,zeroValue31,rfl,rfl⟩ .l)) 32 [.j 0,.j 0,.j 0,.j 0,.j 0,.j 0,.sl 1 [],.j 0,.j 0,.k false,.j 0,.j 0,.j 0,.j 0,.j 0,.j 0,.k false,.sl 1 [],.j 0,.sl 3 []] ⟨_,zeroValue32,rfl,rfl⟩ (.n (.n (.n .l 33 [.sl 16 []] ⟨_,zeroValue33,rfl,rfl⟩ .l) 36 [.sl 1 []] ⟨_,zeroValue36,rfl,rfl⟩ .l) 37 [.sl 4 []] ⟨_,zeroValue37,rfl,rfl⟩ (.n .l 38 [.j 0,.j 0] ⟨_,zeroValue38,rfl,rfl⟩ .l))) 39 [.j 0,.j 0] ⟨_,zeroValue39,rfl,rfl⟩ (.n (.n (.n (.n .l 40 [.j 0,.sl 4 [],.j 0,.j 0,.j 0,.j 0,.j 0] ⟨_,zeroValue40,rfl,rfl⟩ .l) 41 [.j 0,.sl 4 [],.j 0,.j 0,.j 0,.j 0,.j 0] ⟨_,zeroValue41,rfl,rfl⟩ .l) 42 [.j 0,.j 0,.j 0,.j 0] ⟨_,zeroValue42,rfl,rfl⟩ (.n (.n .l 43 [.j 0,.j 0,.j 0,.j 0] ⟨_,zeroValue43,rfl,rfl⟩ .l) 44 [.j 0,.j 0,.j 0,.j 0] ⟨_,zeroValue44,rfl,rfl⟩ .l)) 45 [.j 0,.j 0,.j 0,.j 0] ⟨_,zeroValue45,rfl,rfl⟩ (.n (.n (.n .l 46 [.j 0,.j 0,.sl 4 [],.j 0,.j 0,.j 0,.j 0,.j 0,.j 0,.j 0,.j 0,.j 0,.j 0,.j 0,.j 0,.j 0] ⟨_,zeroValue46,rfl,rfl⟩ .l) 47 [.j 0,.j 0,.sl 4 [],.j 0,.j 0,.j 0,.j 0,.j 0,.j 0,.j 0,.j 0,.j 0,.j 0,.j 0,.j 0,.j 0] ⟨_,zeroValue47,rfl,rfl⟩ .l) 48 Z5 ⟨_,zeroValue48,rfl,rfl⟩ (.n .l 49 [.j 0] ⟨_,zeroValue49,rfl,rfl⟩ .l))))) 50 Z5 ⟨_,zeroValue50,rfl,rfl⟩ (.n (.n (.n (.n (.n (.n .l 54 Z5 ⟨_,zeroValue54,rfl,rfl⟩ .l) 57 Z5 ⟨_,zeroValue57,rfl,rfl⟩ .l) 60 [.sl 5 []] ⟨_,zeroValue60,rfl,rfl⟩ (.n (.n .l 61 [.sl 5 []] ⟨_,zeroValue61,rfl,rfl⟩ .l) 62 [.j 0,.sl 5 [],.sl 5 [],.j 0,.j 0,.j 0,.sl 1 [],.sl 1 []] ⟨_,zeroValue62,rfl,rfl⟩ .l)) 63 [.j 0,.sl 5 [],.sl 5 [],.j 0,.j 0,.j 0,.sl 1 [],.sl 1 []] ⟨_,zeroValue63,rfl,rfl⟩ (.n (.n (.n .l 66 Z5 ⟨_,zeroValue66,rfl,rfl⟩ .l) 72 [.sl 4 []] ⟨_,zeroValue72,rfl,rfl⟩ .l) 73 [.j 0,.j 0,.k false,.j 0,.j 0,.j 0,.j 0,.j 0,.j 0,.k false,.j 0,.sl 4 []] ⟨_,zeroValue73,rfl,rfl⟩ (.n (.n .l 74 [.j 0,.j 0,.k false,.j 0,.j 0,.j 0,.j 0,.j 0,.j 0,.k false,.j 0,.sl 4 []] ⟨_,zeroValue74,rfl,rfl⟩ .l) 77 [.sl 3 []] ⟨_,zeroValue77,rfl,rfl⟩ .l))) 78 [.sl 2 []] ⟨_,zeroValue78,rfl,rfl⟩ (.n (.n (.n (.n .l 79 [.sl 3 []] ⟨_,zeroValue79,rfl,rfl⟩ .l) 80 [.sl 4 []] ⟨_,zeroValue80,rfl,rfl⟩ .l) 81 [.j 0,.sl 1 [],.sl 5 [],.sl 1 [],.j 0,.sl 3 [],.sl 2 [],.sl 3 [],.sl 4 []] ⟨_,zeroValue81,rfl,rfl⟩ (.n (.n .l 82 [.j 0,.sl 1 [],.sl 5 [],.sl 1 [],.j 0,.sl 3 [],.sl 2 [],.sl 3 [],.sl 4 []] ⟨_,zeroValue82,rfl,rfl⟩ .l) 87 [.j 0,.j 0,.j 0,.j 0] ⟨_,zeroValue87,rfl,rfl⟩ .l)) 88 [.j 0,.j 0,.j 0,.j 0] ⟨_,zeroValue88,rfl,rfl⟩ (.n (.n (.n .l 89 Z5 ⟨_,zeroValue89,rfl,rfl⟩ .l) 93 Z9 ⟨_,zeroValue93,rfl,rfl⟩ .l) 96 [.j 0,.j 0,.j 0,.j 0] ⟨_,zeroValue96,rfl,rfl⟩ (.n .l 97 [.j 0,.j 0,.j 0,.j 0] ⟨_,zeroValue97,rfl,rfl⟩ .l)))) 98 [.j 0,.j 0,.j 0,.j 0,.j 0,.j 0,.sl 1 [],.j 0,.j 0,.k false,.j 0,.j 0,.j 0,.j 0,.j 0,.j 0,.k false,.sl 1 [],.j 0,.sl 3 [],.j 0,.sl 5 [],.sl 5 [],.j 0,.j 0,.j 0,.sl 1 [],.sl 1 [],.j 0,.j 0,.j 0,.j 0] ⟨_,zeroValue98,rfl,rfl⟩ (.n (.n (.n (.n (.n .l 99 [.j 0,.j 0,.j 0,.j 0,.j 0,.j 0,.sl 1 [],.j 0,.j 0,.k false,.j 0,.j 0,.j 0,.j 0,.j 0,.j 0,.k false,.sl 1 [],.j 0,.sl 3 [],.j 0,.sl 5 [],.sl 5 [],.j 0,.j 0,.j 0,.sl 1 [],.sl 1 [],.j 0,.j 0,.j 0,.j 0] ⟨_,zeroValue99,rfl,rfl⟩ .l) 100 [.j 0,.j 0,.j 0,.j 0,.j 0] ⟨_,zeroValue100,rfl,rfl⟩ .l) 101 [.j 0,.j 0,.j 0,.j 0,.j 0] ⟨_,zeroValue101,rfl,rfl⟩ (.n (.n .l 102 [.j 0,.j 0,.j 0,.j 0,.j 0] ⟨_,zeroValue102,rfl,rfl⟩ .l) 103 [.j 0,.j 0,.j 0,.j 0,.j 0] ⟨_,zeroValue103,rfl,rfl⟩ .l)) 104 [.sl 2 []] ⟨_,zeroValue104,rfl,rfl⟩ (.n (.n (.n .l 109 [.sl 6 []] ⟨_,zeroValue109,rfl,rfl⟩ .l) 110 [.sl 1 [],.j 0,.sl 6 []] ⟨_,zeroValue110,rfl,rfl⟩ .l) 111 [.sl 1 [],.j 0,.sl 6 []] ⟨_,zeroValue111,rfl,rfl⟩ (.n .l 112 [.sl 4 []] ⟨_,zeroValue112,rfl,rfl⟩ .l))) 115 [.j 0,.j 0,.j 0] ⟨_,zeroValue115,rfl,rfl⟩ (.n (.n (.n (.n .l 116 [.j 0,.j 0,.j 0] ⟨_,zeroValue116,rfl,rfl⟩ .l) 117 Z18 ⟨_,zeroValue117,rfl,rfl⟩ .l) 118 Z18 ⟨_,zeroValue118,rfl,rfl⟩ (.n (.n .l 123 [.j 0,.j 0] ⟨_,zeroValue123,rfl,rfl⟩ .l) 124 [.j 0,.j 0] ⟨_,zeroValue124,rfl,rfl⟩ .l)) 125 [.j 0,.j 0,.j 0,.j 0] ⟨_,zeroValue125,rfl,rfl⟩ (.n (.n (.n .l 126 [.j 0,.j 0,.j 0,.j 0] ⟨_,zeroValue126,rfl,rfl⟩ .l) 128 [.j 0,.j 0,.j 0] ⟨_,zeroValue128,rfl,rfl⟩ .l) 129 [.j 0,.j 0,.j 0] ⟨_,zeroValue129,rfl,rfl⟩ (.n .l 130 [.j 0,.j 0] ⟨_,zeroValue130,rfl,rfl⟩ .l)))))) 131 [.j 0,.j 0] ⟨_,zeroValue131,rfl,rfl⟩ (.n (.n (.n (.n (.n (.n (.n .l 132 [.j 0,.j 0,.j 0] ⟨_,zeroValue132,rfl,rfl⟩ .l) 133 [.j 0,.j 0,.j 0] ⟨_,zeroValue133,rfl,rfl⟩ .l) 134 [.j 0,.j 0,.j 0,.j 0] ⟨_,zeroValue134,rfl,rfl⟩ (.n (.n .l 135 [.j 0,.j 0,.j 0,.j 0] ⟨_,zeroValue135,rfl,rfl⟩ .l) 137 [.sl 2 []] ⟨_,zeroValue137,rfl,rfl⟩ .l)) 140 [.j 0,.j 0] ⟨_,zeroValue140,rfl,rfl⟩ (.n (.n (.n .l 141 [.j 0,.j 0] ⟨_,zeroValue141,rfl,rfl⟩ .l) 143 Z5 ⟨_,zeroValue143,rfl,rfl⟩ .l) 147 Z5 ⟨_,zeroValue147,rfl,rfl⟩ (.n (.n .l 148 [.j 0,.lit .nilFunc] ⟨_,zeroValue148,rfl,rfl⟩ .l) 149 [.j 0,.lit .nilFunc] ⟨_,zeroValue149,rfl,rfl⟩ .l))) 151 Z18 ⟨_,zeroValue151,rfl,rfl⟩ (.n (.n (.n (.n .l 156 [.sl 1 []] ⟨_,zeroValue156,rfl,rfl⟩ .l) 157 [.sl 1 [],.sl 1 []] ⟨_,zeroValue157,rfl,rfl⟩ .l) 158 [.sl 1 [],.sl 1 []] ⟨_,zeroValue158,rfl,rfl⟩ (.n (.n .l 163 [.j 0,.j 0,.sl 1 [],.sl 1 [],.j 0,.j 0] ⟨_,zeroValue163,rfl,rfl⟩ .l) 164 [.j 0,.j 0,.sl 1 [],.sl 1 [],.j 0,.j 0] ⟨_,zeroValue164,rfl,rfl⟩ .l)) 165 Z5 ⟨_,zeroValue165,rfl,rfl⟩ (.n (.n (.n .l 170 [.j 0,.j 0,.k false,.j 0,.j 0,.j 0,.j 0,.j 0,.j 0,.k false,.j 0,.sl 4 []] ⟨_,zeroValue170,rfl,rfl⟩ .l) 171 [.j 0,.j 0,.k false,.j 0,.j 0,.j 0,.j 0,.j 0,.j 0,.k false,.j 0,.sl 4 []] ⟨_,zeroValue171,rfl,rfl⟩ .l) 176 Z5 ⟨_,zeroValue176,rfl,rfl⟩ (.n .l 178 Z5 ⟨_,zeroValue178,rfl,rfl⟩ .l)))) 182 Z5 ⟨_,zeroValue182,rfl,rfl⟩ (.n (.n (.n (.n (.n .l 183 Z5 ⟨_,zeroValue183,rfl,rfl⟩ .l) 185 Z18 ⟨_,zeroValue185,rfl,rfl⟩ .l) 187 Z9 ⟨_,zeroValue187,rfl,rfl⟩ (.n (.n .l 189 Z5 ⟨_,zeroValue189,rfl,rfl⟩ .l) 190 Z5 ⟨_,zeroValue190,rfl,rfl⟩ .l)) 196 Z5 ⟨_,zeroValue196,rfl,rfl⟩ (.n (.n (.n .l 199 Z5 ⟨_,zeroValue199,rfl,rfl⟩ .l) 200 Z5 ⟨_,zeroValue200,rfl,rfl⟩ .l) 202 Z5 ⟨_,zeroValue202,rfl,rfl⟩ (.n .l 203 Z5 ⟨_,zeroValue203,rfl,rfl⟩ .l))) 205 Z5 ⟨_,zeroValue205,rfl,rfl⟩ (.n (.n (.n (.n .l 210 [.lit (.int .u64 0)] ⟨_,zeroValue210,rfl,rfl⟩ .l) 220 Z9 ⟨_,zeroValue220,rfl,rfl⟩ .l) 221 [.j 0,.j 0,.j 0,.j 0,.j 0,.j 0,.j 0,.j 0,.j 0,.j 0] ⟨_,zeroValue221,rfl,rfl⟩ (.n (.n .l 222 [.j 0,.j 0,.j 0,.j 0,.j 0,.j 0,.j 0,.j 0,.j 0,.j 0,.j 0,.j 0,.j 0,.j 0,.j 0,.j 0] ⟨_,zeroValue222,rfl,rfl⟩ .l) 223 [.j 0,.j 0,.j 0,.j 0,.j 0,.j 0,.j 0,.j 0,.j 0,.j 0,.j 0,.j 0,.j 0,.j 0,.j 0,.j 0] ⟨_,zeroValue223,rfl,rfl⟩ .l)) 224 [.j 0,.j 0,.j 0,.j 0,.j 0,.j 0,.j 0,.j 0,.j 0,.j 0,.j 0,.j 0,.j 0,.j 0,.j 0,.j 0,.lit (.pointer none),.j 0,.j 0,.j 0] ⟨_,zeroValue224,rfl,rfl⟩ (.n (.n (.n .l 225 [.j 0,.j 0,.j 0,.j 0,.j 0,.j 0,.j 0,.j 0,.j 0,.j 0,.j 0,.j 0,.j 0,.j 0,.j 0,.j 0,.lit (.pointer none),.j 0,.j 0,.j 0] ⟨_,zeroValue225,rfl,rfl⟩ .l) 231 Z5 ⟨_,zeroValue231,rfl,rfl⟩ .l) 232 Z5 ⟨_,zeroValue232,rfl,rfl⟩ (.n .l 238 Z5 ⟨_,zeroValue238,rfl,rfl⟩ .l))))) 239 Z5 ⟨_,zeroValue239,rfl,rfl⟩ (.n (.n (.n (.n (.n (.n .l 240 [.j 0,.j 0] ⟨_,zeroValue240,rfl,rfl⟩ .l) 241 [.j 0,.j 0] ⟨_,zeroValue241,rfl,rfl⟩ .l) 245 Z18 ⟨_,zeroValue245,rfl,rfl⟩ (.n (.n .l 246 [.j 0,.sl 1 [],.sl 1 [],.lit (.map none)] ⟨_,zeroValue246,rfl,rfl⟩ .l) 247 [.j 0,.sl 1 [],.sl 1 [],.lit (.map none)] ⟨_,zeroValue247,rfl,rfl⟩ .l)) 249 Z5 ⟨_,zeroValue249,rfl,rfl⟩ (.n (.n (.n .l 255 [.sl 1 []] ⟨_,zeroValue255,rfl,rfl⟩ .l) 259 [.sl 2 []] ⟨_,zeroValue259,rfl,rfl⟩ .l) 260 [.sl 2 [],.j 0,.j 0,.j 0,.j 0] ⟨_,zeroValue260,rfl,rfl⟩ (.n .l 261 [.sl 2 [],.j 0,.j 0,.j 0,.j 0] ⟨_,zeroValue261,rfl,rfl⟩ .l))) 262 Z24 ⟨_,zeroValue262,rfl,rfl⟩ (.n (.n (.n (.n .l 263 Z24 ⟨_,zeroValue263,rfl,rfl⟩ .l) 289 Z5 ⟨_,zeroValue289,rfl,rfl⟩ .l) 290 Z5 ⟨_,zeroValue290,rfl,rfl⟩ (.n (.n .l 292 Z18 ⟨_,zeroValue292,rfl,rfl⟩ .l) 294 Z18 ⟨_,zeroValue294,rfl,rfl⟩ .l)) 295 Z18 ⟨_,zeroValue295,rfl,rfl⟩ (.n (.n (.n .l 309 Z9 ⟨_,zeroValue309,rfl,rfl⟩ .l) 312 [.j 0,.j 0,.k false,.j 0,.j 0,.j 0,.j 0,.j 0,.j 0,.k false] ⟨_,zeroValue312,rfl,rfl⟩ .l) 313 [.j 0,.j 0,.k false,.j 0,.j 0,.j 0,.j 0,.j 0,.j 0,.k false] ⟨_,zeroValue313,rfl,rfl⟩ (.n .l 314 [.sl 1 []] ⟨_,zeroValue314,rfl,rfl⟩ .l)))) 315 [.sl 7 []] ⟨_,zeroValue315,rfl,rfl⟩ (.n (.n (.n (.n (.n .l 316 [.j 0,.j 0,.k false,.j 0,.j 0,.j 0,.j 0,.j 0,.j 0,.k false,.sl 2 [],.j 0,.j 0,.j 0,.j 0,.j 0,.j 0,.j 0,.j 0,.j 0,.j 0,.j 0,.sl 1 [],.sl 7 []] ⟨_,zeroValue316,rfl,rfl⟩ .l) 317 [.j 0,.j 0,.k false,.j 0,.j 0,.j 0,.j 0,.j 0,.j 0,.k false,.sl 2 [],.j 0,.j 0,.j 0,.j 0,.j 0,.j 0,.j 0,.j 0,.j 0,.j 0,.j 0,.sl 1 [],.sl 7 []] ⟨_,zeroValue317,rfl,rfl⟩ .l) 334 Z5 ⟨_,zeroValue334,rfl,rfl⟩ (.n (.n .l 345 [.lit (.int .u32 0)] ⟨_,zeroValue345,rfl,rfl⟩ .l) 359 Z9 ⟨_,zeroValue359,rfl,rfl⟩ .l)) 384 [.j 0,.j 0] ⟨_,zeroValue384,rfl,rfl⟩ (.n (.n (.n .l 385 [.j 0,.j 0] ⟨_,zeroValue385,rfl,rfl⟩ .l) 389 [.j 0,.k false,.j 0,.j 0,.j 0,.j 0,.k false] ⟨_,zeroValue389,rfl,rfl⟩ .l) 390 [.j 0,.k false,.j 0,.j 0,.j 0,.j 0,.k false] ⟨_,zeroValue390,rfl,rfl⟩ (.n .l 454 [.lit (.pointer none),.lit (.pointer none),.lit (.pointer none),.lit (.string ⟨#[]⟩)] ⟨_,zeroValue454,rfl,rfl⟩ .l))) 455 [.lit (.pointer none),.lit (.pointer none),.lit (.pointer none),.lit (.string ⟨#[]⟩)] ⟨_,zeroValue455,rfl,rfl⟩ (.n (.n (.n (.n .l 456 [] ⟨_,zeroValue456,rfl,rfl⟩ .l) 457 [] ⟨_,zeroValue457,rfl,rfl⟩ .l) 458 [] ⟨_,zeroValue458,rfl,rfl⟩ (.n (.n .l 459 Z30 ⟨_,zeroValue459,rfl,rfl⟩ .l) 460 Z30 ⟨_,zeroValue460,rfl,rfl⟩ .l)) 461 Z5 ⟨_,zeroValue461,rfl,rfl⟩ (.n (.n (.n .l 462 [.lit (.int .i32 0)] ⟨_,zeroValue462,rfl,rfl⟩ .l) 463 [.lit (.int .i32 0)] ⟨_,zeroValue463,rfl,rfl⟩ .l) 464 Z7 ⟨_,zeroValue464,rfl,rfl⟩ (.n .l 465 Z7 ⟨_,zeroValue465,rfl,rfl⟩ .l)))))),Checked.mixed Tryz.checked⟩
theorem aQr:jV Tryz.prog 26 2:=⟨isAgg26,sizeOf26⟩
theorem kD:fZ Tryz.prog 3:=⟨isAgg3,sizeOf3⟩
instance:I1 Tryz.prog 3:=⟨kD⟩
theorem bZv:SliceTy Tryz.prog 30 116 3 24 (.agg #[.int .i64 0,.int .i64 0,.int .i64 0]):=⟨underlying30,⟨Tryz.t116,by kernel_rfl,rfl,rfl,rfl⟩,rfl,by decide⟩
instance:SO Tryz.prog 30 116 3:=⟨bZv.of⟩
theorem bHk:eI Tryz.prog 26 0 0:=eK runUnderlying26 rfl rfl sizeOf3
instance:FA Tryz.prog 26 0 0:=⟨bHk⟩
theorem aMk:SliceTy Tryz.prog 112 97 4 32 (.agg #[.int .i64 0,.int .i64 0,.int .i64 0,.int .i64 0]):=⟨underlying112,⟨Tryz.t97,by kernel_rfl,rfl,rfl,rfl⟩,rfl,by decide⟩
instance:SO Tryz.prog 112 97 4:=⟨aMk.of⟩
theorem bGd:jV Tryz.prog 97 4:=⟨isAgg97,sizeOf97⟩
theorem cCt:jV Tryz.prog 39 2:=⟨isAgg39,sizeOf39⟩
theorem aAj:fZ Tryz.prog 24:=⟨isAgg24,sizeOf24⟩
instance:I1 Tryz.prog 24:=⟨aAj⟩
theorem gK:SliceTy Tryz.prog 24 3 1 8 (.int .i64 0):=⟨underlying24,⟨Tryz.t3,by kernel_rfl,rfl,rfl,rfl⟩,rfl,by decide⟩
instance:SO Tryz.prog 24 3 1:=⟨gK.of⟩
theorem cBl:fZ Tryz.prog 112:=⟨isAgg112,sizeOf112⟩
instance:I1 Tryz.prog 112:=⟨cBl⟩
theorem bAd:SliceTy Tryz.prog 61 103 5 40 (.agg #[.int .i64 0,.int .i64 0,.int .i64 0,.int .i64 0,.int .i64 0]):=⟨underlying61,⟨Tryz.t103,by kernel_rfl,rfl,rfl,rfl⟩,rfl,by decide⟩
instance:SO Tryz.prog 61 103 5:=⟨bAd.of⟩
theorem aVz:eI Tryz.prog 26 1 1:=eK runUnderlying26 rfl rfl sizeOf24
instance:FA Tryz.prog 26 1 1:=⟨aVz⟩
theorem bPk:mX Tryz.prog 3 VI:=bSu underlying3
theorem rF:jV Tryz.prog 103 5:=⟨isAgg103,sizeOf103⟩
theorem aCd:eI Tryz.prog 103 3 3:=eK runUnderlying103 rfl rfl sizeOf3
instance:FA Tryz.prog 103 3 3:=⟨aCd⟩
theorem bSm:eI Tryz.prog 103 0 0:=eK runUnderlying103 rfl rfl sizeOf3
instance:FA Tryz.prog 103 0 0:=⟨bSm⟩
theorem bSn:eI Tryz.prog 103 1 1:=eK runUnderlying103 rfl rfl sizeOf3
instance:FA Tryz.prog 103 1 1:=⟨bSn⟩
theorem aRp:eI Tryz.prog 103 2 2:=eK runUnderlying103 rfl rfl sizeOf3
instance:FA Tryz.prog 103 2 2:=⟨aRp⟩
theorem bSo:eI Tryz.prog 103 4 4:=eK runUnderlying103 rfl rfl sizeOf3
theorem bNx:oP Tryz.prog 241 (.agg #[.int .i64 0,.int .i64 0]) [(0,1),(1,1)]:=⟨zeroValue241,_,runUnderlying241,λw=>by simp[sizeOf3]⟩
theorem xE:jV Tryz.prog 241 2:=⟨isAgg241,sizeOf241⟩
theorem aJz:eI Tryz.prog 241 0 0:=eK runUnderlying241 rfl rfl sizeOf3
theorem cCe:oP Tryz.prog 247 (.agg #[.int .i64 0,.slice none 0 0,.slice none 0 0,.map none]) [(0,2),(2,1),(3,1)]:=⟨zeroValue247,_,runUnderlying247,λw=>by simp[sizeOf24,sizeOf245,sizeOf26]⟩
theorem aTr:aGs Tryz.prog 103 aG:=by
  rintro⟨a0,a1,a2,a3,a4⟩ ⟨b0,b1,b2,b3,b4⟩ w
  simp[aG,bA,go_sem,Op.eqFields,Program.fieldsOf]<;>(repeat' split)<;>simp_all
theorem cAn(b:Bool)(a:aA)(w:World):(Instr.checkKey b 10000 103 (.agg ((aG a).map bA).toArray)).run Tryz.prog w=.ok () w:=by
  obtain⟨a1,a2,a3,a4,a5⟩:=a;rw[show(10000:Nat)=9990+10 from rfl]
  generalize(9990:Nat)=m
  simp[Instr.checkKey,aG,bA,go_sem,Std.Legacy.Range.forIn_eq_forIn_range',Std.Legacy.Range.size]
theorem bBo:mX Tryz.prog 103 (λa:aA=>Value.agg ((aG a).map bA).toArray):=
  aIy underlying103 aTr cAn (λa w=>aWb _ rfl _ _) (by
    rintro⟨a1,a2,a3,a4,a5⟩ ⟨b1,b2,b3,b4,b5⟩ h
    simp[aG] at h|-
    simp_all) (λ_=>rfl)
theorem bBj:aGs Tryz.prog 241 aH:=by
  rintro⟨a0,a1⟩ ⟨b0,b1⟩ w
  simp[aH,bA,go_sem,Op.eqFields,Program.fieldsOf]<;>(repeat' split)<;>simp_all
theorem cAp(b:Bool)(a:aB)(w:World):(Instr.checkKey b 10000 241 (.agg ((aH a).map bA).toArray)).run Tryz.prog w=.ok () w:=by
  obtain⟨a1,a2⟩:=a;rw[show(10000:Nat)=9990+10 from rfl]
  generalize(9990:Nat)=m
  simp[Instr.checkKey,aH,bA,go_sem,Std.Legacy.Range.forIn_eq_forIn_range',Std.Legacy.Range.size]
theorem aEn:mX Tryz.prog 241 (λa:aB=>Value.agg ((aH a).map bA).toArray):=
  aIy underlying241 bBj cAp (λa w=>aWb _ rfl _ _) (by
    rintro⟨a1,a2⟩ ⟨b1,b2⟩ h
    simp[aH] at h|-
    simp_all) (λ_=>rfl)
theorem aGd:eI Tryz.prog 247 1 2:=eK runUnderlying247 rfl rfl sizeOf24
instance:FA Tryz.prog 247 1 2:=⟨aGd⟩
theorem aRq:eI Tryz.prog 247 0 0:=eK runUnderlying247 rfl rfl sizeOf26
instance:FA Tryz.prog 247 0 0:=⟨aRq⟩
theorem cCc:oP Tryz.prog 103 (.agg #[.int .i64 0,.int .i64 0,.int .i64 0,.int .i64 0,.int .i64 0]) [(0,1),(1,1),(2,1),(3,1),(4,1)]:=⟨zeroValue103,_,runUnderlying103,λw=>by simp[sizeOf3]⟩
theorem aRr:eI Tryz.prog 247 2 3:=eK runUnderlying247 rfl rfl sizeOf245
theorem bCb:fZ Tryz.prog 245:=⟨isAgg245,sizeOf245⟩
theorem cEr:oP Tryz.prog 97 (.agg #[.int .i64 0,.int .i64 0,.int .i64 0,.int .i64 0]) [(0,1),(1,1),(2,1),(3,1)]:=⟨zeroValue97,_,runUnderlying97,λw=>by simp[sizeOf3]⟩
theorem cAe:jV Tryz.prog 116 3:=⟨isAgg116,sizeOf116⟩
theorem aIg:jV Tryz.prog 158 2:=⟨isAgg158,sizeOf158⟩
theorem aMp:oP Tryz.prog 158 (.agg #[.slice none 0 0,.slice none 0 0]) [(0,1),(1,1)]:=⟨zeroValue158,_,runUnderlying158,λw=>by simp[sizeOf156,sizeOf24]⟩
theorem aCe:eI Tryz.prog 158 1 1:=eK runUnderlying158 rfl rfl sizeOf156
instance:FA Tryz.prog 158 1 1:=⟨aCe⟩
theorem aMh:fZ Tryz.prog 156:=⟨isAgg156,sizeOf156⟩
instance:I1 Tryz.prog 156:=⟨aMh⟩
theorem aMl:SliceTy Tryz.prog 156 24 1 24 (.slice none 0 0):=⟨underlying156,⟨Tryz.t24,by kernel_rfl,rfl,rfl,rfl⟩,rfl,by decide⟩
theorem aTh:SliceTy Tryz.prog 104 39 2 16 (.agg #[.int .i64 0,.int .i64 0]):=⟨underlying104,⟨Tryz.t39,by kernel_rfl,rfl,rfl,rfl⟩,rfl,by decide⟩
instance:SO Tryz.prog 104 39 2:=⟨aTh.of⟩
theorem bNd:fZ Tryz.prog 187:=⟨isAgg187,sizeOf187⟩
theorem bWe:eI Tryz.prog 97 2 2:=eK runUnderlying97 rfl rfl sizeOf3
instance:FA Tryz.prog 97 2 2:=⟨bWe⟩
theorem bWf:eI Tryz.prog 97 3 3:=eK runUnderlying97 rfl rfl sizeOf3
instance:FA Tryz.prog 97 3 3:=⟨bWf⟩
theorem bRq:jV Tryz.prog 41 7:=⟨isAgg41,sizeOf41⟩
theorem bZw:SliceTy Tryz.prog 37 88 4 32 (.agg #[.int .i64 0,.int .i64 0,.int .i64 0,.int .i64 0]):=⟨underlying37,⟨Tryz.t88,by kernel_rfl,rfl,rfl,rfl⟩,rfl,by decide⟩
instance:SO Tryz.prog 37 88 4:=⟨bZw.of⟩
theorem bHl:eI Tryz.prog 41 0 0:=eK runUnderlying41 rfl rfl sizeOf3
theorem bWd:eI Tryz.prog 41 2 2:=eK runUnderlying41 rfl rfl sizeOf3
instance:FA Tryz.prog 41 2 2:=⟨bWd⟩
theorem cCu:jV Tryz.prog 88 4:=⟨isAgg88,sizeOf88⟩
theorem bAb:SliceTy Tryz.prog 137 141 2 16 (.agg #[.int .i64 0,.int .i64 0]):=⟨underlying137,⟨Tryz.t141,by kernel_rfl,rfl,rfl,rfl⟩,rfl,by decide⟩
instance:SO Tryz.prog 137 141 2:=⟨bAb.of⟩
theorem cBm:fZ Tryz.prog 137:=⟨isAgg137,sizeOf137⟩
instance:I1 Tryz.prog 137:=⟨cBm⟩
theorem bLy:jV Tryz.prog 141 2:=⟨isAgg141,sizeOf141⟩
theorem cCd:oP Tryz.prog 141 (.agg #[.int .i64 0,.int .i64 0]) [(0,1),(1,1)]:=⟨zeroValue141,_,runUnderlying141,λw=>by simp[sizeOf3]⟩
theorem cAv:aGs Tryz.prog 101 dW:=by
  rintro⟨a0,a1,a2,a3,a4⟩ ⟨b0,b1,b2,b3,b4⟩ w
  simp[dW,bA,go_sem,Op.eqFields,Program.fieldsOf]<;>(repeat' split)<;>simp_all
theorem cDb:aGs Tryz.prog 39 cF:=by
  rintro⟨a0,a1⟩ ⟨b0,b1⟩ w
  simp[cF,bA,go_sem,Op.eqFields,Program.fieldsOf]<;>(repeat' split)<;>simp_all
theorem aLw:aGs Tryz.prog 124 cH:=by
  rintro⟨a0,a1⟩ ⟨b0,b1⟩ w
  simp[cH,bA,go_sem,Op.eqFields,Program.fieldsOf]<;>(repeat' split)<;>simp_all
theorem bZx:SliceTy Tryz.prog 78 131 2 16 (.agg #[.int .i64 0,.int .i64 0]):=⟨underlying78,⟨Tryz.t131,by kernel_rfl,rfl,rfl,rfl⟩,rfl,by decide⟩
instance:SO Tryz.prog 78 131 2:=⟨bZx.of⟩
theorem bLv:jV Tryz.prog 131 2:=⟨isAgg131,sizeOf131⟩
theorem bZy:SliceTy Tryz.prog 79 133 3 24 (.agg #[.int .i64 0,.int .i64 0,.int .i64 0]):=⟨underlying79,⟨Tryz.t133,by kernel_rfl,rfl,rfl,rfl⟩,rfl,by decide⟩
instance:SO Tryz.prog 79 133 3:=⟨bZy.of⟩
theorem bLw:jV Tryz.prog 133 3:=⟨isAgg133,sizeOf133⟩
theorem bAe:SliceTy Tryz.prog 80 135 4 32 (.agg #[.int .i64 0,.int .i64 0,.int .i64 0,.int .i64 0]):=⟨underlying80,⟨Tryz.t135,by kernel_rfl,rfl,rfl,rfl⟩,rfl,by decide⟩
theorem bLx:jV Tryz.prog 135 4:=⟨isAgg135,sizeOf135⟩
theorem bMn:aGs Tryz.prog 135 bD:=by
  rintro⟨a0,a1,a2,a3⟩ ⟨b0,b1,b2,b3⟩ w
  simp[bD,bA,go_sem,Op.eqFields,Program.fieldsOf]<;>(repeat' split)<;>simp_all

theorem kE(d:Int)(c:Int)(a:Int){r:Bool}(h:fW d c a=some r):Fn Tryz.prog 214 [.i d,.i c,.i a] (.b r):=by
 unfold fW at h;refine fnx xT {} [.tmp 6] func214 results214 ntmps214 ?_;refine jg h (λx h=>?_) λb1 h=>?_
 ·refine br h (λh=>?_) λh=>?_
  ·exact jt h
  ·exact jt h
 ·cases h;exact⟨rfl,rfl,rfl⟩

theorem aVl(g:aD){r:Bool}(h:rG g=some r):Fn Tryz.prog 167 [.agg (bB g)] (.b r):=by
 unfold rG at h;refine fnx xT {} [.tmp 2] func167 results167 ntmps167 ?_;refine⟨by kernel_rfl,?_⟩;refine cl call214 (λ_=>kE _ _ _) h λr2 h=>?_;refine jo h (λx h=>?_) λb4 h=>?_
 ·refine br h (λh=>?_) λh=>?_
  ·exact⟨by kernel_rfl,jt h⟩
  ·refine ol ?_;refine oge h λh=>?_;exact⟨by kernel_rfl,jt h⟩
 ·refine⟨by kernel_rfl,?_⟩;refine br h (λh=>?_) λh=>?_
  ·cases h;exact⟨rfl,rfl,rfl⟩
  ·refine omm false ?_;refine ol ?_;refine xlp [1,3,21,22] [1] (λ((e,c):Int×(List (Int×Int)))=>([(23,.i e)],[(19,.map false (c.map λp:Int×Int=>(VI p.1,aI p.2)))])) (λk ((e,c):Int×(List (Int×Int)))=>jR g.Slots (g.Slots.length:Int) g k e c) (0,([]:List (Int×Int))) h (lev []) ?_;rintro j ⟨e,c⟩ h;simp only[jR] at h;refine br h (λh=>?_) λh=>?_
   ·refine oi h λf h=>?_;refine br h (λh=>?_) λh=>?_
    ·refine cFs ?_;refine oi h λl h=>?_;refine br h (λh=>?_) λh=>?_
     ·cases h;exact⟨rfl,rfl,rfl⟩
     ·exact⟨(w64 (e+1),c),h,lev []⟩
    ·refine olk (enc:=aI) (agg:=false) (z:=0) (a:=f) bPk underlying292 zeroValue3 (λ_ _=>.d (.lit _ rfl)) (aGe (kv:=VI) f) ?_;refine oup (enc:=aI) (agg:=false) (v:=w64 ((cE f 0 c)+1)) (a:=f) bPk underlying292 (aGe (kv:=VI) f) ?_;refine olk (enc:=aI) (agg:=false) (z:=0) (a:=f) bPk underlying292 zeroValue3 (λ_ _=>.d (.lit _ rfl)) (aGe (kv:=VI) f) ?_;refine jg h (λx h=>?_) λm h=>?_
     ·refine br h (λh=>?_) λh=>?_
      ·exact jt h
      ·refine cl call214 (λ_=>kE _ _ _) h λo h=>?_;exact jt h
     ·refine br h (λh=>?_) λh=>?_
      ·cases h;exact⟨rfl,rfl,rfl⟩
      ·exact⟨(w64 (e+1),(eM f (w64 ((cE f 0 c)+1)) c)),h,lev []⟩
   ·simp only[zY] at h;cases h;exact⟨rfl,rfl,rfl⟩

theorem aGn(e:List aA)(f:aA->Option Bool){r:Int}(a:Nat)(c:List AV)(j:∀args w,(callFunc a args).run Tryz.prog w=.ok (.enter a args) w)(l:∀(x0:aA) r,f x0=some r->Fn Tryz.prog a ([.agg (aG x0)]++c) (.b r))(h:jX e f=some r):Fn Tryz.prog 215 [.d (Z26 e),.fn a c] (.i r):=by
 unfold jX at h;refine oT [.tmp 4] func215 results215 ntmps215 ?_;refine au 12 ?_;refine eV (S:=Int) [0,1,7] (λs1=>[(8,.i s1)]) (λs1=>[]) (λk s1=>eO e f (e.length:Int) k s1) (λ_=>rfl) (0) h (aQ [] rfl rfl (aL rfl (aY (ae rfl)))) ?_;rintro k2 g h;simp only[eO] at h;refine au 5 ?_;refine tih h (λc3 h=>?_) (λc3 h=>?_)
 ·refine au 10 ?_;refine tm (.fn a c) (au 2 ?_);obtain⟨x4,h5,h⟩:=bns h;refine to (six rfl rfl bAd.of (dM aG h5)) (to (aHd (aG x4) rfl rF) ?_);obtain⟨r6,h7,h⟩:=bns h;refine to (qS (aC rfl) (.clo _ _ _ _ j rfl) (aEl rfl) rfl (BVs.refl _ _) (l _ _ h7) rfl) ?_;refine aP ?_;refine tih h (λc8 h=>?_) (λc8 h=>?_)
  ·refine au 5 ?_;obtain rfl:=sIn h;exact rt
  ·refine mC ?_;refine au 4 ?_;exact⟨(w64 (g+1)),h,aQ [] rfl rfl (aL rfl (aY (ae rfl)))⟩
 ·refine dS ?_;refine .inl ⟨rfl,?_⟩;simp only[oZ] at h;refine au 4 ?_;obtain rfl:=sIn h;exact rt

theorem aDu(g:List aA)(i:aA->Option Bool){r:Bool}(a:Nat)(c:List AV)(e:∀args w,(callFunc a args).run Tryz.prog w=.ok (.enter a args) w)(f:∀(x0:aA) r,i x0=some r->Fn Tryz.prog a ([.agg (aG x0)]++c) (.b r))(h:iK g i=some r):Fn Tryz.prog 168 [.d (Z26 g),.fn a c] (.b r):=by
 unfold iK at h;refine oT [.tmp 4] func168 results168 ntmps168 ?_;refine au 7 ?_;refine tm (.fn a c) ?_;obtain⟨r1,h2,h⟩:=bns h;refine to (scr call215 (aGn _ _ a c e f h2)) (au 3 ?_);obtain rfl:=sIn h;exact rt

theorem yG(a:aB)(c:aD){r:Bool}(h:oQ a c=some r):Fn Tryz.prog 213 [.agg (aH a),.agg (bB c)] (.b r):=by
 unfold oQ at h;refine fnx xT {} [.tmp 4] func213 results213 ntmps213 ?_;refine⟨by kernel_rfl,?_⟩;refine cl call214 (λ_=>kE _ _ _) h λr3 h=>?_;refine jo h (λx h=>?_) λb5 h=>?_
 ·refine br h (λh=>?_) λh=>?_
  ·refine ol ?_;refine oge h λh=>?_;refine cl call214 (λ_=>kE _ _ _) h λr9 h=>?_;exact⟨by kernel_rfl,jt h⟩
  ·exact⟨by kernel_rfl,jt h⟩
 ·refine⟨by kernel_rfl,?_⟩;cases h;exact⟨rfl,rfl,rfl⟩

theorem aGp(b:List Int)(c:Int){r:Int}(h:kK b c=some r):Fn Tryz.prog 173 [.d (Z14 b),.i c] (.i r):=by
 unfold kK at h;refine fnx xT {} [.tmp 4] func173 results173 ntmps173 ?_;refine ol ?_;refine xlp [0,1,7] [] (λ(a:Int)=>([(8,.i a)],[])) (λk (a:Int)=>jU b c (b.length:Int) k a) (0) h (lev []) ?_;rintro k2 a h;simp only[jU] at h;refine br h (λh=>?_) λh=>?_
 ·refine oi h λx3 h=>?_;refine br h (λh=>?_) λh=>?_
  ·cases h;exact⟨rfl,rfl,rfl⟩
  ·exact⟨(w64 (a+1)),h,lev []⟩
 ·simp only[xU] at h;cases h;exact⟨rfl,rfl,rfl⟩

theorem eJ(a:List Int)(c:Int){r:Bool}(h:cM a c=some r):Fn Tryz.prog 101 [.d (Z14 a),.i c] (.b r):=by
 unfold cM at h;refine fnx xT {} [.tmp 4] func101 results101 ntmps101 ?_;refine cl call173 (λ_=>aGp _ _) h λr1 h=>?_;cases h;exact⟨rfl,rfl,rfl⟩

theorem aVk(a:aD)(c:aA){r:Bool}(h:uP a c=some r):Fn Tryz.prog 170 [.agg (bB a),.agg (aG c)] (.b r):=by
 unfold uP at h;refine fnx xT {} [.tmp 4] func170 results170 ntmps170 ?_;refine cl call214 (λ_=>kE _ _ _) h λr3 h=>?_;refine br h (λh=>?_) λh=>?_
 ·cases h;exact⟨rfl,rfl,rfl⟩
 ·refine br h (λh=>?_) λh=>?_
  ·refine jg h (λx h=>?_) λb5 h=>?_
   ·refine br h (λh=>?_) λh=>?_
    ·refine ol ?_;refine cl call214 (λ_=>kE _ _ _) h λr7 h=>?_;exact jt h
    ·exact jt h
   ·refine jg h (λx h=>?_) λb9 h=>?_
    ·refine br h (λh=>?_) λh=>?_
     ·refine cl call214 (λ_=>kE _ _ _) h λd h=>?_;exact jt h
     ·exact jt h
    ·cases h;exact⟨rfl,rfl,rfl⟩
  ·refine cl call214 (λ_=>kE _ _ _) h λe h=>?_;refine jg h (λx h=>?_) λf h=>?_
   ·refine br h (λh=>?_) λh=>?_
    ·exact jt h
    ·exact jt h
   ·refine jg h (λx h=>?_) λg h=>?_
    ·refine br h (λh=>?_) λh=>?_
     ·exact jt h
     ·refine cl call213 (λ_=>yG _ _) h λi h=>?_;exact jt h
    ·refine br h (λh=>?_) λh=>?_
     ·cases h;exact⟨rfl,rfl,rfl⟩
     ·refine jg h (λx h=>?_) λj h=>?_
      ·refine br h (λh=>?_) λh=>?_
       ·exact jt h
       ·refine osb h λk h=>?_;refine cl call101 (λ_=>eJ _ _) h λl h=>?_;exact jt h
      ·cases h;exact⟨rfl,rfl,rfl⟩

theorem aVm(a:aA)(c:aD){r:Bool}(h:rH a c=some r):Fn Tryz.prog 169 [.agg (aG a),.cp (bB c)] (.b r):=by
 unfold rH at h;refine fnx xT {} [.tmp 3] func169 results169 ntmps169 ?_;refine cl call170 (λ_=>aVk _ _) h λr2 h=>?_;cases h;exact⟨rfl,rfl,rfl⟩

theorem sG(a:List Int){r:(List Int)}(h:gO a=some r):bC Tryz.prog 192 [.d (Z14 a)] [] (λr' o'=>∃(w0:Value),r'=.d (.lit w0)/\o'=[.arr w0 3 1 (r.map aI)]):=by
 unfold gO at h;refine iW func192 rfl (rs:=[.tmp 2]) results192 ntmps192 (Nat.le_of_ble_eq_true rfl) ?_;refine aZ (aO (to (pS 3 1 (.inl rfl) (aC rfl)) ?_));refine au 5 ?_;refine bJ rfl (aPe (aC rfl) rfl rfl underlying24) ?_;rintro _ ⟨b2,h3,rfl⟩;refine aP ?_;refine rA rfl (λc4=>?_) (λc4=>?_)
 ·obtain rfl:=aOi (h3 c4)
  simp[app] at h
  subst h;refine aZ (aO (to (pS 3 1 (.inl rfl) (aC rfl)) ?_));refine aP ?_;refine kA (aQ [1,0] rfl rfl (le_refl _)) ?_;exact cW ⟨rfl,_,Z17,Z17,_,.one (.tmp 2 (v:=.d (.lit (.slice none 0 0))) rfl),.refl _,.same _,(.slice none 0 0),rfl,rfl⟩
 ·refine au 3 ?_;refine bJ rfl (aKl (aC rfl) gK rfl rfl (rows:=(([]:List Int)).map aI) rfl (fH (f:=aI) λ_=>rfl) rfl (by decide)) ?_;rintro _ ⟨v5,rfl⟩;refine tm (.d (Z14 a)) ?_;obtain⟨x6,h7,h⟩:=bns h;refine bJ rfl (kI (i:=1) (aC rfl) gK rfl rfl rfl (λ_=>rfl) h7 rfl) ?_;rintro _ ⟨v8,rfl⟩;refine au 2 ?_;obtain rfl:=sIn h;refine kA (aQ [1,0] rfl rfl (le_refl _)) ?_;exact cW ⟨rfl,_,[.arr v8 3 1 (x6.map aI)],Z17,_,.one (.tmp 2 (v:=.d (.lit v8)) rfl),.refl _,.same _,v8,rfl,rfl⟩

theorem aEa(f:aD)(n:List Int)(o:List (aA×Int))(g:Int){Q:(aA×Bool)->Prop}{d_0_b d_0_o:Nat}{c:Value}{t:Nat}{j:Nat}{s:List Nat}{e:Nat}(h:jQ f n o g Q):bC Tryz.prog 253 [.bp d_0_b d_0_o 0,.d (Z29 j),.i g] (Z3 d_0_b d_0_o f c t n j o s e) (λr' o'=>∃(r:aA×Bool),Q r/\r'=.tup [.agg (aG r.1),.b r.2]/\o'=(Z3 d_0_b d_0_o f c t n j o s e)):=by
 unfold jQ at h;refine iW func253 rfl (rs:=[.cell 6 103,.tmp 7]) results253 ntmps253 (Nat.le_of_ble_eq_true rfl) ?_;refine aZ (aO ?_);refine bJ rfl (dE (zs:=[.j 0,.j 0,.j 0,.j 0,.j 0]) (aC rfl) zeroValue103 rfl rfl) ?_;rintro _ ⟨b1,rfl⟩;refine au 6 ?_;refine bJ rfl (bNi (m:=2) (aC rfl) underlying294 rfl rfl) ?_;rintro _ ⟨q2,h4,rfl⟩;have h:=aSh h h4;refine aP (zL ?_);refine aFg [0,2,6,10] (λ(s5:aA×(List Nat))=>[]) (λ(s5:aA×(List Nat))=>[.arr c 3 1 (n.map aI),.box d_0_b d_0_o [.j f.Rounds,.sl 1 (Z6 f),.lit c,.lit (.map (some t))],.map j (o.map λp:aA×Int=>((λa:aA=>Value.agg ((aG a).map bA).toArray) p.1,(λv:Int=>AV.i v) p.2)) s e,.box b1 0 (aG s5.1),.iter q2 j e s5.2 e]) (λ(k:Nat) (s5:aA×(List Nat))=>jB Q g n f o k s5.1 (cQ o s s5.2)) (λ_ h=>h) (Z27,[]) h (aQ [1,0,2,3,4] rfl rfl (aY (ae rfl))) ?_;rintro k7 ⟨z,w⟩ h;simp only[jB] at h;refine aZ (aO ?_);refine bJ rfl (bUs (kv:=(λa:aA=>Value.agg ((aG a).map bA).toArray)) (av:=(λv:Int=>AV.i v)) (l:=o) (mi:=4) (mm:=2) (aC rfl) rfl rfl rfl) ?_;rintro _ (⟨G,rfl⟩|⟨j9,A,p8,B,rfl⟩)
 ·have h:=h.1 G;refine au 3 ?_;refine rA rfl (λC=>?_) (λC=>?_)
  ·exact absurd C (by decide)
  ·refine dS ?_;refine .inl ⟨rfl,?_⟩;simp only[qU] at h;refine aZ (aO (to (iV (aC rfl) cCc (zs:=[.j 0,.j 0,.j 0,.j 0,.j 0]) rfl rfl rfl rfl (es:=[.j 0,.j 0,.j 0,.j 0,.j 0]) rfl) ?_));refine to (sst 3 rfl rfl sizeOf103 (aG Z27)) (au 2 ?_);refine kA (aQ [1,0,2,3,4] rfl rfl (le_refl _)) ?_;exact cW ⟨rfl,_,(Z3 d_0_b d_0_o f c t n j o s e),[.box b1 0 (aG Z27),.iter q2 j e w e],_,.two (.cell 6 103 rfl (i:=3) rfl rF (es:=(aG Z27)) rfl rfl) (.tmp 7 (v:=.b false) rfl),.refl _,.same _,(Z27,false),h,rfl,rfl⟩
 ·have h:=aUx h B;refine au 3 ?_;refine rA rfl (λE=>?_) (λE=>?_)
  ·refine au 4 ?_;refine to (bNh (kv:=(λa:aA=>Value.agg ((aG a).map bA).toArray)) (av:=(λv:Int=>AV.i v)) (l:=o) (mi:=4) (mm:=2) (ka:=.agg (aG p8.1)) (aC rfl) rfl rfl rfl B (λ_ _=>.agg (aCf rfl))) ?_;refine to (sex rfl rfl) ?_;refine bJ rfl (dE (zs:=[.j 0,.j 0,.j 0,.j 0,.j 0]) (aC rfl) zeroValue103 rfl rfl) ?_;rintro _ ⟨x,rfl⟩;refine to (sst 5 rfl rfl sizeOf103 (aG p8.1)) (aP (aZ ?_));obtain⟨H,u,h⟩:=mQ h;refine kX mix 16 [0,2,6,8,10] [(30,.b H)] ?_ ?_
   ·refine bch u (λq u=>?_) (λq u=>?_)
    ·obtain⟨y,F,u⟩:=bns u;obtain rfl:=sIn u;refine⟨[(15,0,.bp x 0 2),(16,1,.i p8.1.Place),(17,2,.i g),(18,3,.b (decide (p8.1.Place=g))),(19,4,.b (decide (p8.1.Place=g))),(20,5,.bp x 0 4),(21,6,.i p8.1.Old),(22,7,.bp d_0_b d_0_o 0),(23,8,.bp d_0_b d_0_o 0),(24,9,.bp d_0_b d_0_o 2),(25,10,.d (.lit c)),(26,11,.i g),(27,12,.ep c 1 g.toNat 0),(28,13,.i y),(29,14,.b (decide (p8.1.Old=y))),(30,15,.b (decide (p8.1.Old=y)))],?_,?_⟩
     · exact dk [0,1,0,203,4,5,506,5,508,509,510,5,51112,513,50714,515] ⟨go (zf rfl aRp),
 go (zl 5 rfl rfl rfl kD),
 go (zm (.i g)),
 go (zcm rfl rfl rfl),
 go (zm (.b (decide (p8.1.Place=g)))),
 gt q (zf rfl bSo),
 gt q (zl 5 rfl rfl rfl kD),
 gt q (zm (.bp d_0_b d_0_o 0)),
 gt q λS hS=>jI (aC rfl) (bI hS rfl),
 gt q (zf rfl aGd),
 gt q (zl 1 rfl rfl rfl aAj),
 gt q (zm (.i g)),
 gt q (zia 0 rfl rfl rfl gK.of (dM aI F)),
 gt q λS hS=>zG (aC rfl) (bI hS rfl) (m:=0) rfl (iT aI F) rfl kD,
 gt q (zcm rfl rfl rfl),
 go (zpt (.b (decide (p8.1.Old=y))) q),trivial⟩
     · exact iG (aL rfl (aY (ae rfl)))
    ·obtain rfl:=sIn u;refine⟨[(15,0,.bp x 0 2),(16,1,.i p8.1.Place),(17,2,.i g),(18,3,.b (decide (p8.1.Place=g))),(19,4,.b (decide (p8.1.Place=g))),(20,5,.tup []),(21,6,.tup []),(22,7,.tup []),(23,8,.tup []),(24,9,.tup []),(25,10,.tup []),(26,11,.tup []),(27,12,.tup []),(28,13,.tup []),(29,14,.tup []),(30,15,.b false)],?_,?_⟩
     · exact dk [0,1,0,203,4,5,506,5,508,509,510,5,51112,513,50714,515] ⟨go (zf rfl aRp),
 go (zl 5 rfl rfl rfl kD),
 go (zm (.i g)),
 go (zcm rfl rfl rfl),
 go (zm (.b (decide (p8.1.Place=g)))),
 gp q,
 gp q,
 gp q,
 gp q,
 gp q,
 gp q,
 gp q,
 gp q,
 gp q,
 gp q,
 go (zpf (.b false) q),trivial⟩
     · exact iG (aL rfl (aY (ae rfl)))
   ·refine aP ?_;refine tip h (λI h=>?_) (λI h=>?_)
    ·refine aZ (aO (to (sla 5 (aG p8.1) rfl rfl rF) (to (sst 3 rfl rfl sizeOf103 (aG p8.1)) (au 2 ?_))));refine kA (aQ [1,0,2,3,4,5] rfl rfl (le_refl _)) ?_;exact cW ⟨rfl,_,(Z3 d_0_b d_0_o f c t n j o s e),[.box b1 0 (aG p8.1),.iter q2 j e (w++[A]) e,.box x 0 (aG p8.1)],_,.two (.cell 6 103 rfl (i:=3) rfl rF (es:=(aG p8.1)) rfl rfl) (.tmp 7 (v:=.b true) rfl),.refl _,.same _,(p8.1,true),h,rfl,rfl⟩
    ·refine mC ?_;exact⟨(z,(w++[A])),h,aQ [0,1,2,3,4] rfl rfl (aY (ae rfl))⟩
  ·exact absurd E (by decide)

theorem aKx(e:aD)(s:List Int)(A:List (aA×Int)){Q:(Bool×(List Int)×(List (aA×Int)))->Prop}{d_0_b d_0_o:Nat}{c:Value}{q:Nat}{o:Nat}{x:List Nat}{y:Nat}(h:mZ e s A Q):bC Tryz.prog 216 [.bp d_0_b d_0_o 0,.d (Z29 o)] [.box d_0_b d_0_o [.j e.Rounds,.sl 1 (Z6 e),.lit c,.lit (.map (some q))],.arr c 3 1 (s.map aI),.map o (A.map λp:aA×Int=>((λa:aA=>Value.agg ((aG a).map bA).toArray) p.1,(λv:Int=>AV.i v) p.2)) x y] (λr' o'=>∃(r:Bool×(List Int)×(List (aA×Int))) (O:List Nat) (P:Nat),Q r/\r'=.b r.1/\o'=[.box d_0_b d_0_o [.j e.Rounds,.sl 1 (Z6 e),.lit c,.lit (.map (some q))],.arr c 3 1 (r.2.1.map aI),.map o (r.2.2.map λp:aA×Int=>((λa:aA=>Value.agg ((aG a).map bA).toArray) p.1,(λv:Int=>AV.i v) p.2)) O P]):=by
 unfold mZ at h;refine iW func216 rfl (rs:=[.tmp 4]) results216 ntmps216 (Nat.le_of_ble_eq_true rfl) ?_;refine au 7 ?_;refine to (jI (aC rfl) rfl) ?_;refine au 3 ?_;obtain⟨r1,h2,h⟩:=mQ h;refine bJ rfl (aPc (aC rfl) (.func _ _ call192) rfl rfl (sG _ h2)) ?_;rintro _ ⟨v3,rfl⟩;refine au 6 ?_;refine to (jI (aC rfl) rfl) ?_;refine au 2 ?_;refine to (aPf (m:=1) (aC rfl) rfl rfl gK.of) ?_;refine au 3 ?_;refine aFg [0,1,19] (λ(s4:Int×(List Int)×(List (aA×Int))×(List Int)×(List Nat)×Nat×Value)=>[(5,.d (.lit s4.2.2.2.2.2.2)),(20,.i s4.1)]) (λ(s4:Int×(List Int)×(List (aA×Int))×(List Int)×(List Nat)×Nat×Value)=>[.arr c 3 1 (s4.2.1.map aI),.box d_0_b d_0_o [.j e.Rounds,.sl 1 (Z6 e),.lit c,.lit (.map (some q))],.map o (s4.2.2.1.map λp:aA×Int=>((λa:aA=>Value.agg ((aG a).map bA).toArray) p.1,(λv:Int=>AV.i v) p.2)) s4.2.2.2.2.1 s4.2.2.2.2.2.1,.arr s4.2.2.2.2.2.2 3 1 (s4.2.2.2.1.map aI)]) (λ(k:Nat) (s4:Int×(List Int)×(List (aA×Int))×(List Int)×(List Nat)×Nat×Value)=>cJ Q (s.length:Int) e k s4.1 s4.2.1 s4.2.2.1 s4.2.2.2.1) (λ_ h=>h) (0,s,A,r1,x,y,v3) h (aQ [1,0,2,3] rfl rfl (aL rfl (aL rfl (aY (ae rfl))))) ?_;rintro k8 ⟨n,z,t,F,G,H,w7⟩ h;simp only[cJ] at h;refine au 5 ?_;refine tip h (λc9 h=>?_) (λc9 h=>?_)
 ·refine au 13 ?_;refine fY (aQ [1,0,2,3] rfl rfl (le_refl _)) ?_;refine bJ rfl (xI (passed:=[.box d_0_b d_0_o [.j e.Rounds,.sl 1 (Z6 e),.lit c,.lit (.map (some q))],.arr c 3 1 (z.map aI),.map o (t.map λp:aA×Int=>((λa:aA=>Value.agg ((aG a).map bA).toArray) p.1,(λv:Int=>AV.i v) p.2)) G H]) (aC rfl) rfl (.func _ _ call253) rfl rfl (aEa e z t n h)) ?_;rintro _ ⟨_,_,⟨I,h,rfl,rfl⟩,rfl⟩;refine au 3 ?_;refine bJ rfl (dE (zs:=[.j 0,.j 0,.j 0,.j 0,.j 0]) (aC rfl) zeroValue103 rfl rfl) ?_;rintro _ ⟨T,rfl⟩;refine to (sst 4 rfl rfl sizeOf103 (aG I.1)) (au 2 ?_);refine aMr ?_;refine aFg [0,1,6,19,20] (λ(u:Bool×(List Int)×(List (aA×Int))×aA×(List Int)×(List Nat)×Nat×Nat×Value)=>[(5,.d (.lit u.2.2.2.2.2.2.2.2)),(7,.bp u.2.2.2.2.2.2.2.1 0 0),(8,.b u.1)]) (λ(u:Bool×(List Int)×(List (aA×Int))×aA×(List Int)×(List Nat)×Nat×Nat×Value)=>[.arr c 3 1 (u.2.1.map aI),.box d_0_b d_0_o [.j e.Rounds,.sl 1 (Z6 e),.lit c,.lit (.map (some q))],.map o (u.2.2.1.map λp:aA×Int=>((λa:aA=>Value.agg ((aG a).map bA).toArray) p.1,(λv:Int=>AV.i v) p.2)) u.2.2.2.2.2.1 u.2.2.2.2.2.2.1,.box u.2.2.2.2.2.2.2.1 0 (aG u.2.2.2.1),.arr u.2.2.2.2.2.2.2.2 3 1 (u.2.2.2.2.1.map aI)]) (λ(k:Nat) (u:Bool×(List Int)×(List (aA×Int))×aA×(List Int)×(List Nat)×Nat×Nat×Value)=>dO Q (cJ Q (s.length:Int) e k8) n (s.length:Int) n e k u.1 u.2.1 u.2.2.1 u.2.2.2.1 u.2.2.2.2.1) (λ_ h=>h) (I.2,z,t,I.1,F,G,H,T,w7) h (aQ [1,0,2,4,3] rfl rfl (aL rfl (aL rfl (aL rfl (aY (ae rfl)))))) ?_;rintro a3 ⟨N,w,j,g,B,C,E,K,L⟩ h;simp only[dO] at h;refine au 5 ?_;refine tip h (λU h=>?_) (λU h=>?_)
  ·refine au 9 ?_;obtain⟨a4,V,h⟩:=mQ h;refine to (sc call101 (eJ _ _ V) (.cons (.d (yO 4 rfl (fH (f:=aI) λ_=>rfl))) (.cons (.same _) .nil))) (aP ?_);refine tip h (λW h=>?_) (λW h=>?_)
   ·refine au 4 ?_;refine kA (aQ [1,0,2,3,4] rfl rfl (le_refl _)) ?_;exact cW ⟨rfl,_,[.box d_0_b d_0_o [.j e.Rounds,.sl 1 (Z6 e),.lit c,.lit (.map (some q))],.arr c 3 1 (w.map aI),.map o (j.map λp:aA×Int=>((λa:aA=>Value.agg ((aG a).map bA).toArray) p.1,(λv:Int=>AV.i v) p.2)) C E],[.box K 0 (aG g),.arr L 3 1 (B.map aI)],_,.one (.tmp 4 (v:=.b false) rfl),.refl _,.same _,(false,w,j),C,E,h,rfl,rfl⟩
   ·refine xJ (aZ ?_);refine kX mix 7 [0,1,5,6,7,19,20] [(45,.d (.lit c)),(46,.i n),(48,.i g.Player)] ?_ ?_
    ·refine⟨[(42,0,.bp d_0_b d_0_o 0),(43,1,.bp d_0_b d_0_o 0),(44,2,.bp d_0_b d_0_o 2),(45,3,.d (.lit c)),(46,4,.i n),(47,5,.bp K 0 3),(48,6,.i g.Player)],?_,?_⟩
     · exact dk [0,1,2,3,0,0,6] ⟨go (zm (.bp d_0_b d_0_o 0)),
 go λS hS=>jI (aC rfl) (bI hS rfl),
 go (zf rfl aGd),
 go (zl 1 rfl rfl rfl aAj),
 go (zm (.i n)),
 go (zf rfl aCd),
 go (zl 3 rfl rfl rfl kD),trivial⟩
     · exact iG (aL rfl (aL rfl (aL rfl (aY (ae rfl)))))
    ·obtain⟨a5,M,h⟩:=mQ h;refine to (tY (m:=0) (aC rfl) rfl rfl rfl gK.of (dM aI M)) ?_;refine to (aPi (l:=0) rfl rfl (iT aI M) rfl rfl rfl sizeOf3 rfl (aC rfl) (Nat.le_of_ble_eq_true rfl) (rows':=((w.set n.toNat g.Player)).map aI) (cBz _ _ _ _ rfl)) ?_;refine au 6 ?_;refine to (nK (aC rfl) gK rfl rfl (rows:=([g.Player]).map aI) rfl (fH (f:=aI) λ_=>rfl) rfl (by decide)) ?_;obtain⟨X,Y,h⟩:=mQ h;refine bJ rfl (kI (i:=4) (aC rfl) gK rfl rfl rfl (λ_=>rfl) Y rfl) ?_;rintro _ ⟨Z,rfl⟩;refine au 4 ?_;refine to (sla 3 (aG g) rfl rfl rF) (to (bXq (av:=(λv:Int=>AV.i v)) (l:=j) (a:=g) (m:=2) bBo underlying294 rfl rfl rfl rfl (mO (enc:=aG) g rfl)) ?_);refine lG ?_;refine au 3 ?_;refine to (sla 3 (aG g) rfl rfl rF) (aP (aO ?_));refine bJ rfl (dE (zs:=[.j 0,.j 0,.j 0,.j 0,.j 0]) (aC rfl) zeroValue103 rfl rfl) ?_;rintro _ ⟨a2,rfl⟩;refine to (sst 5 rfl rfl sizeOf103 (aG g)) (au 5 ?_);refine fY (aQ [1,0,2,3,4,5] rfl rfl (le_refl _)) ?_;refine bJ rfl (xI (passed:=[.box d_0_b d_0_o [.j e.Rounds,.sl 1 (Z6 e),.lit c,.lit (.map (some q))],.arr c 3 1 ((w.set n.toNat g.Player).map aI),.map o ((tU g j).map λp:aA×Int=>((λa:aA=>Value.agg ((aG a).map bA).toArray) p.1,(λv:Int=>AV.i v) p.2)) (aLc g j C) E]) (aC rfl) rfl (.func _ _ call253) rfl rfl (aEa e (w.set n.toNat g.Player) (tU g j) n h)) ?_;rintro _ ⟨_,_,⟨J,h,rfl,rfl⟩,rfl⟩;refine au 3 ?_;refine to (sst 5 rfl rfl sizeOf103 (aG J.1)) (au 2 ?_);exact⟨(J.2,(w.set n.toNat g.Player),(tU g j),J.1,X,(aLc g j C),E,a2,Z),h,aQ [1,0,2,5,4] rfl rfl (aL rfl (aL rfl (aL rfl (aY (ae rfl)))))⟩
  ·refine dS ?_;refine .inl ⟨rfl,?_⟩;simp only[oI] at h;simp only[oH] at h;refine au 4 ?_;exact⟨(w64 (n+1),w,j,B,C,E,L),h,aQ [0,1,2,4] rfl rfl (aL rfl (aL rfl (aY (ae rfl))))⟩
 ·refine dS ?_;refine .inl ⟨rfl,?_⟩;simp only[oG] at h;refine au 3 ?_;refine to (bJj (m:=2) (aC rfl) underlying294 rfl rfl) ?_;refine au 3 ?_;refine kA (aQ [1,0,2,3] rfl rfl (le_refl _)) ?_;exact cW ⟨rfl,_,[.box d_0_b d_0_o [.j e.Rounds,.sl 1 (Z6 e),.lit c,.lit (.map (some q))],.arr c 3 1 (z.map aI),.map o (t.map λp:aA×Int=>((λa:aA=>Value.agg ((aG a).map bA).toArray) p.1,(λv:Int=>AV.i v) p.2)) G H],[.arr w7 3 1 (F.map aI)],_,.one (.tmp 4 (v:=.b (decide ((t.length:Int)=0))) rfl),.refl _,.same _,(decide ((t.length:Int)=0),z,t),G,H,h,rfl,rfl⟩

theorem aIo(a:Int)(b:Int){r:aB}(h:vX a b=some r):Fn Tryz.prog 218 [.i a,.i b] (.agg (aH r)):=by
 unfold vX at h;refine fnx xT {} [.cell 4 241] func218 results218 ntmps218 ?_;refine oge h λh=>?_;cases h;exact⟨rfl,rfl,rfl⟩

theorem aEc(g:aD)(j:List Int)(s:List (aB×Int))(n:Int)(t:Int){r:Bool×(List (aB×Int))}{d_0_b d_0_o:Nat}{c:Value}{f:Nat}{o:List Nat}{q:Nat}(h:nR g j s n t=some r):bC Tryz.prog 217 [.bp d_0_b d_0_o 0,.i n,.i t] [.box d_0_b d_0_o [.j g.Rounds,.sl 1 (Z6 g),.lit c,.lit (.map (some f))],.arr c 3 1 (j.map aI),.map f (s.map λp:aB×Int=>((λa:aB=>Value.agg ((aH a).map bA).toArray) p.1,(λv:Int=>AV.i v) p.2)) o q] (λr' o'=>∃(u:List Nat) (F:Nat),r'=.b r.1/\o'=[.box d_0_b d_0_o [.j g.Rounds,.sl 1 (Z6 g),.lit c,.lit (.map (some f))],.arr c 3 1 (j.map aI),.map f (r.2.map λp:aB×Int=>((λa:aB=>Value.agg ((aH a).map bA).toArray) p.1,(λv:Int=>AV.i v) p.2)) u F]):=by
 unfold nR at h;refine iW func217 rfl (rs:=[.tmp 6]) results217 ntmps217 (Nat.le_of_ble_eq_true rfl) ?_;refine au 12 ?_;refine eV (S:=Int×(List (aB×Int))×(List Nat)×Nat) [0,1,12] (λs1=>[(13,.i s1.1)]) (λs1=>[.arr c 3 1 (j.map aI),.map f (s1.2.1.map λp:aB×Int=>((λa:aB=>Value.agg ((aH a).map bA).toArray) p.1,(λv:Int=>AV.i v) p.2)) s1.2.2.1 s1.2.2.2,.box d_0_b d_0_o [.j g.Rounds,.sl 1 (Z6 g),.lit c,.lit (.map (some f))]]) (λk s1=>jC n (w64 (t+1)) j g k s1.1 s1.2.1) (λ_=>rfl) (0,s,o,q) h (aQ [1,2,0] rfl rfl (aL rfl (aY (ae rfl)))) ?_;rintro k4 ⟨B,e,u,x⟩ h;simp only[jC] at h;refine au 5 ?_;refine tih h (λc5 h=>?_) (λc5 h=>?_)
 ·refine au 12 ?_;obtain⟨r6,h7,h⟩:=bns h;refine to (scr call218 (aIo _ _ h7)) ?_;refine bJ rfl (dE (zs:=[.j 0,.j 0]) (aC rfl) zeroValue241 rfl rfl) ?_;rintro _ ⟨b8,rfl⟩;refine to (sst 3 rfl rfl sizeOf241 (aH r6)) (au 3 ?_);refine kX mix 10 [0,1,8,12,13] [(9,.i (cE r6 0 e)),(27,.b (cI r6 e))] ?_ ?_
  ·refine⟨[(20,0,.bp d_0_b d_0_o 0),(21,1,.bp d_0_b d_0_o 0),(22,2,.bp d_0_b d_0_o 3),(23,3,.d (Z29 f)),(24,4,.agg (aH r6)),(25,5,.tup [.i (cE r6 0 e),.b (cI r6 e)]),(19,6,.tup [.i (cE r6 0 e),.b (cI r6 e)]),(26,7,.i (cE r6 0 e)),(27,8,.b (cI r6 e)),(9,9,.i (cE r6 0 e))],?_,?_⟩
   · exact dk [0,1,2,3,0,405,6,7,7,8] ⟨go (zm (.bp d_0_b d_0_o 0)),
 go λS hS=>jI (aC rfl) (bI hS rfl),
 go (zf rfl aRr),
 go (zl 2 rfl rfl rfl bCb),
 go (zla 3 (aH r6) rfl rfl xE),
 go λS hS=>aIa (av:=(λv:Int=>AV.i v)) (l:=e) (z:=0) (a:=r6) (m:=1) (aC rfl) aEn underlying245 zeroValue3 (λ_ _=>.d (.lit _ rfl)) (bI hS rfl) rfl rfl (bI hS rfl) (mO (enc:=aH) r6 rfl),
 go (zm (.tup [.i (cE r6 0 e),.b (cI r6 e)])),
 go (zex rfl rfl),
 go (zex rfl rfl),
 go (za (.i (cE r6 0 e))),trivial⟩
   · exact iG (aL rfl (aL rfl (aY (ae rfl))))
  ·refine au 6 ?_;obtain⟨b9,w,h⟩:=bns h;refine pB 10 [0,1,8,12,13] 39 b9 ?_ ?_
   ·refine bch w (λy w=>?_) (λy w=>?_)
    ·refine au 2 ?_;refine tk y (jI (aC rfl) rfl) ?_;refine au 3 ?_;obtain⟨H,C,w⟩:=bns w;refine tk y (tY (m:=0) (aC rfl) rfl rfl rfl gK.of (dM aI C)) ?_;refine tk y (zG (aC rfl) rfl (m:=0) rfl (iT aI C) rfl kD) ?_;refine au 2 ?_;obtain rfl:=sIn w;refine aP (eU rfl (ae rfl) rfl)
    ·refine au 10 ?_;obtain rfl:=sIn w;refine aP (eU rfl (ae rfl) rfl)
   ·refine aP ?_;refine tih h (λG h=>?_) (λG h=>?_)
    ·refine au 4 ?_;obtain rfl:=sIn h;refine kA (aQ [2,0,1,3] rfl rfl (le_refl _)) ?_;exact cW ⟨rfl,_,[.box d_0_b d_0_o [.j g.Rounds,.sl 1 (Z6 g),.lit c,.lit (.map (some f))],.arr c 3 1 (j.map aI),.map f (e.map λp:aB×Int=>((λa:aB=>Value.agg ((aH a).map bA).toArray) p.1,(λv:Int=>AV.i v) p.2)) u x],[.box b8 0 (aH r6)],_,.one (.tmp 6 (v:=.b false) rfl),.refl _,.same _,u,x,rfl,rfl⟩
    ·refine xJ ?_;obtain⟨A,E,h⟩:=bns h;refine kX mix 12 [0,1,12,13] [(43,.d (Z29 f)),(44,.agg (aH r6)),(51,.i A)] ?_ ?_
     ·refine⟨[(40,0,.bp d_0_b d_0_o 0),(41,1,.bp d_0_b d_0_o 0),(42,2,.bp d_0_b d_0_o 3),(43,3,.d (Z29 f)),(44,4,.agg (aH r6)),(45,5,.bp d_0_b d_0_o 0),(46,6,.bp d_0_b d_0_o 0),(47,7,.bp d_0_b d_0_o 2),(48,8,.d (.lit c)),(49,9,.i n),(50,10,.ep c 1 n.toNat 0),(51,11,.i A)],?_,?_⟩
      · exact dk [0,1,2,3,0,0,6,7,8,0,910,11] ⟨go (zm (.bp d_0_b d_0_o 0)),
 go λS hS=>jI (aC rfl) (bI hS rfl),
 go (zf rfl aRr),
 go (zl 2 rfl rfl rfl bCb),
 go (zla 3 (aH r6) rfl rfl xE),
 go (zm (.bp d_0_b d_0_o 0)),
 go λS hS=>jI (aC rfl) (bI hS rfl),
 go (zf rfl aGd),
 go (zl 2 rfl rfl rfl aAj),
 go (zm (.i n)),
 go (zia 0 rfl rfl rfl gK.of (dM aI E)),
 go λS hS=>zG (aC rfl) (bI hS rfl) (m:=0) rfl (iT aI E) rfl kD,trivial⟩
      · exact iG (aL rfl (aL rfl (aL rfl (aY (ae rfl)))))
     ·refine to (aAn (av:=(λv:Int=>AV.i v)) (l:=e) (v:=A) (a:=r6) (m:=1) aEn underlying245 rfl rfl rfl rfl (mO (enc:=aH) r6 rfl) rfl rfl) ?_;refine lG ?_;refine au 4 ?_;exact⟨(w64 (B+1),(eM r6 A e),(mbs r6 e u x),(mck r6 e x)),h,aQ [0,1,2] rfl rfl (aL rfl (aY (ae rfl)))⟩
 ·refine dS ?_;refine .inl ⟨rfl,?_⟩;simp only[vW] at h;refine au 4 ?_;obtain rfl:=sIn h;refine kA (aQ [2,0,1] rfl rfl (le_refl _)) ?_;exact cW ⟨rfl,_,[.box d_0_b d_0_o [.j g.Rounds,.sl 1 (Z6 g),.lit c,.lit (.map (some f))],.arr c 3 1 (j.map aI),.map f (e.map λp:aB×Int=>((λa:aB=>Value.agg ((aH a).map bA).toArray) p.1,(λv:Int=>AV.i v) p.2)) u x],[],_,.one (.tmp 6 (v:=.b true) rfl),.refl _,.same _,u,x,rfl,rfl⟩

theorem aXw (j:aD)(Y:List aA){Q:((Option aU)×Bool)->Prop}(h:wP j Y Q):bC Tryz.prog 171 (Z4 j Y) [] (λr' o'=>∃(r:(Option aU)×Bool),Q r/\r'=.tup [pZ bY r.1,.b r.2]/\o'=[]):=by
 unfold wP at h;refine iW func171 rfl (rs:=[.tmp 4,.tmp 5]) results171 ntmps171 (Nat.le_of_ble_eq_true rfl) ?_;refine aZ (aO ?_);refine bJ rfl (qY (v:=.agg (bB j)) (aC rfl) rfl rfl rfl) ?_;rintro _ ⟨b1,rfl⟩;refine ta (pZ bY (none:Option aU)) (au 3 ?_);obtain⟨r3,h4,h⟩:=mQ h;refine aTm mix 5 [1] (λX2=>[(19,.agg (bB j)),(22,.d (.lit (X2 3).v)),(23,.d (.lit (.map (some (X2 4).b))))]) (λX2=>[.box b1 0 (bB j),.arr (X2 3).v 3 1 (r3.map aI),.map (X2 4).b (([]:List (aB×Int)).map λp:aB×Int=>((λa:aB=>Value.agg ((aH a).map bA).toArray) p.1,(λv:Int=>AV.i v) p.2)) ([]) 0]) ?_ ?_
 ·refine⟨2,λX2=>[(19,0,.agg (bB j)),(20,1,.bp b1 0 1),(21,2,.d (.sl 1 (Z6 j))),(22,3,.d (.lit (X2 3).v)),(23,4,.d (.lit (.map (some (X2 4).b))))],λX2=>[([],.box b1 0 (bB j)),([(3,.arr (X2 3).v 3 1 (r3.map aI))],nob),([(4,.map (X2 4).b (([]:List (aB×Int)).map λp:aB×Int=>((λa:aB=>Value.agg ((aH a).map bA).toArray) p.1,(λv:Int=>AV.i v) p.2)) ([]) 0)],nob)],?_,?_⟩
  · exact xok [(0,0),(0,4),(2,4),(3,0),(0,0)] ⟨λ_ _ w _ k=>xp w (yla k 0 (bB j) rfl (og k rfl rfl) aQr),
 λ_ _ w _ k=>xp w (yf k rfl aVz),
 λ_ _ w _ k=>xp w (yl k 0 rfl (og k rfl rfl) rfl aAj),
 λX2 S hw hi hS=>bAr (X:=X2) (p:=1) (v:=λx=>.d (.lit x.v)) (mo:=λx=>.arr x.v 3 1 (r3.map aI)) hS hi rfl rfl (λ_=>rfl) hw (λ_=>rfl) (λ_=>rfl) (λ_=>rfl) (λ_=>⟨rfl,rfl,.inr rfl,⟨rfl,rfl,.inr rfl,⟨rfl,rfl,.inr rfl,⟨rfl,rfl,.inl rfl,⟨rfl,rfl,.inr rfl,trivial⟩⟩⟩⟩⟩) (λ_=>⟨trivial,rfl,⟨⟨rfl,.inl rfl,trivial⟩,rfl,⟨⟨rfl,.inr rfl,trivial⟩,rfl,trivial⟩⟩⟩) (aGq (aPc (aC rfl) (.func _ _ call192) (ev2 (bI hS rfl) evn) rfl (sG _ h4)) (by rintro _ ⟨w,rfl⟩;exact⟨⟨0,w⟩,aQ [0,3,2] rfl rfl (le_refl _)⟩)),
 λX2 S hw hi hS=>bAr (X:=X2) (p:=2) (v:=λx=>.d (.lit (.map (some x.b)))) (mo:=λx=>.map x.b (([]:List (aB×Int)).map λp:aB×Int=>((λa:aB=>Value.agg ((aH a).map bA).toArray) p.1,(λv:Int=>AV.i v) p.2)) ([]) 0) hS hi rfl rfl (λ_=>rfl) hw (λ_=>rfl) (λ_=>rfl) (λ_=>rfl) (λ_=>⟨rfl,rfl,.inr rfl,⟨rfl,rfl,.inr rfl,⟨rfl,rfl,.inr rfl,⟨rfl,rfl,.inr rfl,⟨rfl,rfl,.inl rfl,trivial⟩⟩⟩⟩⟩) (λ_=>⟨trivial,rfl,⟨⟨rfl,.inr rfl,trivial⟩,rfl,⟨⟨rfl,.inl rfl,trivial⟩,rfl,trivial⟩⟩⟩) (aGq (aGj (aC rfl)) (by rintro _ ⟨w,rfl⟩;exact⟨⟨w,undef⟩,aQ [0,1,3] rfl rfl (le_refl _)⟩)),trivial⟩
  · exactλX2=>iG (aL rfl (aL rfl (aL rfl (aY (ae rfl)))))
 ·intro X2;refine to (iV (aC rfl) cCe (zs:=[.j 0,.sl 1 ((([]:List Int)).map aI),.sl 1 ((([]:List Int)).map aI),.lit (.map none)]) rfl rfl rfl rfl (es:=[.j j.Rounds,.sl 1 (Z6 j),.lit (X2 3).v,.lit (.map (some (X2 4).b))]) rfl) ?_;refine bJ rfl (qY (v:=.agg [.j j.Rounds,.sl 1 (Z6 j),.lit (X2 3).v,.lit (.map (some (X2 4).b))]) (aC rfl) rfl rfl rfl) ?_;rintro _ ⟨b5,rfl⟩;refine au 4 ?_;refine bJ rfl (aGj (aC rfl)) ?_;rintro _ ⟨r6,rfl⟩;refine bJ rfl (aGj (aC rfl)) ?_;rintro _ ⟨r7,rfl⟩;refine au 11 ?_;refine aFg [6,7,8,28,29] (λ(s8:Int×(List (aA×Int))×(List (aB×aA))×(List Nat)×Nat×(List Nat)×Nat)=>[(30,.i s8.1)]) (λ(s8:Int×(List (aA×Int))×(List (aB×aA))×(List Nat)×Nat×(List Nat)×Nat)=>[.arr (X2 3).v 3 1 (r3.map aI),.map (X2 4).b (([]:List (aB×Int)).map λp:aB×Int=>((λa:aB=>Value.agg ((aH a).map bA).toArray) p.1,(λv:Int=>AV.i v) p.2)) ([]) 0,.box b5 0 [.j j.Rounds,.sl 1 (Z6 j),.lit (X2 3).v,.lit (.map (some (X2 4).b))],.map r6 (s8.2.1.map λp:aA×Int=>((λa:aA=>Value.agg ((aG a).map bA).toArray) p.1,(λv:Int=>AV.i v) p.2)) s8.2.2.2.1 s8.2.2.2.2.1,.map r7 (s8.2.2.1.map λp:aB×aA=>((λa:aB=>Value.agg ((aH a).map bA).toArray) p.1,(λv:aA=>AV.agg (aG v)) p.2)) s8.2.2.2.2.2.1 s8.2.2.2.2.2.2]) (λ(k:Nat) (s8:Int×(List (aA×Int))×(List (aB×aA))×(List Nat)×Nat×(List Nat)×Nat)=>iY Q Y (Y.length:Int) r3 ([]:List (aB×Int)) j k s8.1 s8.2.1 s8.2.2.1) (λ_ h=>h) (0,([]:List (aA×Int)),([]:List (aB×aA)),[],0,[],0) h (aQ [1,2,3,4,5] rfl rfl (aL rfl (aY (ae rfl)))) ?_;rintro d8 ⟨N,e,g,G,u,A,s⟩ h;simp only[iY] at h;refine au 5 ?_;refine tip h (λc1 h=>?_) (λc1 h=>?_)
  ·refine au 5 ?_;obtain⟨c,c2,h⟩:=mQ h;refine to (six rfl rfl bAd.of (dM aG c2)) (to (aHd (aG c) rfl rF) ?_);refine bJ rfl (dE (zs:=[.j 0,.j 0,.j 0,.j 0,.j 0]) (aC rfl) zeroValue103 rfl rfl) ?_;rintro _ ⟨a2,rfl⟩;refine to (sst 5 rfl rfl sizeOf103 (aG c)) (au 8 ?_);refine tip h (λc3 h=>?_) (λc3 h=>?_)
   ·refine aZ ?_;refine aTm mix 6 [6,7,8,28,29,30] (λJ=>[(37,.d (.lit (.map (some r6)))),(40,.i (w64 ((cE c 0 e)+1))),(42,.i (wT c e G u))]) (λJ=>[.arr (X2 3).v 3 1 (r3.map aI),.map (X2 4).b (([]:List (aB×Int)).map λp:aB×Int=>((λa:aB=>Value.agg ((aH a).map bA).toArray) p.1,(λv:Int=>AV.i v) p.2)) ([]) 0,.box b5 0 [.j j.Rounds,.sl 1 (Z6 j),.lit (X2 3).v,.lit (.map (some (X2 4).b))],.map r6 ((tV c 0 e).map λp:aA×Int=>((λa:aA=>Value.agg ((aG a).map bA).toArray) p.1,(λv:Int=>AV.i v) p.2)) (mbs c e G u) (mck c e u),.map r7 (g.map λp:aB×aA=>((λa:aB=>Value.agg ((aH a).map bA).toArray) p.1,(λv:aA=>AV.agg (aG v)) p.2)) A s,.box a2 0 (aG c)]) ?_ ?_
    ·refine⟨0,λJ=>[(37,0,.d (.lit (.map (some r6)))),(38,1,.agg (aG c)),(39,2,.i (cE c 0 e)),(40,3,.i (w64 ((cE c 0 e)+1))),(41,4,.tup [.i (cE c 0 e),.i (wT c e G u)]),(42,5,.i (wT c e G u))],λJ=>[([],.arr (X2 3).v 3 1 (r3.map aI)),([],.map (X2 4).b (([]:List (aB×Int)).map λp:aB×Int=>((λa:aB=>Value.agg ((aH a).map bA).toArray) p.1,(λv:Int=>AV.i v) p.2)) ([]) 0),([],.box b5 0 [.j j.Rounds,.sl 1 (Z6 j),.lit (X2 3).v,.lit (.map (some (X2 4).b))]),([(4,.map r6 ((tV c 0 e).map λp:aA×Int=>((λa:aA=>Value.agg ((aG a).map bA).toArray) p.1,(λv:Int=>AV.i v) p.2)) (mbs c e G u) (mck c e u))],.map r6 (e.map λp:aA×Int=>((λa:aA=>Value.agg ((aG a).map bA).toArray) p.1,(λv:Int=>AV.i v) p.2)) G u),([],.map r7 (g.map λp:aB×aA=>((λa:aB=>Value.agg ((aH a).map bA).toArray) p.1,(λv:aA=>AV.agg (aG v)) p.2)) A s),([],.box a2 0 (aG c))],?_,?_⟩
     · exact xok [(0,5),(0,5),(102,0),(3,0),(102,0),(5,0)] ⟨λ_ _ w _ k=>xp w (ym k (.d (.lit (.map (some r6))))),
 λ_ _ w _ k=>xp w (yla k 5 (aG c) rfl (og k rfl rfl) rF),
 λ_ _ w _ k=>xp w (bUp (av:=(λv:Int=>AV.i v)) (l:=e) (z:=0) (a:=c) (m:=3) (aC rfl) bBo underlying294 zeroValue3 (λ_ _=>.d (.lit _ rfl)) (bI k rfl) (og2 rfl) rfl (bI k rfl) (mO (enc:=aG) c rfl)),
 λ_ _ w _ k=>xp w (yar k rfl rfl rfl),
 λJ S hw hi hS=>cEw (X:=J) (p:=3) hS rfl rfl rfl (hw J) rfl rfl rfl (aGq (bQq (av:=(λv:Int=>AV.i v)) (l:=e) (z:=0) (a:=c) (m:=3) (aC rfl) bBo underlying294 zeroValue3 (λ_ _=>.d (.lit _ rfl)) (bI hS rfl) (og hS rfl rfl) rfl (bI hS rfl) (mO (enc:=aG) c rfl)) (by rintro _ rfl;exact Ent.refl _)),
 fun _ _ w _ k=>xp w (yex k rfl rfl),trivial⟩
     · exactλJ=>iG (aL rfl (aL rfl (aL rfl (aY (ae rfl)))))
    ·intro J;refine to (bFg (kv:=(λa:aA=>Value.agg ((aG a).map bA).toArray)) (av:=(λv:Int=>AV.i v)) (l:=e) (z:=0) (v:=w64 ((cE c 0 e)+1)) (a:=c) (m:=3) rfl rfl rfl rfl rfl) ?_;refine aP ?_;refine dS ?_;refine .inl ⟨rfl,?_⟩;refine au 4 ?_;exact⟨(w64 (N+1),(eM c (w64 ((cE c 0 e)+1)) e),g,(mbs c e G u),(mck c e u),A,s),h,aQ [0,1,2,3,4] rfl rfl (aL rfl (aY (ae rfl)))⟩
   ·refine au 7 ?_;refine to (iV (aC rfl) bNx (zs:=[.j 0,.j 0]) rfl rfl rfl rfl (es:=[.j c.Round,.j c.Place]) rfl) ?_;refine bJ rfl (dE (zs:=[.j 0,.j 0]) (aC rfl) zeroValue241 rfl rfl) ?_;rintro _ ⟨c4,rfl⟩;refine to (sst 6 rfl rfl sizeOf241 (aH (aB.mk c.Round c.Place))) (au 5 ?_);refine to (sla 6 (aH (aB.mk c.Round c.Place)) rfl rfl xE) (to (aIa (av:=(λv:aA=>AV.agg (aG v))) (l:=g) (z:=(aA.mk 0 0 0 0 0)) (a:=(aB.mk c.Round c.Place)) (m:=4) (aC rfl) aEn underlying295 zeroValue103 (λ_ _=>.agg (aCf rfl)) rfl rfl rfl rfl (mO (enc:=aH) (aB.mk c.Round c.Place) rfl)) ?_);refine au 3 ?_;refine bJ rfl (dE (zs:=[.j 0,.j 0,.j 0,.j 0,.j 0]) (aC rfl) zeroValue103 rfl rfl) ?_;rintro _ ⟨c5,rfl⟩;refine to (sst 7 rfl rfl sizeOf103 (aG (cE (aB.mk c.Round c.Place) (aA.mk 0 0 0 0 0) g))) (au 6 ?_);obtain⟨c6,O,h⟩:=mQ h;refine pB 4 [6,7,8,10,11,28,29,30] 59 c6 ?_ ?_
    ·refine bch O (λP O=>?_) (λP O=>?_)
     ·refine tk P (sla 7 (aG (cE (aB.mk c.Round c.Place) (aA.mk 0 0 0 0 0) g)) rfl rfl rF) (tk P (sla 5 (aG c) rfl rfl rF) (tk P (bFm (a:=(cE (aB.mk c.Round c.Place) (aA.mk 0 0 0 0 0) g)) (b:=c) (aC rfl) rfl rfl rfl rfl Tryz.eqGuardType103 aTr) ?_));refine to (spt (.b (!decide ((cE (aB.mk c.Round c.Place) (aA.mk 0 0 0 0 0) g)=c))) P) ?_;obtain rfl:=sIn O;refine aP (eU rfl (ae rfl) rfl)
     ·refine au 4 ?_;obtain rfl:=sIn O;refine aP (eU rfl (ae rfl) rfl)
    ·refine aP ?_;refine tip h (λc7 h=>?_) (λc7 h=>?_)
     ·refine aZ (aO (ta (pZ bY (none:Option aU)) (au 2 ?_)));exact cW ⟨rfl,_,[],[.arr (X2 3).v 3 1 (r3.map aI),.map (X2 4).b (([]:List (aB×Int)).map λp:aB×Int=>((λa:aB=>Value.agg ((aH a).map bA).toArray) p.1,(λv:Int=>AV.i v) p.2)) ([]) 0,.box b5 0 [.j j.Rounds,.sl 1 (Z6 j),.lit (X2 3).v,.lit (.map (some (X2 4).b))],.map r6 (e.map λp:aA×Int=>((λa:aA=>Value.agg ((aG a).map bA).toArray) p.1,(λv:Int=>AV.i v) p.2)) G u,.map r7 (g.map λp:aB×aA=>((λa:aB=>Value.agg ((aH a).map bA).toArray) p.1,(λv:aA=>AV.agg (aG v)) p.2)) A s,.box a2 0 (aG c),.box c4 0 (aH (aB.mk c.Round c.Place)),.box c5 0 (aG (cE (aB.mk c.Round c.Place) (aA.mk 0 0 0 0 0) g))],_,.two (.tmp 4 (v:=pZ bY (none:Option aU)) rfl) (.tmp 5 (v:=.b false) rfl),.refl _,.same _,((none:Option aU),false),h,rfl,rfl⟩
     ·refine au 3 ?_;refine to (sla 6 (aH (aB.mk c.Round c.Place)) rfl rfl xE) (to (sla 5 (aG c) rfl rfl rF) (to (aAn (av:=(λv:aA=>AV.agg (aG v))) (l:=g) (v:=c) (a:=(aB.mk c.Round c.Place)) (m:=4) aEn underlying295 rfl rfl rfl rfl (mO (enc:=aH) (aB.mk c.Round c.Place) rfl) rfl rfl) ?_));refine lG ?_;refine au 4 ?_;exact⟨(w64 (N+1),e,(eM (aB.mk c.Round c.Place) c g),G,u,(mbs (aB.mk c.Round c.Place) g A s),(mck (aB.mk c.Round c.Place) g s)),h,aQ [0,1,2,3,4] rfl rfl (aL rfl (aY (ae rfl)))⟩
  ·refine dS ?_;refine .inl ⟨rfl,?_⟩;simp only[vT] at h;refine au 5 ?_;refine fY (aQ [2,0,3,1,4] rfl rfl (le_refl _)) ?_;refine bJ rfl (xI (passed:=[.box b5 0 [.j j.Rounds,.sl 1 (Z6 j),.lit (X2 3).v,.lit (.map (some (X2 4).b))],.arr (X2 3).v 3 1 (r3.map aI),.map r6 (e.map λp:aA×Int=>((λa:aA=>Value.agg ((aG a).map bA).toArray) p.1,(λv:Int=>AV.i v) p.2)) G u]) (aC rfl) rfl (.func _ _ call216) rfl rfl (aKx j r3 e h)) ?_;rintro _ ⟨_,_,⟨B,b7,b8,h,rfl,rfl⟩,rfl⟩;refine to (sn rfl) (aP ?_);refine tip h (λc8 h=>?_) (λc8 h=>?_)
   ·refine aZ (aO (ta (pZ bY (none:Option aU)) (au 2 ?_)));exact cW ⟨rfl,_,[],[.box b5 0 [.j j.Rounds,.sl 1 (Z6 j),.lit (X2 3).v,.lit (.map (some (X2 4).b))],.arr (X2 3).v 3 1 (B.2.1.map aI),.map r6 (B.2.2.map λp:aA×Int=>((λa:aA=>Value.agg ((aG a).map bA).toArray) p.1,(λv:Int=>AV.i v) p.2)) b7 b8,.map (X2 4).b (([]:List (aB×Int)).map λp:aB×Int=>((λa:aB=>Value.agg ((aH a).map bA).toArray) p.1,(λv:Int=>AV.i v) p.2)) ([]) 0,.map r7 (g.map λp:aB×aA=>((λa:aB=>Value.agg ((aH a).map bA).toArray) p.1,(λv:aA=>AV.agg (aG v)) p.2)) A s],_,.two (.tmp 4 (v:=pZ bY (none:Option aU)) rfl) (.tmp 5 (v:=.b false) rfl),.refl _,.same _,((none:Option aU),false),h,rfl,rfl⟩
   ·refine au 5 ?_;refine to (jI (aC rfl) rfl) ?_;refine au 2 ?_;refine to (aPf (m:=1) (aC rfl) rfl rfl gK.of) ?_;refine au 3 ?_;refine aFg [6,8,71,72] (λ(K:Int×(List (aB×Int))×(List Nat)×Nat)=>[(73,.i K.1)]) (λ(K:Int×(List (aB×Int))×(List Nat)×Nat)=>[.arr (X2 3).v 3 1 (B.2.1.map aI),.map (X2 4).b (K.2.1.map λp:aB×Int=>((λa:aB=>Value.agg ((aH a).map bA).toArray) p.1,(λv:Int=>AV.i v) p.2)) K.2.2.1 K.2.2.2,.box b5 0 [.j j.Rounds,.sl 1 (Z6 j),.lit (X2 3).v,.lit (.map (some (X2 4).b))],.map r7 (g.map λp:aB×aA=>((λa:aB=>Value.agg ((aH a).map bA).toArray) p.1,(λv:aA=>AV.agg (aG v)) p.2)) A s]) (λ(k:Nat) (K:Int×(List (aB×Int))×(List Nat)×Nat)=>iZ Q (B.2.1.length:Int) B.2.1 j g k K.1 K.2.1) (λ_ h=>h) (0,([]:List (aB×Int)),[],0) h (aQ [1,3,0,4] rfl rfl (aL rfl (aY (ae rfl)))) ?_;rintro d9 ⟨H,F,T,U⟩ h;simp only[iZ] at h;refine au 5 ?_;refine tip h (λc9 h=>?_) (λc9 h=>?_)
    ·refine au 6 ?_;obtain⟨e0,a9,h⟩:=mQ h;refine to (tY (m:=0) (aC rfl) rfl rfl rfl gK.of (dM aI a9)) ?_;refine to (zG (aC rfl) rfl (m:=0) rfl (iT aI a9) rfl kD) ?_;refine au 8 ?_;refine tip h (λd0 h=>?_) (λd0 h=>?_)
     ·refine au 3 ?_;refine to (bUk (aC rfl) rfl rfl (.inr (.inr ⟨rfl,rfl⟩))) ?_;obtain⟨d1,d2,h⟩:=mQ h;refine fY (aQ [2,0,1,3] rfl rfl (le_refl _)) ?_;refine bJ rfl (xI (passed:=[.box b5 0 [.j j.Rounds,.sl 1 (Z6 j),.lit (X2 3).v,.lit (.map (some (X2 4).b))],.arr (X2 3).v 3 1 (B.2.1.map aI),.map (X2 4).b (F.map λp:aB×Int=>((λa:aB=>Value.agg ((aH a).map bA).toArray) p.1,(λv:Int=>AV.i v) p.2)) T U]) (aC rfl) rfl (.func _ _ call217) rfl rfl (aEc j B.2.1 F (bAu H 1) 0 d2)) ?_;rintro _ ⟨_,_,⟨b9,c0,rfl,rfl⟩,rfl⟩;refine lG ?_;refine au 4 ?_;exact⟨(w64 (H+1),d1.2,b9,c0),h,aQ [1,2,0,3] rfl rfl (aL rfl (aY (ae rfl)))⟩
     ·refine mC ?_;refine au 4 ?_;exact⟨(w64 (H+1),F,T,U),h,aQ [0,1,2,3] rfl rfl (aL rfl (aY (ae rfl)))⟩
    ·refine dS ?_;refine .inl ⟨rfl,?_⟩;simp only[vU] at h;refine au 4 ?_;refine bJ rfl (bNi (m:=3) (aC rfl) underlying295 rfl rfl) ?_;rintro _ ⟨Z,d3,rfl⟩;have h:=aSh h d3;refine aP (zL ?_);refine aFg [6,86] (λ(L:(List (aB×Int))×(List Nat)×Nat×(List Nat))=>[]) (λ(L:(List (aB×Int))×(List Nat)×Nat×(List Nat))=>[.arr (X2 3).v 3 1 (B.2.1.map aI),.map (X2 4).b (L.1.map λp:aB×Int=>((λa:aB=>Value.agg ((aH a).map bA).toArray) p.1,(λv:Int=>AV.i v) p.2)) L.2.1 L.2.2.1,.box b5 0 [.j j.Rounds,.sl 1 (Z6 j),.lit (X2 3).v,.lit (.map (some (X2 4).b))],.map r7 (g.map λp:aB×aA=>((λa:aB=>Value.agg ((aH a).map bA).toArray) p.1,(λv:aA=>AV.agg (aG v)) p.2)) A s,.iter Z r7 s L.2.2.2 s]) (λ(k:Nat) (L:(List (aB×Int))×(List Nat)×Nat×(List Nat))=>lR Q B.2.1 j g k L.1 (cQ g A L.2.2.2)) (λ_ h=>h) (F,T,U,[]) h (aQ [0,1,2,3,4] rfl rfl (aY (ae rfl))) ?_;rintro e1 ⟨y,V,W,I⟩ h;simp only[lR] at h;refine aZ (aO ?_);refine bJ rfl (bUs (kv:=(λa:aB=>Value.agg ((aH a).map bA).toArray)) (av:=(λv:aA=>AV.agg (aG v))) (l:=g) (mi:=4) (mm:=3) (aC rfl) rfl rfl rfl) ?_;rintro _ (⟨d4,rfl⟩|⟨e2,a3,n,b0,rfl⟩)
     ·have h:=h.1 d4;refine au 3 ?_;refine rA rfl (λb2=>?_) (λb2=>?_)
      ·exact absurd b2 (by decide)
      ·refine dS ?_;refine .inl ⟨rfl,?_⟩;simp only[aBg] at h;refine au 6 ?_;exact cW ⟨rfl,_,[],[.arr (X2 3).v 3 1 (B.2.1.map aI),.map (X2 4).b (y.map λp:aB×Int=>((λa:aB=>Value.agg ((aH a).map bA).toArray) p.1,(λv:Int=>AV.i v) p.2)) V W,.box b5 0 [.j j.Rounds,.sl 1 (Z6 j),.lit (X2 3).v,.lit (.map (some (X2 4).b))],.map r7 (g.map λp:aB×aA=>((λa:aB=>Value.agg ((aH a).map bA).toArray) p.1,(λv:aA=>AV.agg (aG v)) p.2)) A s,.iter Z r7 s I s],_,.two (.tmp 4 (v:=.bp b5 0 0) rfl) (.tmp 5 (v:=.b true) rfl),.refl _,yH (.cons (bZb 2 rfl rfl (dvc (.same _) (dvc (.same _) (dvc (yO 0 rfl (fH (f:=aI) λ_=>rfl)) (dvc (cFi (kv:=(λa:aB=>Value.agg ((aH a).map bA).toArray)) (av:=(λv:Int=>AV.i v)) (l:=y) (enc:=aI) (agg:=false) 1 rfl (λ_ _=>rfl) (λ_=>rfl)) dvn))))) (.cons (.same _) .nil)),((some (aU.mk j B.2.1 y)),true),h,rfl,rfl⟩
     ·have h:=aUx h b0;refine au 3 ?_;refine rA rfl (λb3=>?_) (λb3=>?_)
      ·refine au 4 ?_;refine to (bNh (kv:=(λa:aB=>Value.agg ((aH a).map bA).toArray)) (av:=(λv:aA=>AV.agg (aG v))) (l:=g) (mi:=4) (mm:=3) (ka:=.agg (aH n.1)) (aC rfl) rfl rfl rfl b0 (λ_ _=>.agg (aCf rfl))) ?_;refine au 2 ?_;refine bJ rfl (dE (zs:=[.j 0,.j 0]) (aC rfl) zeroValue241 rfl rfl) ?_;rintro _ ⟨M,rfl⟩;refine bJ rfl (dE (zs:=[.j 0,.j 0,.j 0,.j 0,.j 0]) (aC rfl) zeroValue103 rfl rfl) ?_;rintro _ ⟨a4,rfl⟩;refine to (sst 5 rfl rfl sizeOf241 (aH n.1)) (to (sst 6 rfl rfl sizeOf103 (aG n.2)) (aP (aZ ?_)));refine kX mix 6 [6,16,86] [(95,.d (.lit (X2 3).v)),(97,.i n.2.Player)] ?_ ?_
       ·refine⟨[(92,0,.bp b5 0 0),(93,1,.bp b5 0 0),(94,2,.bp b5 0 2),(95,3,.d (.lit (X2 3).v)),(96,4,.bp a4 0 3),(97,5,.i n.2.Player)],?_,?_⟩
        · exact dk [0,1,2,3,0,5] ⟨go (zm (.bp b5 0 0)),
 go λS hS=>jI (aC rfl) (bI hS rfl),
 go (zf rfl aGd),
 go (zl 2 rfl rfl rfl aAj),
 go (zf rfl aCd),
 go (zl 6 rfl rfl rfl kD),trivial⟩
        · exact iG (aL rfl (aL rfl (aY (ae rfl))))
       ·obtain⟨q,d5,h⟩:=mQ h;refine to (sc call173 (aGp _ _ d5) (.cons (.d (yO 0 rfl (fH (f:=aI) λ_=>rfl))) (.cons (.same _) .nil))) (au 3 ?_);obtain⟨a5,E,h⟩:=mQ h;refine aXo (a5) (λt=>?_) (λt=>?_)
        ·have h:=bMf t h;refine kX mix 15 [6,86] [(109,.b a5)] ?_ ?_
         ·refine bch E (λo E=>?_) (λo E=>?_)
          ·obtain rfl:=sIn E;refine⟨[(99,0,.i q),(100,1,.b (decide (q<0))),(101,2,.b (decide (q<0))),(102,3,.tup []),(103,4,.tup []),(104,5,.tup []),(105,6,.tup []),(106,7,.tup []),(107,8,.tup []),(108,9,.b true),(109,10,.b (true)),(110,11,.tup []),(111,12,.tup []),(112,13,.tup []),(113,14,.tup [])],?_,?_⟩
           · exact dk [0,1,2,3,304,3,30506,3,30708,309,10,11,11,11,1114] ⟨go (zm (.i q)),
 go (zcm rfl rfl rfl),
 go (zm (.b (decide (q<0)))),
 gp o,
 gp o,
 gp o,
 gp o,
 gp o,
 gp o,
 go (zpt (.b true) o),
 go (zm (.b (true))),
 gp t,
 gp t,
 gp t,
 gp t,trivial⟩
           · exact iG (aL rfl (aY (ae rfl)))
          ·obtain⟨C,a6,E⟩:=bns E;obtain rfl:=sIn E;refine⟨[(99,0,.i q),(100,1,.b (decide (q<0))),(101,2,.b (decide (q<0))),(102,3,.bp M 0 0),(103,4,.i n.1.round),(104,5,.i q),(105,6,.agg (aH C)),(106,7,.agg (aH n.1)),(107,8,.b (!decide (C=n.1))),(108,9,.b (!decide (C=n.1))),(109,10,.b (!decide (C=n.1))),(110,11,.tup []),(111,12,.tup []),(112,13,.tup []),(113,14,.tup [])],?_,?_⟩
           · exact dk [0,1,2,3,304,3,30506,3,30708,309,10,11,11,11,1114] ⟨go (zm (.i q)),
 go (zcm rfl rfl rfl),
 go (zm (.b (decide (q<0)))),
 gt o (zf rfl aJz),
 gt o (zl 5 rfl rfl rfl kD),
 gt o (zm (.i q)),
 gt o λS hS=>qS (aC rfl) (.func _ _ call218) (ev2 (bI hS rfl) (ev2 (bI hS rfl) evn)) rfl (BVs.refl _ _) (aIo _ _ a6) rfl,
 gt o (zla 5 (aH n.1) rfl rfl xE),
 gt o λS hS=>bFm (a:=C) (b:=n.1) (aC rfl) (bI hS rfl) (bI hS rfl) rfl rfl Tryz.eqGuardType241 bBj,
 go (zpf (.b (!decide (C=n.1))) o),
 go (zm (.b (!decide (C=n.1)))),
 gp t,
 gp t,
 gp t,
 gp t,trivial⟩
           · exact iG (aL rfl (aY (ae rfl)))
         ·refine au 4 ?_;refine rA rfl (λb4=>?_) (λb4=>?_)
          ·refine aZ (aO (ta (pZ bY (none:Option aU)) (au 2 ?_)));exact cW ⟨rfl,_,[],[.arr (X2 3).v 3 1 (B.2.1.map aI),.map (X2 4).b (y.map λp:aB×Int=>((λa:aB=>Value.agg ((aH a).map bA).toArray) p.1,(λv:Int=>AV.i v) p.2)) V W,.box b5 0 [.j j.Rounds,.sl 1 (Z6 j),.lit (X2 3).v,.lit (.map (some (X2 4).b))],.map r7 (g.map λp:aB×aA=>((λa:aB=>Value.agg ((aH a).map bA).toArray) p.1,(λv:aA=>AV.agg (aG v)) p.2)) A s,.iter Z r7 s (I++[a3]) s,.box M 0 (aH n.1),.box a4 0 (aG n.2)],_,.two (.tmp 4 (v:=pZ bY (none:Option aU)) rfl) (.tmp 5 (v:=.b false) rfl),.refl _,.same _,((none:Option aU),false),h,rfl,rfl⟩
          ·exact absurd b4 (by decide)
        ·have h:=bMe t h;refine kX mix 15 [6,86] [(109,.b a5),(110,.bp b5 0 0),(111,.i q),(112,.bp M 0 0),(113,.i n.1.round)] ?_ ?_
         ·refine bch E (λo E=>?_) (λo E=>?_)
          ·obtain rfl:=sIn E;refine⟨[(99,0,.i q),(100,1,.b (decide (q<0))),(101,2,.b (decide (q<0))),(102,3,.tup []),(103,4,.tup []),(104,5,.tup []),(105,6,.tup []),(106,7,.tup []),(107,8,.tup []),(108,9,.b true),(109,10,.b (true)),(110,11,.bp b5 0 0),(111,12,.i q),(112,13,.bp M 0 0),(113,14,.i n.1.round)],?_,?_⟩
           · exact dk [0,1,2,3,304,3,30506,3,30708,309,10,11,11,11,1114] ⟨go (zm (.i q)),
 go (zcm rfl rfl rfl),
 go (zm (.b (decide (q<0)))),
 gp o,
 gp o,
 gp o,
 gp o,
 gp o,
 gp o,
 go (zpt (.b true) o),
 go (zm (.b (true))),
 gt t (zm (.bp b5 0 0)),
 gt t (zm (.i q)),
 gt t (zf rfl aJz),
 gt t (zl 5 rfl rfl rfl kD),trivial⟩
           · exact iG (aL rfl (aL rfl (aL rfl (aL rfl (aL rfl (aY (ae rfl)))))))
          ·obtain⟨C,a6,E⟩:=bns E;obtain rfl:=sIn E;refine⟨[(99,0,.i q),(100,1,.b (decide (q<0))),(101,2,.b (decide (q<0))),(102,3,.bp M 0 0),(103,4,.i n.1.round),(104,5,.i q),(105,6,.agg (aH C)),(106,7,.agg (aH n.1)),(107,8,.b (!decide (C=n.1))),(108,9,.b (!decide (C=n.1))),(109,10,.b (!decide (C=n.1))),(110,11,.bp b5 0 0),(111,12,.i q),(112,13,.bp M 0 0),(113,14,.i n.1.round)],?_,?_⟩
           · exact dk [0,1,2,3,304,3,30506,3,30708,309,10,11,11,11,1114] ⟨go (zm (.i q)),
 go (zcm rfl rfl rfl),
 go (zm (.b (decide (q<0)))),
 gt o (zf rfl aJz),
 gt o (zl 5 rfl rfl rfl kD),
 gt o (zm (.i q)),
 gt o λS hS=>qS (aC rfl) (.func _ _ call218) (ev2 (bI hS rfl) (ev2 (bI hS rfl) evn)) rfl (BVs.refl _ _) (aIo _ _ a6) rfl,
 gt o (zla 5 (aH n.1) rfl rfl xE),
 gt o λS hS=>bFm (a:=C) (b:=n.1) (aC rfl) (bI hS rfl) (bI hS rfl) rfl rfl Tryz.eqGuardType241 bBj,
 go (zpf (.b (!decide (C=n.1))) o),
 go (zm (.b (!decide (C=n.1)))),
 gt t (zm (.bp b5 0 0)),
 gt t (zm (.i q)),
 gt t (zf rfl aJz),
 gt t (zl 5 rfl rfl rfl kD),trivial⟩
           · exact iG (aL rfl (aL rfl (aL rfl (aL rfl (aL rfl (aY (ae rfl)))))))
         ·obtain⟨b6,d6,h⟩:=mQ h;refine fY (aQ [2,0,1,3,4,5,6] rfl rfl (le_refl _)) ?_;refine bCu rfl rfl (aC rfl) rfl t (xI (passed:=[.box b5 0 [.j j.Rounds,.sl 1 (Z6 j),.lit (X2 3).v,.lit (.map (some (X2 4).b))],.arr (X2 3).v 3 1 (B.2.1.map aI),.map (X2 4).b (y.map λp:aB×Int=>((λa:aB=>Value.agg ((aH a).map bA).toArray) p.1,(λv:Int=>AV.i v) p.2)) V W]) (aC rfl) rfl (.func _ _ call217) rfl rfl (aEc j B.2.1 y q n.1.round d6)) ?_;rintro _ ⟨_,_,⟨a7,a8,rfl,rfl⟩,rfl⟩;refine au 3 ?_;refine tip h (λd7 h=>?_) (λd7 h=>?_)
          ·refine aZ (aO (ta (pZ bY (none:Option aU)) (au 2 ?_)));exact cW ⟨rfl,_,[],[.box b5 0 [.j j.Rounds,.sl 1 (Z6 j),.lit (X2 3).v,.lit (.map (some (X2 4).b))],.arr (X2 3).v 3 1 (B.2.1.map aI),.map (X2 4).b (b6.2.map λp:aB×Int=>((λa:aB=>Value.agg ((aH a).map bA).toArray) p.1,(λv:Int=>AV.i v) p.2)) a7 a8,.map r7 (g.map λp:aB×aA=>((λa:aB=>Value.agg ((aH a).map bA).toArray) p.1,(λv:aA=>AV.agg (aG v)) p.2)) A s,.iter Z r7 s (I++[a3]) s,.box M 0 (aH n.1),.box a4 0 (aG n.2)],_,.two (.tmp 4 (v:=pZ bY (none:Option aU)) rfl) (.tmp 5 (v:=.b false) rfl),.refl _,.same _,((none:Option aU),false),h,rfl,rfl⟩
          ·refine mC ?_;exact⟨(b6.2,a7,a8,(I++[a3])),h,aQ [1,2,0,3,4] rfl rfl (aY (ae rfl))⟩
      ·exact absurd b3 (by decide)

theorem zQ(a:aD)(b:List aA){Q:((Option aU)×Int)->Prop}(h:lH a b Q):bC Tryz.prog 93 (Z4 a b) [] (λr' o'=>∃(r:(Option aU)×Int),Q r/\r'=.tup [pZ bY r.1,.i r.2]/\o'=[]):=by
 unfold lH at h;refine fng xT {nd:=[22]} false [] (Z4 a b) [] [.tmp 4,.tmp 5] func93 results93 ntmps93 ?_;obtain⟨r2,q,h⟩:=bPm h;refine cl call167 (λ_=>aVl _) q λr2 q=>?_;cases q;refine brp h (λh=>?_) λh=>?_
 ·exact⟨rfl,[],rfl,λ_ _ _=>⟨((none:Option aU),70),h,rfl,by kernel_rfl⟩⟩
 ·refine ol ?_;obtain⟨b4,q,h⟩:=bPm h;refine jg q (λx h=>?_) λb4 q=>?_
  ·refine br h (λh=>?_) λh=>?_
   ·exact jt h
   ·refine cl call168 (λ_=>aDu _ _ 169 [.cp [.j a.Rounds,.sl 1 (Z6 a)]] call169 (λ_ _ h=>aVm _ _ h)) h λr7 h=>?_;exact jt h
  ·cases q;refine brp h (λh=>?_) λh=>?_
   ·exact⟨rfl,[],rfl,λ_ _ _=>⟨((none:Option aU),71),h,rfl,by kernel_rfl⟩⟩
   ·refine cgq call171 (aXw _ _ h) ?_ (λ_=>by rintro⟨_|_,_⟩<;>rfl);rintro⟨_|c,e⟩ h
    ·refine brp h (λh=>?_) λh=>?_
     ·exact⟨rfl,[],rfl,λ_ _ _=>⟨((none:Option aU),72),h,rfl,by kernel_rfl⟩⟩
     ·exact⟨rfl,[],rfl,λ_ _ _=>⟨((none:Option aU),0),h,rfl,by kernel_rfl⟩⟩
    ·refine brp h (λh=>?_) λh=>?_
     ·exact⟨rfl,[],rfl,λ_ _ _=>⟨((none:Option aU),72),h,rfl,by kernel_rfl⟩⟩
     ·exact⟨rfl,[],rfl,λ_ _ _=>⟨((some c),0),h,rfl,by kernel_rfl⟩⟩

theorem aEb(e:aU)(c:aB)(b:Int){r:Int}(h:nQ e c b=some r):Fn Tryz.prog 212 [.cp (bY e),.agg (aH c),.i b] (.i r):=by
 unfold nQ at h;refine fnx xT {} [.tmp 6] func212 results212 ntmps212 ?_;refine br h (λh=>?_) λh=>?_
 ·refine oi h λx2 h=>?_;cases h;exact⟨rfl,rfl,rfl⟩
 ·refine⟨by kernel_rfl,?_⟩;refine bZp (enc:=aI) (agg:=false) (z:=0) (a:=(aB.mk (w64 (c.round-1)) (w64 ((w64 (2*c.place))+b)))) aEn underlying245 zeroValue3 (λ_ _=>.d (.lit _ rfl)) (mO (enc:=aH) (aB.mk (w64 (c.round-1)) (w64 ((w64 (2*c.place))+b))) rfl) ?_;refine⟨by kernel_rfl,?_⟩;refine br h (λh=>?_) λh=>?_
  ·cases h;exact⟨rfl,rfl,rfl⟩
  ·cases h;exact⟨rfl,rfl,rfl⟩

theorem aAe{S:Type}(J:S->MO->Prop)(ly:Nat)(f:S->aB->aE->Option S)(hy:∀(s:S) (m:MO) (x0:aB) (x1:aE) (s':S),J s m->f s x0 x1=some s'->aLn Tryz.prog ly [.agg (aH x0),.agg (bM x1)] m (J s'))(e:aU)(sy:S)(m0:MO)(hj:J sy m0){r:S}(h:jA e f sy=some r):bC Tryz.prog 163 [.cp (bY e),.d (.lit (yv ly))] [m0] (λ_ o'=>∃m',J r m'/\o'=[m']):=by
 unfold jA at h;refine xD func163 rfl (rs:=[]) results163 ntmps163 (Nat.le_of_ble_eq_true rfl) ?_;refine au 3 ?_;refine to (aIb (aC rfl) rfl) ?_;refine to (sfc [.j e.Tree.Rounds,.sl 1 (Z31 e)] rfl aRq) (to (sfc [.j e.Tree.Rounds] rfl bHk) (au 4 ?_));refine eV (S:=Int×({x:S×MO // J x.1 x.2})) [0,1,11] (λs1=>[(12,.i s1.1)]) (λs1=>[s1.2.1.2]) (λk s1=>cO f e e.Tree.Rounds k s1.1 s1.2.1.1) (λ_=>rfl) (0,⟨(sy,m0),hj⟩) h (aQ [0] rfl rfl (aL rfl (aY (ae rfl)))) ?_;rintro k3 ⟨b,y2⟩ h;simp only[cO] at h;refine au 5 ?_;refine tih h (λc4 h=>?_) (λc4 h=>?_)
 ·refine au 11 ?_;refine to (aIb (aC rfl) rfl) ?_;refine to (sfc [.j e.Tree.Rounds,.sl 1 (Z31 e)] rfl aRq) (to (sfc [.sl 1 (Z31 e)] rfl aVz) (au 4 ?_));obtain⟨u5,h6,h⟩:=bns h;refine to (bFn (aC rfl) rfl rfl (bFk h6)) ?_;refine au 2 ?_;refine aMr ?_;refine eV (S:=Int×({x:S×MO // J x.1 x.2})) [0,1,4,11,12,23] (λs7=>[(24,.i s7.1)]) (λs7=>[s7.2.1.2]) (λk s7=>fE f (cO f e e.Tree.Rounds k3) e b e.Tree.Rounds b ((e.Tree.Slots.length:Int).fdiv (2^(min (w64 (b+1)).toNat 64))) k s7.1 s7.2.1.1) (λ_=>rfl) (0,⟨(y2.1.1,y2.1.2),y2.2⟩) h (aQ [0] rfl rfl (aL rfl (aY (ae rfl)))) ?_;rintro k9 ⟨c,y8⟩ h;simp only[fE] at h;refine au 5 ?_;refine tih h (λo h=>?_) (λo h=>?_)
  ·refine au 12 ?_;refine to (iV (aC rfl) bNx (zs:=[.j 0,.j 0]) rfl rfl rfl rfl (es:=[.j b,.j c]) rfl) ?_;refine bJ rfl (dE (zs:=[.j 0,.j 0]) (aC rfl) zeroValue241 rfl rfl) ?_;rintro _ ⟨y,rfl⟩;refine to (sst 1 rfl rfl sizeOf241 (aH (aB.mk b c))) (aP (aZ ?_));obtain⟨g,q,h⟩:=bns h;obtain⟨j,t,h⟩:=bns h;refine kX mix 11 [0,1,4,11,12,23,24] [(30,.d (.lit (yv ly))),(31,.agg (aH (aB.mk b c))),(40,.agg (bM (aE.mk b c g j)))] ?_ ?_
   ·refine⟨[(30,0,.d (.lit (yv ly))),(31,1,.agg (aH (aB.mk b c))),(32,2,.i b),(33,3,.i c),(34,4,.cp [.j e.Tree.Rounds,.sl 1 (Z31 e),.sl 1 (e.players.map aI),.mp false (e.won.map λp:aB×Int=>((λa:aB=>Value.agg ((aH a).map bA).toArray) p.1,aI p.2))]),(35,5,.agg (aH (aB.mk b c))),(36,6,.i g),(37,7,.cp [.j e.Tree.Rounds,.sl 1 (Z31 e),.sl 1 (e.players.map aI),.mp false (e.won.map λp:aB×Int=>((λa:aB=>Value.agg ((aH a).map bA).toArray) p.1,aI p.2))]),(38,8,.agg (aH (aB.mk b c))),(39,9,.i j),(40,10,.agg (bM (aE.mk b c g j)))],?_,?_⟩
    · exact dk [0,0,0,0,0,0,506,0,0,809,3040710] ⟨go (zm (.d (.lit (yv ly)))),
 go (zla 1 (aH (aB.mk b c)) rfl rfl xE),
 go (zm (.i b)),
 go (zm (.i c)),
 go (zm (Z8 e)),
 go (zla 1 (aH (aB.mk b c)) rfl rfl xE),
 go λS hS=>qS (aC rfl) (.func _ _ call212) (ev2 (bI hS rfl) (ev2 (bI hS rfl) (ev2 rfl evn))) rfl (BVs.refl _ _) (aEb _ _ _ q) rfl,
 go (zm (Z8 e)),
 go (zla 1 (aH (aB.mk b c)) rfl rfl xE),
 go λS hS=>qS (aC rfl) (.func _ _ call212) (ev2 (bI hS rfl) (ev2 (bI hS rfl) (ev2 rfl evn))) rfl (BVs.refl _ _) (aEb _ _ _ t) rfl,
 go λS hS=>iV (aC rfl) cEr (zs:=[.j 0,.j 0,.j 0,.j 0]) rfl rfl rfl (pa2 (bI hS rfl) (pa2 (bI hS rfl) (pa2 (bI hS rfl) (pa2 (bI hS rfl) pan)))) (es:=[.j b,.j c,.j g,.j j]) rfl,trivial⟩
    · exact iG (aL rfl (aL rfl (aL rfl (aY (ae rfl)))))
   ·obtain⟨u,v,h⟩:=bns h;refine bKb rfl (bNj (aC rfl) rfl rfl rfl rfl (hy _ _ _ _ _ y8.2 v)) ?_;rintro _ ⟨w,n,rfl⟩;refine to (sn rfl) (aP ?_);refine rA rfl (λl=>?_) (λl=>?_)
    ·exact absurd l (by decide)
    ·refine mC ?_;refine au 4 ?_;exact⟨(w64 (c+1),⟨(u,w),n⟩),h,aQ [0] rfl rfl (aL rfl (aY (ae rfl)))⟩
  ·refine dS ?_;refine .inl ⟨rfl,?_⟩;simp only[kS] at h;simp only[sI] at h;refine au 4 ?_;exact⟨(w64 (b+1),⟨(y8.1.1,y8.1.2),y8.2⟩),h,aQ [0] rfl rfl (aL rfl (aY (ae rfl)))⟩
 ·refine dS ?_;refine .inl ⟨rfl,?_⟩;simp only[sH] at h;obtain rfl:=sIn h;exact⟨_,[y2.1.2],[],_,.none,.refl _,.same _,y2.1.2,y2.2,rfl⟩

theorem aXr(a:aD)(g:List aA){Q:((List aE)×Int)->Prop}(h:wM a g Q):bC Tryz.prog 86 (Z4 a g) [] (λr' o'=>∃(r:(List aE)×Int),Q r/\r'=.tup [.d (.sl 4 (r.1.map bM)),.i r.2]/\o'=[]):=by
 unfold wM at h;refine iW func86 rfl (rs:=[.tmp 4,.tmp 5]) results86 ntmps86 (Nat.le_of_ble_eq_true rfl) ?_;refine aZ (aO ?_);refine bJ rfl (qY (v:=.agg (bB a)) (aC rfl) rfl rfl rfl) ?_;rintro _ ⟨b1,rfl⟩;refine to (aKm 4 (aC rfl)) ?_;refine au 4 ?_;refine to (sla 0 (bB a) rfl rfl aQr) (tm (.d (Z26 g)) ?_);refine bJ rfl (aIj (aC rfl) (.func _ _ call93) rfl rfl (zQ _ _ h)) ?_;rintro _ ⟨_,_,⟨r2,h,rfl,rfl⟩,rfl⟩;refine au 3 ?_;refine ta (pZ bY r2.1) (au 8 ?_);refine tip h (λc3 h=>?_) (λc3 h=>?_)
 ·refine au 3 ?_;refine to (aKm 4 (aC rfl)) ?_;refine au 2 ?_;exact cW ⟨rfl,_,[],[.box b1 0 (bB a)],_,.two (.tmp 4 (v:=.d (.sl 4 ((([]:List aE)).map bM))) rfl) (.tmp 5 (v:=.i r2.2) rfl),.refl _,.same _,(([]:List aE),r2.2),h,rfl,rfl⟩
 ·refine au 3 ?_;refine bJ rfl (dE (zs:=Z32) (aC rfl) zeroValue112 rfl rfl) ?_;rintro _ ⟨b4,rfl⟩;refine fY (pD 97 4) ?_;refine au 4 ?_;refine tm (pZ bY r2.1) ?_;obtain⟨x5,h6,h⟩:=mQ h;refine fY (bMl (enc:=bY) (k:=20) rfl h6) ?_;refine to (bUr (aC rfl) rfl rfl) ?_;refine aP (zL ?_);obtain⟨s7,h8,h⟩:=mQ h;refine rL ?_ bIk;refine aWy (cl:=false) (S:=(List aE)×Value) (S0:=(List aE)) (f:=163) (ps:=[22,23]) (λb=>b.1) (λb=>[.box b1 0 (bB a),.box b4 0 [.lit b.2],.arr b.2 97 4 (b.1.map bM)]) (bRh (λj:aB=>.agg (aH j)) (λc:aE=>.agg (bM c)) _) (([]:List aE),(.slice none 0 0)) ([]:List aE) s7 (aQ [0,1,2] rfl rfl (le_refl _)) rfl call163 rfl (by decide) rfl rfl (λl J hy m0 h0=>aAe (S:=(List aE)) J l _ (λ_ _ _ _ _ hJ hq=>hy _ _ _ _ hJ ⟨_,_,rfl,hq⟩) x5 _ m0 h0 h8) ?_ ?_
  ·rintro⟨e9,e⟩ _ _ ⟨j,c,rfl,h⟩;refine⟨rfl,?_⟩;refine aO ?_;refine bJ rfl (dE (zs:=[.j 0,.j 0,.j 0,.j 0]) (aC rfl) zeroValue97 rfl rfl) ?_;rintro _ ⟨q,rfl⟩;refine to (sst 3 rfl rfl sizeOf97 (bM c)) (au 4 ?_);refine to (sla 3 (bM c) rfl rfl bGd) (to (nK (aC rfl) aMk rfl rfl (rows:=([c]).map bM) rfl (fH (f:=bM) λ_=>rfl) rfl (by decide)) ?_);obtain⟨n,o,h⟩:=bns h;refine bJ rfl (kI (i:=2) (aC rfl) aMk rfl rfl rfl (λ_=>rfl) o rfl) ?_;rintro _ ⟨m,rfl⟩;refine to (sst 1 rfl rfl sizeOf112 [.lit m]) ?_;refine lG ?_;obtain rfl:=sIn h;exact⟨(n,m),rfl,aQ [0,1,2] rfl rfl aRw⟩
  ·rintro⟨e9,e⟩ p;subst p;refine au 6 ?_;exact cW ⟨rfl,_,[],[.box b1 0 (bB a),.box b4 0 [.lit e],.arr e 97 4 (e9.map bM)],_,.two (.tmp 4 (v:=.d (.lit e)) rfl) (.tmp 5 (v:=.i 0) rfl),.refl _,yH (.cons (.d (yO 2 rfl (fH (f:=bM) λ_=>rfl))) (.cons (.same _) .nil)),(e9,0),h,rfl,rfl⟩

theorem aFe(e:List bP)(f:bP->Option Bool){r:Int}(a:Nat)(c:List AV)(j:∀args w,(callFunc a args).run Tryz.prog w=.ok (.enter a args) w)(l:∀(x0:bP) r,f x0=some r->Fn Tryz.prog a ([.agg (cU x0)]++c) (.b r))(h:jK e f=some r):Fn Tryz.prog 164 [.d (.sl 3 (e.map cU)),.fn a c] (.i r):=by
 unfold jK at h;refine oT [.tmp 4] func164 results164 ntmps164 ?_;refine au 12 ?_;refine eV (S:=Int) [0,1,7] (λs1=>[(8,.i s1)]) (λs1=>[]) (λk s1=>eH e f (e.length:Int) k s1) (λ_=>rfl) (0) h (aQ [] rfl rfl (aL rfl (aY (ae rfl)))) ?_;rintro k2 g h;simp only[eH] at h;refine au 5 ?_;refine tih h (λc3 h=>?_) (λc3 h=>?_)
 ·refine au 10 ?_;refine tm (.fn a c) (au 2 ?_);obtain⟨x4,h5,h⟩:=bns h;refine to (six rfl rfl bZv.of (dM cU h5)) (to (aHd (cU x4) rfl cAe) ?_);obtain⟨r6,h7,h⟩:=bns h;refine to (qS (aC rfl) (.clo _ _ _ _ j rfl) (aEl rfl) rfl (BVs.refl _ _) (l _ _ h7) rfl) ?_;refine aP ?_;refine tih h (λc8 h=>?_) (λc8 h=>?_)
  ·refine au 5 ?_;obtain rfl:=sIn h;exact rt
  ·refine mC ?_;refine au 4 ?_;exact⟨(w64 (g+1)),h,aQ [] rfl rfl (aL rfl (aY (ae rfl)))⟩
 ·refine dS ?_;refine .inl ⟨rfl,?_⟩;simp only[oD] at h;refine au 4 ?_;obtain rfl:=sIn h;exact rt

theorem aCn(g:List bP)(i:bP->Option Bool){r:Bool}(a:Nat)(c:List AV)(e:∀args w,(callFunc a args).run Tryz.prog w=.ok (.enter a args) w)(f:∀(x0:bP) r,i x0=some r->Fn Tryz.prog a ([.agg (cU x0)]++c) (.b r))(h:gR g i=some r):Fn Tryz.prog 87 [.d (.sl 3 (g.map cU)),.fn a c] (.b r):=by
 unfold gR at h;refine oT [.tmp 4] func87 results87 ntmps87 ?_;refine au 7 ?_;refine tm (.fn a c) ?_;obtain⟨r1,h2,h⟩:=bns h;refine to (scr call164 (aFe _ _ a c e f h2)) (au 3 ?_);obtain rfl:=sIn h;exact rt

theorem sS(d:Int)(c:Int)(a:Int){r:Bool}(h:kN d c a=some r):Fn Tryz.prog 96 [.i d,.i c,.i a] (.b r):=by
 unfold kN at h;refine fnx xT {} [.tmp 6] func96 results96 ntmps96 ?_;refine jg h (λx h=>?_) λb1 h=>?_
 ·refine br h (λh=>?_) λh=>?_
  ·exact jt h
  ·exact jt h
 ·cases h;exact⟨rfl,rfl,rfl⟩

theorem aQb(d:bO)(c:Int)(a:Int){r:Bool}(h:tW d c a=some r):Fn Tryz.prog 99 [.agg (cF d),.i c,.i a] (.b r):=by
 unfold tW at h;refine fnx xT {} [.tmp 6] func99 results99 ntmps99 ?_;refine jg h (λx h=>?_) λb2 h=>?_
 ·refine br h (λh=>?_) λh=>?_
  ·refine cl call96 (λ_=>sS _ _ _) h λr4 h=>?_;exact jt h
  ·exact jt h
 ·refine jg h (λx h=>?_) λb6 h=>?_
  ·refine br h (λh=>?_) λh=>?_
   ·refine cl call96 (λ_=>sS _ _ _) h λr8 h=>?_;exact jt h
   ·exact jt h
  ·cases h;exact⟨rfl,rfl,rfl⟩

theorem bCi(a:bO)(c:Int){r:Bool}(h:zB a c=some r):Fn Tryz.prog 89 [.agg (cF a),.i c] (.b r):=by
 unfold zB at h;refine fnx xT {} [.tmp 4] func89 results89 ntmps89 ?_;refine cl call99 (λ_=>aQb _ _ _) h λr2 h=>?_;refine jg h (λx h=>?_) λb4 h=>?_
 ·refine br h (λh=>?_) λh=>?_
  ·refine cl call96 (λ_=>sS _ _ _) h λr6 h=>?_;exact jt h
  ·exact jt h
 ·cases h;exact⟨rfl,rfl,rfl⟩

theorem bFb(a:bP){r:Bool}(h:aAk a=some r):Fn Tryz.prog 88 [.agg (cU a)] (.b r):=by
 unfold aAk at h;refine fnx xT {} [.tmp 2] func88 results88 ntmps88 ?_;refine cl call89 (λ_=>bCi _ _) h λr2 h=>?_;cases h;exact⟨rfl,rfl,rfl⟩

theorem bGk(c:aD)(e:List aA)(a:Int)(b:Int){Q:((Option aU)×aB×Int)->Prop}(h:vV c e a b Q):bC Tryz.prog 165 (Z10 c e a b) [] (λr' o'=>∃(r:(Option aU)×aB×Int),Q r/\r'=.tup [pZ bY r.1,.agg (aH r.2.1),.i r.2.2]/\o'=[]):=by
 unfold vV at h;refine fng xT {nd:=[17]} false [] (Z10 c e a b) [] [.tmp 8,.cell 9 241,.tmp 10] func165 results165 ntmps165 ?_;refine cgq call93 (zQ _ _ h) ?_ (λ_=>by rintro⟨_|_,_⟩<;>rfl);rintro⟨_|y5,e4⟩ h
 ·obtain⟨b7,q,h⟩:=bPm h;refine jg q (λx h=>?_) λb7 q=>?_
  ·refine br h (λh=>?_) λh=>?_
   ·refine cl call213 (λ_=>yG _ _) h λr9 h=>?_;exact jt h
   ·exact jt h
  ·cases q;refine brp h (λh=>?_) λh=>?_
   ·refine⟨by kernel_rfl,?_⟩;refine⟨by kernel_rfl,?_⟩;exact⟨rfl,[],rfl,λ_ _ _=>⟨((none:Option aU),(aB.mk a b),1),h,rfl,by kernel_rfl⟩⟩
   ·refine⟨by kernel_rfl,?_⟩;refine⟨by kernel_rfl,?_⟩;exact⟨rfl,[],rfl,λ_ _ _=>⟨((none:Option aU),(aB.mk a b),e4),h,rfl,by kernel_rfl⟩⟩
 ·obtain⟨f,q,h⟩:=bPm h;refine jg q (λx h=>?_) λf q=>?_
  ·refine br h (λh=>?_) λh=>?_
   ·refine cl call213 (λ_=>yG _ _) h λg h=>?_;exact jt h
   ·exact jt h
  ·cases q;refine brp h (λh=>?_) λh=>?_
   ·refine⟨by kernel_rfl,?_⟩;refine⟨by kernel_rfl,?_⟩;exact⟨rfl,[],rfl,λ_ _ _=>⟨((some y5),(aB.mk a b),1),h,rfl,by kernel_rfl⟩⟩
   ·refine⟨by kernel_rfl,?_⟩;refine⟨by kernel_rfl,?_⟩;exact⟨rfl,[],rfl,λ_ _ _=>⟨((some y5),(aB.mk a b),e4),h,rfl,by kernel_rfl⟩⟩

theorem aVi(e:aD)(f:List aA)(b:Int)(c:Int){Q:(Int×Int)->Prop}(h:uO e f b c Q):bC Tryz.prog 90 (Z10 e f b c) [] (λr' o'=>∃(r:Int×Int),Q r/\r'=.tup [.i r.1,.i r.2]/\o'=[]):=by
 unfold uO at h;refine fng xT {nd:=[20]} false [] (Z10 e f b c) [] [.tmp 8,.tmp 9] func90 results90 ntmps90 ?_;refine cgq call165 (bGk _ _ _ _ h) ?_ (λ_=>by rintro⟨_|_,_⟩<;>rfl);rintro⟨_|y4,e3⟩ h
 ·refine brp h (λh=>?_) λh=>?_
  ·exact⟨rfl,[],rfl,λ_ _ _=>⟨(0,e3.2),h,rfl,by kernel_rfl⟩⟩
  ·refine⟨by kernel_rfl,?_⟩;exact cFp h
 ·refine brp h (λh=>?_) λh=>?_
  ·exact⟨rfl,[],rfl,λ_ _ _=>⟨(0,e3.2),h,rfl,by kernel_rfl⟩⟩
  ·refine⟨by kernel_rfl,?_⟩;have h:=cFq h;refine bZp (enc:=aI) (agg:=false) (z:=0) (a:=e3.1) aEn underlying245 zeroValue3 (λ_ _=>.d (.lit _ rfl)) (mO (enc:=aH) e3.1 rfl) ?_;refine⟨by kernel_rfl,?_⟩;refine brp h (λh=>?_) λh=>?_
   ·exact⟨rfl,[],rfl,λ_ _ _=>⟨(0,3),h,rfl,by kernel_rfl⟩⟩
   ·exact⟨rfl,[],rfl,λ_ _ _=>⟨(cE e3.1 0 y4.won,0),h,rfl,by kernel_rfl⟩⟩

theorem hZ(d:Int)(c:Int)(a:Int){r:Bool}(h:eR d c a=some r):Fn Tryz.prog 138 [.i d,.i c,.i a] (.b r):=by
 unfold eR at h;refine fnx xT {} [.tmp 6] func138 results138 ntmps138 ?_;refine jg h (λx h=>?_) λb1 h=>?_
 ·refine br h (λh=>?_) λh=>?_
  ·exact jt h
  ·exact jt h
 ·cases h;exact⟨rfl,rfl,rfl⟩

theorem aQi(d:aD){r:Bool}(h:nS d=some r):Fn Tryz.prog 62 [.agg (bB d)] (.b r):=by
 unfold nS at h;refine fnx xT {} [.tmp 2] func62 results62 ntmps62 ?_;refine cl call138 (λ_=>hZ _ _ _) h λr2 h=>?_;refine jg h (λx h=>?_) λb4 h=>?_
 ·refine br h (λh=>?_) λh=>?_
  ·exact jt h
  ·refine ol ?_;refine oge h λh=>?_;exact jt h
 ·refine br h (λh=>?_) λh=>?_
  ·cases h;exact⟨rfl,rfl,rfl⟩
  ·refine xlp [1] [1] (λ(c:Int)=>([(3,.i c)],[])) (λk (c:Int)=>gA d k c) (0) h (lev []) ?_;rintro k9 c h;simp only[gA] at h;refine ol ?_;refine br h (λh=>?_) λh=>?_
   ·refine oi h λe h=>?_;refine cl call138 (λ_=>hZ _ _ _) h λf h=>?_;refine jg h (λx h=>?_) λg h=>?_
    ·refine br h (λh=>?_) λh=>?_
     ·exact jt h
     ·refine⟨by decide,?_⟩;refine jg h (λx h=>?_) λj h=>?_
      ·refine br h (λh=>?_) λh=>?_
       ·refine oi h λl h=>?_;exact jt h
       ·exact jt h
      ·refine jg h (λx h=>?_) λm h=>?_
       ·refine br h (λh=>?_) λh=>?_
        ·refine oi h λn h=>?_;exact jt h
        ·exact jt h
       ·exact jt h
    ·refine br h (λh=>?_) λh=>?_
     ·cases h;exact⟨rfl,rfl,rfl⟩
     ·refine xlp [1,3] [1] (λ(a:Int)=>([(4,.i a)],[])) (λk (a:Int)=>gB (gA d k9) c d k a) (0) h (lev []) ?_;rintro o a h;simp only[gB] at h;refine br h (λh=>?_) λh=>?_
      ·refine⟨by kernel_rfl,?_⟩;refine oi h λp h=>?_;refine oi h λq h=>?_;refine jo h (λx h=>?_) λs h=>?_
       ·refine br h (λh=>?_) λh=>?_
        ·refine oi h λt h=>?_;exact⟨by kernel_rfl,jt h⟩
        ·exact⟨by kernel_rfl,jt h⟩
       ·refine⟨by kernel_rfl,?_⟩;refine br h (λh=>?_) λh=>?_
        ·cases h;exact⟨rfl,rfl,rfl⟩
        ·exact⟨(w64 (a+1)),h,lev []⟩
      ·simp only[wB] at h;simp only[wA] at h;exact⟨(w64 (c+1)),h,lev []⟩
   ·simp only[vZ] at h;cases h;exact⟨rfl,rfl,rfl⟩

theorem xL(b:aD)(a:Int){r:Int}(h:kV b a=some r):Fn Tryz.prog 141 [.agg (bB b),.i a] (.i r):=by
 unfold kV at h;refine fnx xT {} [.tmp 4] func141 results141 ntmps141 ?_;refine oge h λh=>?_;cases h;exact⟨rfl,rfl,rfl⟩

theorem aCw(d:aD)(a:Int)(c:Int){r:Bool}(h:mG d a c=some r):Fn Tryz.prog 139 [.agg (bB d),.i a,.i c] (.b r):=by
 unfold mG at h;refine fnx xT {} [.tmp 6] func139 results139 ntmps139 ?_;refine cl call138 (λ_=>hZ _ _ _) h λr2 h=>?_;refine jg h (λx h=>?_) λb4 h=>?_
 ·refine br h (λh=>?_) λh=>?_
  ·refine cl call141 (λ_=>xL _ _) h λr6 h=>?_;refine cl call138 (λ_=>hZ _ _ _) h λr8 h=>?_;exact jt h
  ·exact jt h
 ·cases h;exact⟨rfl,rfl,rfl⟩

theorem aQk(a:aD)(c:aA){r:Bool}(h:qQ a c=some r):Fn Tryz.prog 63 [.agg (bB a),.agg (aG c)] (.b r):=by
 unfold qQ at h;refine fnx xT {} [.tmp 4] func63 results63 ntmps63 ?_;refine cl call138 (λ_=>hZ _ _ _) h λr3 h=>?_;refine br h (λh=>?_) λh=>?_
 ·cases h;exact⟨rfl,rfl,rfl⟩
 ·refine br h (λh=>?_) λh=>?_
  ·refine jg h (λx h=>?_) λb5 h=>?_
   ·refine br h (λh=>?_) λh=>?_
    ·refine ol ?_;refine cl call138 (λ_=>hZ _ _ _) h λr7 h=>?_;exact jt h
    ·exact jt h
   ·refine jg h (λx h=>?_) λb9 h=>?_
    ·refine br h (λh=>?_) λh=>?_
     ·refine cl call138 (λ_=>hZ _ _ _) h λd h=>?_;exact jt h
     ·exact jt h
    ·cases h;exact⟨rfl,rfl,rfl⟩
  ·refine cl call138 (λ_=>hZ _ _ _) h λe h=>?_;refine jg h (λx h=>?_) λf h=>?_
   ·refine br h (λh=>?_) λh=>?_
    ·exact jt h
    ·refine cl call139 (λ_=>aCw _ _ _) h λg h=>?_;exact jt h
   ·refine jg h (λx h=>?_) λi h=>?_
    ·refine br h (λh=>?_) λh=>?_
     ·exact jt h
     ·exact jt h
    ·refine br h (λh=>?_) λh=>?_
     ·cases h;exact⟨rfl,rfl,rfl⟩
     ·refine jg h (λx h=>?_) λj h=>?_
      ·refine br h (λh=>?_) λh=>?_
       ·exact jt h
       ·refine oi h λk h=>?_;refine jg h (λx h=>?_) λl h=>?_
        ·refine br h (λh=>?_) λh=>?_
         ·refine oi h λm h=>?_;exact jt h
         ·exact jt h
        ·exact jt h
      ·cases h;exact⟨rfl,rfl,rfl⟩

theorem aHg(j:List aA){r:(List aA)}(h:pW j=some r):Fn Tryz.prog 142 [.d (Z26 j)] (.d (.sl 5 (r.map aG))):=by
 unfold pW at h;refine fnx xT {ow:=[3]} [.tmp 2] func142 results142 ntmps142 ?_;refine xlp [0] [] (λ((e,c):Int×(List aA))=>([(3,.d (.hv 0 3 0)),(4,.i e)],[(3,.arr 103 5 (c.map aG))])) (λk ((e,c):Int×(List aA))=>eB j k e c) (0,([]:List aA)) h (lev []) ?_;rintro k3 ⟨e,c⟩ h;simp only[eB] at h;refine ol ?_;refine br h (λh=>?_) λh=>?_
 ·refine xlp [0,3,4] [3] (λ((f,g):Bool×Int)=>([(5,.b f),(6,.i g)],[])) (λk ((f,g):Bool×Int)=>iQ (eB j k3) j e c k f g) (false,0) h (lev []) ?_;rintro k5 ⟨f,g⟩ h;simp only[iQ] at h;refine ol ?_;refine br h (λh=>?_) λh=>?_
  ·refine⟨by kernel_rfl,?_⟩;refine jo h (λx h=>?_) λb6 h=>?_
   ·refine br h (λh=>?_) λh=>?_
    ·exact⟨by kernel_rfl,jt h⟩
    ·refine oiy h λx8 h9 h=>?_;refine⟨rfl,_,iT aG h9,?_⟩;refine oi h λl h=>?_;refine aWk (a:=x8) (b:=l) Tryz.eqGuardType103 aTr ?_;exact⟨by kernel_rfl,jt h⟩
   ·refine⟨by kernel_rfl,?_⟩;exact⟨(b6,w64 (g+1)),h,lev []⟩
  ·simp only[pK] at h;refine br h (λh=>?_) λh=>?_
   ·refine oi h λn h=>?_;refine oap h λm h=>?_;simp only[mL] at h;exact⟨(w64 (e+1),m),h,lev [(3,39)]⟩
   ·simp only[mL] at h;exact⟨(w64 (e+1),c),h,lev []⟩
 ·simp only[yL] at h;cases h;exact⟨rfl,rfl,rfl⟩

theorem aYd(c:List Int)(e:Int){r:Bool}(h:wQ c e=some r):Fn Tryz.prog 197 [.d (Z14 c),.i e] (.b r):=by
 unfold wQ at h;refine fnx xT {} [.tmp 4] func197 results197 ntmps197 ?_;refine xlp [0,1] [] (λ(a:Int)=>([(5,.i a)],[])) (λk (a:Int)=>lV c e k a) (0) h (lev []) ?_;rintro k2 a h;simp only[lV] at h;refine ol ?_;refine br h (λh=>?_) λh=>?_
 ·refine oi h λx3 h=>?_;refine br h (λh=>?_) λh=>?_
  ·cases h;exact⟨rfl,rfl,rfl⟩
  ·exact⟨(w64 (a+1)),h,lev []⟩
 ·simp only[aBh] at h;cases h;exact⟨rfl,rfl,rfl⟩

theorem aNp(s:aD)(u:List aA){r:(List Int)×Bool}(h:pJ s u=some r):Fn Tryz.prog 140 (Z4 s u) (.tup [.d (.sl 1 (r.1.map aI)),.b r.2]):=by
 unfold pJ at h;refine fnx xT {ow:=[8,13,18]} [.tmp 4,.tmp 5] func140 results140 ntmps140 ?_;refine cd call142 (λ_=>aHg _) h λr2 h=>?_;refine oap h λx5 h=>?_;refine xlp [2,6] [2] (λ((j,n,e,o):Int×Int×Z11×Z11)=>([(7,.d (.hv 0 21 0)),(8,.d (.hv 0 8 0)),(9,.i j),(10,.i n)],[(8,.arr 3 1 (e.map aI)),(21,.arr 3 1 (o.map aI))])) (λk ((j,n,e,o):Int×Int×Z11×Z11)=>dP r2 s k j n e o) (0,0,([]:List Int),x5) h (lev []) ?_;rintro t ⟨j,n,e,o⟩ h;simp only[dP] at h;refine ol ?_;refine br h (λh=>?_) λh=>?_
 ·refine oi h λv h=>?_;refine xlp [2,6,8,10] [2,8] (λ((a,l,m,c):Int×Int×Bool×Z11)=>([(7,.d (.hv 0 21 0)),(9,.i a),(11,.i l),(12,.b m)],[(21,.arr 3 1 (c.map aI))])) (λk ((a,l,m,c):Int×Int×Bool×Z11)=>fR (dP r2 s t) r2 n s e k a l m c) (j,v,true,o) h (lev []) ?_;rintro w ⟨a,l,m,c⟩ h;simp only[fR] at h;refine br h (λh=>?_) λh=>?_
  ·refine xlp [2,6,7,8,9,10,11,12] [2,8,21] (λ((p,g):Int×Z11)=>([(13,.d (.hv 0 13 0)),(14,.i p)],[(13,.arr 3 1 (g.map aI))])) (λk ((p,g):Int×Z11)=>eX (dP r2 s t) (fR (dP r2 s t) r2 n s e w) r2 a n l false s e c k p g) (0,([]:List Int)) h (lev []) ?_;rintro F ⟨p,g⟩ h;simp only[eX] at h;refine ol ?_;refine br h (λh=>?_) λh=>?_
   ·refine oi h λG h=>?_;refine jg h (λx h=>?_) λH h=>?_
    ·refine br h (λh=>?_) λh=>?_
     ·refine oi h λI h=>?_;exact jt h
     ·exact jt h
    ·refine jg h (λx h=>?_) λJ h=>?_
     ·refine br h (λh=>?_) λh=>?_
      ·refine oi h λK h=>?_;exact jt h
      ·exact jt h
     ·refine br h (λh=>?_) λh=>?_
      ·refine oi h λL h=>?_;refine oap h λy h=>?_;exact⟨(w64 (p+1),y),h,lev [(13,72)]⟩
      ·exact⟨(w64 (p+1),g),h,lev []⟩
   ·simp only[mH] at h;refine ol ?_;refine jg h (λx h=>?_) λM h=>?_
    ·refine br h (λh=>?_) λh=>?_
     ·exact jt h
     ·refine ol ?_;refine jg h (λx h=>?_) λN h=>?_
      ·refine br h (λh=>?_) λh=>?_
       ·refine oiy h λO z h=>?_;refine⟨rfl,_,iT aI z,?_⟩;refine cl call197 (λ_=>aYd _ _) h λP h=>?_;exact jt h
       ·exact jt h
      ·exact jt h
    ·refine br h (λh=>?_) λh=>?_
     ·cases h;exact⟨rfl,_,_,rfl,rfl,rfl,rfl,rfl⟩
     ·refine ol ?_;refine br h (λh=>?_) λh=>?_
      ·refine oiy h λA B h=>?_;refine⟨rfl,_,iT aI B,?_⟩;refine oap h λC h=>?_;simp only[kC] at h;exact⟨(w64 (a+1),A,true,C),h,lev [(21,97)]⟩
      ·simp only[kC] at h;exact⟨(a,l,false,c),h,lev []⟩
  ·simp only[pV] at h;refine oap h λE h=>?_;simp only[uS] at h;exact⟨(a,w64 (n+1),E,c),h,lev [(8,103)]⟩
 ·simp only[uR] at h;refine xlp [6,8] [8] (λ((f,q):Int×Int)=>([(9,.i f),(15,.i q)],[])) (λk ((f,q):Int×Int)=>eY r2 e k f q) (j,0) h (lev []) ?_;rintro Q ⟨f,q⟩ h;simp only[eY] at h;refine ol ?_;refine br h (λh=>?_) λh=>?_
  ·refine oi h λS h=>?_;refine br h (λh=>?_) λh=>?_
   ·exact⟨(w64 (f-1),w64 (q+1)),h,lev []⟩
   ·exact⟨(f,w64 (q+1)),h,lev []⟩
  ·simp only[uT] at h;cases h;exact⟨rfl,_,_,rfl,rfl,rfl,rfl,rfl⟩

theorem aAa (q:aD)(O:List aA){r:aF×Bool}(h:cN q O=some r):Fn Tryz.prog 64 (Z4 q O) (.tup [.agg (bT r.1),.b r.2]):=by
 unfold cN at h;refine iE func64 rfl (rs:=[.cell 4 158,.tmp 5]) results64 ntmps64 (Nat.le_of_ble_eq_true rfl) ?_;refine aZ (aO ?_);refine bJ rfl (qY (v:=.agg (bB q)) (aC rfl) rfl rfl rfl) ?_;rintro _ ⟨b1,rfl⟩;refine bJ rfl (dE (zs:=Z2) (aC rfl) zeroValue158 rfl rfl) ?_;rintro _ ⟨b2,rfl⟩;refine au 4 ?_;refine to (sla 0 (bB q) rfl rfl aQr) (tm (.d (Z26 O)) ?_);obtain⟨r3,h4,h⟩:=bns h;refine to (aIk (aC rfl) (.func _ _ call140) rfl rfl (aNp _ _ h4)) ?_;refine au 12 ?_;refine tih h (λc5 h=>?_) (λc5 h=>?_)
 ·refine aZ (aO (to (iV (aC rfl) aMp (zs:=Z2) rfl rfl rfl rfl (es:=Z2) rfl) ?_));refine to (sst 1 rfl rfl sizeOf158 (bT Z1)) (au 2 ?_);obtain rfl:=sIn h;exact cW ⟨rfl,_,[.box b1 0 (bB q),.box b2 0 (bT Z1)],.two (.cell 4 158 rfl (i:=1) rfl aIg (es:=(bT Z1)) rfl rfl) (.tmp 5 (v:=.b false) rfl),.refl _,.same _⟩
 ·refine au 4 ?_;refine to (iV (aC rfl) aMp (zs:=Z25) rfl rfl rfl rfl (es:=[.sl 1 (r3.1.map aI),.lit (.slice none 0 0)]) rfl) ?_;refine bJ rfl (dE (zs:=Z25) (aC rfl) zeroValue158 rfl rfl) ?_;rintro _ ⟨b6,rfl⟩;refine fY (pD 24 1) ?_;refine fY (aYj 3 1) ?_;refine to (sst 2 rfl rfl sizeOf158 [.sl 1 (r3.1.map aI),.lit (.slice none 0 0)]) (au 7 ?_);refine eV (S:=Int×(List Z11)×Z11×(List Value)×Value) [1,2,4,6,8] (λs7=>[(9,.i s7.1)]) (λs7=>[.box b1 0 (bB q),.box b2 0 (bT Z1),.fam 3 1 s7.2.2.2.1 (s7.2.1.map λr=>r.map aI),.arr s7.2.2.2.2 24 1 (s7.2.2.2.1.map λv=>[.lit v]),.box b6 0 [.sl 1 (s7.2.2.1.map aI),.lit s7.2.2.2.2]]) (λk s7=>gC O r3.1 q Z1 k s7.1 s7.2.1 s7.2.2.1) (λ_=>rfl) (0,([]:List Z11),r3.1,[],(.slice none 0 0)) h (aQ [0,1,4,3,2] rfl rfl (aL rfl (aY (ae rfl)))) ?_;rintro d1 ⟨U,H,c,C,w9⟩ h;simp only[gC] at h;refine au 8 ?_;refine tih h (λd2 h=>?_) (λd2 h=>?_)
  ·refine au 5 ?_;refine to (pS 3 1 (.inl rfl) (aC rfl)) ?_;refine au 7 ?_;refine eV (S:=Int×Z11×Value) [1,2,4,6,8,9] (λE=>[(10,.d (.lit E.2.2)),(11,.i E.1)]) (λE=>[.box b1 0 (bB q),.box b2 0 (bT Z1),.fam 3 1 C (H.map λr=>r.map aI),.arr w9 24 1 (C.map λv=>[.lit v]),.box b6 0 [.sl 1 (c.map aI),.lit w9],.arr E.2.2 3 1 (E.2.1.map aI)]) (λk E=>eA (gC O r3.1 q Z1 d1) O r3.1 U q Z1 H c k E.1 E.2.1) (λ_=>rfl) (0,([]:List Int),(.slice none 0 0)) h (aQ [0,1,2,3,4,5] rfl rfl (aL rfl (aL rfl (aY (ae rfl))))) ?_;rintro i0 ⟨A,c7,Y⟩ h;simp only[eA] at h;refine au 4 ?_;refine to (sla 0 (bB q) rfl rfl aQr) (tm (.i U) ?_);obtain⟨i1,d3,h⟩:=bns h;refine to (scr call141 (xL _ _ d3)) (au 2 ?_);refine tih h (λd4 h=>?_) (λd4 h=>?_)
   ·refine au 13 ?_;obtain⟨d5,I,h⟩:=bns h;refine pB 7 [1,2,4,6,8,9,10,11,12] 55 d5 ?_ ?_
    ·refine bch I (λb5 I=>?_) (λb5 I=>?_)
     ·refine au 3 ?_;obtain⟨i2,d6,I⟩:=bns I;refine tk b5 (six rfl rfl gK.of (dM aI d6)) (au 3 ?_);obtain rfl:=sIn I;refine aP (eU rfl (ae rfl) rfl)
     ·refine au 7 ?_;obtain rfl:=sIn I;refine aP (eU rfl (ae rfl) rfl)
    ·refine aP ?_;refine tih h (λd7 h=>?_) (λd7 h=>?_)
     ·refine au 5 ?_;obtain⟨d8,d9,h⟩:=bns h;refine to (six rfl rfl gK.of (dM aI d9)) (au 9 ?_);obtain⟨e0,J,h⟩:=bns h;refine pB 8 [1,2,4,6,8,9,10,11,12] 72 e0 ?_ ?_
      ·refine bch J (λb7 J=>?_) (λb7 J=>?_)
       ·refine au 4 ?_;obtain⟨i3,e1,J⟩:=bns J;refine tk b7 (six rfl rfl gK.of (dM aI e1)) (au 3 ?_);obtain rfl:=sIn J;refine aP (eU rfl (ae rfl) rfl)
       ·refine au 8 ?_;obtain rfl:=sIn J;refine aP (eU rfl (ae rfl) rfl)
      ·refine aP ?_;refine tih h (λe2 h=>?_) (λe2 h=>?_)
       ·refine au 4 ?_;obtain⟨e3,e4,h⟩:=bns h;refine to (six rfl rfl gK.of (dM aI e4)) (au 6 ?_);refine to (nK (aC rfl) gK rfl rfl (rows:=([e3]).map aI) rfl (fH (f:=aI) λ_=>rfl) rfl (by decide)) ?_;obtain⟨e5,e6,h⟩:=bns h;refine bJ rfl (kI (i:=5) (aC rfl) gK rfl rfl rfl (λ_=>rfl) e6 rfl) ?_;rintro _ ⟨b8,rfl⟩;refine ta (.d (.lit b8)) ?_;refine lG ?_;refine au 5 ?_;exact⟨(w64 (A+1),e5,b8),h,aQ [0,1,2,3,4,5] rfl rfl (aL rfl (aL rfl (aY (ae rfl))))⟩
       ·refine au 4 ?_;refine to (nK (aC rfl) gK rfl rfl (rows:=([d8]).map aI) rfl (fH (f:=aI) λ_=>rfl) rfl (by decide)) ?_;obtain⟨e7,e8,h⟩:=bns h;refine bJ rfl (kI (i:=5) (aC rfl) gK rfl rfl rfl (λ_=>rfl) e8 rfl) ?_;rintro _ ⟨b9,rfl⟩;refine ta (.d (.lit b9)) ?_;refine lG ?_;refine au 5 ?_;exact⟨(w64 (A+1),e7,b9),h,aQ [0,1,2,3,4,5] rfl rfl (aL rfl (aL rfl (aY (ae rfl))))⟩
     ·refine au 7 ?_;obtain⟨e9,K,h⟩:=bns h;refine pB 8 [1,2,4,6,8,9,10,11,12] 72 e9 ?_ ?_
      ·refine bch K (λc0 K=>?_) (λc0 K=>?_)
       ·refine au 4 ?_;obtain⟨i4,f0,K⟩:=bns K;refine tk c0 (six rfl rfl gK.of (dM aI f0)) (au 3 ?_);obtain rfl:=sIn K;refine aP (eU rfl (ae rfl) rfl)
       ·refine au 8 ?_;obtain rfl:=sIn K;refine aP (eU rfl (ae rfl) rfl)
      ·refine aP ?_;refine tih h (λf1 h=>?_) (λf1 h=>?_)
       ·refine au 4 ?_;obtain⟨f2,f3,h⟩:=bns h;refine to (six rfl rfl gK.of (dM aI f3)) (au 6 ?_);refine to (nK (aC rfl) gK rfl rfl (rows:=([f2]).map aI) rfl (fH (f:=aI) λ_=>rfl) rfl (by decide)) ?_;obtain⟨f4,f5,h⟩:=bns h;refine bJ rfl (kI (i:=5) (aC rfl) gK rfl rfl rfl (λ_=>rfl) f5 rfl) ?_;rintro _ ⟨c1,rfl⟩;refine ta (.d (.lit c1)) ?_;refine lG ?_;refine au 5 ?_;exact⟨(w64 (A+1),f4,c1),h,aQ [0,1,2,3,4,5] rfl rfl (aL rfl (aL rfl (aY (ae rfl))))⟩
       ·refine au 4 ?_;refine to (nK (aC rfl) gK rfl rfl (rows:=([(-2)]).map aI) rfl (fH (f:=aI) λ_=>rfl) rfl (by decide)) ?_;obtain⟨f6,f7,h⟩:=bns h;refine bJ rfl (kI (i:=5) (aC rfl) gK rfl rfl rfl (λ_=>rfl) f7 rfl) ?_;rintro _ ⟨c2,rfl⟩;refine ta (.d (.lit c2)) ?_;refine lG ?_;refine au 5 ?_;exact⟨(w64 (A+1),f6,c2),h,aQ [0,1,2,3,4,5] rfl rfl (aL rfl (aL rfl (aY (ae rfl))))⟩
   ·refine dS ?_;refine .inl ⟨rfl,?_⟩;simp only[mJ] at h;refine au 4 ?_;refine to (nK (aC rfl) aMl rfl rfl (rows:=[[.lit Y]]) rfl (λr hr=>by cases hr with|head=>rfl|tail _ h=>cases h) rfl (by decide)) ?_;obtain⟨c3,c4,h⟩:=bns h;refine bJ rfl (aSz (m:=3) (f:=2) (aC rfl) aMl rfl rfl rfl rfl c4 rfl) ?_;rintro _ ⟨a4,rfl⟩;refine fY (aUs (i:=2) [.box b1 0 (bB q),.box b2 0 (bT Z1),.fam 3 1 C (H.map λr=>r.map aI),.arr a4 24 1 ((C++[Y]).map λv=>[.lit v]),.box b6 0 [.sl 1 (c.map aI),.lit w9]] [.box b1 0 (bB q),.box b2 0 (bT Z1),.fam 3 1 (C++[Y]) (c3.map λr=>r.map aI),.arr a4 24 1 ((C++[Y]).map λv=>[.lit v]),.box b6 0 [.sl 1 (c.map aI),.lit w9]] rfl rfl c4 rfl) ?_;refine to (sf rfl aCe) (to (sst 4 rfl rfl sizeOf156 [.sl 1 (c.map aI),.lit a4]) ?_);refine lG ?_;simp only[yJ] at h;refine au 5 ?_;exact⟨(w64 (U+1),c3,c,(C++[Y]),a4),h,aQ [0,1,2,3,4] rfl rfl (aL rfl (aY (ae rfl)))⟩
  ·refine dS ?_;refine .inl ⟨rfl,?_⟩;simp only[mI] at h;refine au 3 ?_;obtain⟨L,f8,h⟩:=bns h;refine to (aIk (aC rfl) (.func _ _ call142) rfl rfl (aHg _ f8)) ?_;refine au 8 ?_;refine eV (S:=Int×aF×(List Z11)×(List Value)) [4,6,8,13] (λy=>[(14,.i y.1)]) (λy=>[.box b2 0 (bT y.2.1),.fam 3 1 y.2.2.2 (y.2.2.1.map λr=>r.map aI),.arr w9 24 1 (y.2.2.2.map λv=>[.lit v]),.box b6 0 [.sl 1 (c.map aI),.lit w9]]) (λk y=>cR r3.1 L c k y.1 y.2.1 y.2.2.1) (λ_=>rfl) (0,Z1,H,C) h (aQ [1,2,3,4] rfl rfl (aL rfl (aY (ae rfl)))) ?_;rintro a6 ⟨t,P,n,o⟩ h;simp only[cR] at h;refine au 8 ?_;refine tih h (λf9 h=>?_) (λf9 h=>?_)
   ·refine au 7 ?_;obtain⟨l,g0,h⟩:=bns h;refine to (six rfl rfl bAd.of (dM aG g0)) (to (aHd (aG l) rfl rF) ?_);refine bJ rfl (dE (zs:=[.j 0,.j 0,.j 0,.j 0,.j 0]) (aC rfl) zeroValue103 rfl rfl) ?_;rintro _ ⟨B,rfl⟩;refine to (sst 4 rfl rfl sizeOf103 (aG l)) (au 8 ?_);refine tih h (λg1 h=>?_) (λg1 h=>?_)
    ·refine dS ?_;refine .inl ⟨rfl,?_⟩;simp only[mK] at h;refine au 5 ?_;exact⟨(w64 (t+1),P,n,o),h,aQ [0,1,2,3] rfl rfl (aL rfl (aY (ae rfl)))⟩
    ·refine au 7 ?_;refine eV (S:=Int×aF) [4,6,8,13,14,15] (λQ=>[(16,.i Q.1)]) (λQ=>[.box b2 0 (bT Q.2),.fam 3 1 o (n.map λr=>r.map aI),.arr w9 24 1 (o.map λv=>[.lit v]),.box b6 0 [.sl 1 (c.map aI),.lit w9],.box B 0 (aG l)]) (λk Q=>iP (cR r3.1 L c a6) r3.1 L t n c l k Q.1 Q.2) (λ_=>rfl) (0,P) h (aQ [0,1,2,3,4] rfl rfl (aL rfl (aY (ae rfl)))) ?_;rintro i5 ⟨a7,w⟩ h;simp only[iP] at h;refine au 7 ?_;refine tih h (λg2 h=>?_) (λg2 h=>?_)
     ·refine au 7 ?_;obtain⟨a8,g3,h⟩:=bns h;refine to (six rfl rfl bAd.of (dM aG g3)) (to (aHd (aG a8) rfl rF) ?_);refine bJ rfl (dE (zs:=[.j 0,.j 0,.j 0,.j 0,.j 0]) (aC rfl) zeroValue103 rfl rfl) ?_;rintro _ ⟨g4,rfl⟩;refine to (sst 5 rfl rfl sizeOf103 (aG a8)) (au 7 ?_);obtain⟨c6,Z,h⟩:=bns h;refine pB 6 [4,6,8,13,14,15,16,17] 121 c6 ?_ ?_
      ·refine bch Z (λg5 Z=>?_) (λg5 Z=>?_)
       ·refine au 6 ?_;obtain rfl:=sIn Z;refine aP (eU rfl (ae rfl) rfl)
       ·refine au 6 ?_;obtain rfl:=sIn Z;refine aP (eU rfl (ae rfl) rfl)
      ·refine tm (.b c6) ?_;obtain⟨g6,a2,h⟩:=bns h;refine pB 6 [4,6,8,13,14,15,16] 128 g6 ?_ ?_
       ·refine bch a2 (λg7 a2=>?_) (λg7 a2=>?_)
        ·refine au 6 ?_;obtain rfl:=sIn a2;refine aP (eU rfl (ae rfl) rfl)
        ·refine au 6 ?_;obtain rfl:=sIn a2;refine aP (eU rfl (ae rfl) rfl)
       ·refine aP ?_;refine tih h (λg8 h=>?_) (λg8 h=>?_)
        ·refine aZ (aO (to (iV (aC rfl) aMp (zs:=Z2) rfl rfl rfl rfl (es:=Z2) rfl) ?_));refine to (sst 0 rfl rfl sizeOf158 (bT Z1)) (au 2 ?_);obtain rfl:=sIn h;exact cW ⟨rfl,_,[.box b2 0 (bT Z1),.fam 3 1 o (n.map λr=>r.map aI),.arr w9 24 1 (o.map λv=>[.lit v]),.box b6 0 [.sl 1 (c.map aI),.lit w9],.box B 0 (aG l),.box g4 0 (aG a8)],.two (.cell 4 158 rfl (i:=0) rfl aIg (es:=(bT Z1)) rfl rfl) (.tmp 5 (v:=.b false) rfl),.refl _,.same _⟩
        ·refine mC ?_;refine au 5 ?_;exact⟨(w64 (a7+1),w),h,aQ [0,1,2,3,4] rfl rfl (aL rfl (aY (ae rfl)))⟩
     ·refine dS ?_;refine .inl ⟨rfl,?_⟩;simp only[tB] at h;refine au 10 ?_;refine eV (S:=Int×Int) [4,6,8,13,14,15] (λT=>[(18,.i T.1),(19,.i T.2)]) (λT=>[.box b2 0 (bT w),.fam 3 1 o (n.map λr=>r.map aI),.arr w9 24 1 (o.map λv=>[.lit v]),.box b6 0 [.sl 1 (c.map aI),.lit w9],.box B 0 (aG l)]) (λk T=>dQ (cR r3.1 L c a6) r3.1 L t w n c l k T.1 T.2) (λ_=>rfl) ((-1),0) h (aQ [0,1,2,3,4] rfl rfl (aL rfl (aL rfl (aY (ae rfl))))) ?_;rintro i6 ⟨e,u⟩ h;simp only[dQ] at h;refine au 8 ?_;refine tih h (λg9 h=>?_) (λg9 h=>?_)
      ·refine au 4 ?_;obtain⟨a9,h0,h⟩:=bns h;refine kX mix 6 [4,6,8,13,14,15,18,19] [(139,.i a9),(141,.i l.Player)] ?_ ?_
       ·refine⟨[(136,0,.d (.sl 1 (r3.1.map aI))),(137,1,.i u),(138,2,.cp [.j a9]),(139,3,.i a9),(140,4,.bp B 0 3),(141,5,.i l.Player)],?_,?_⟩
        · exact dk [0,0,102,3,0,5] ⟨go (zm (.d (.sl 1 (r3.1.map aI)))),
 go (zm (.i u)),
 go (zix rfl rfl gK.of (dM aI h0)),
 go (zlc rfl kD),
 go (zf rfl aCd),
 go (zl 4 rfl rfl rfl kD),trivial⟩
        · exact iG (aL rfl (aL rfl (aY (ae rfl))))
       ·refine au 2 ?_;refine tih h (λh1 h=>?_) (λh1 h=>?_)
        ·refine au 3 ?_;refine lG ?_;refine au 5 ?_;exact⟨(u,w64 (u+1)),h,aQ [0,1,2,3,4] rfl rfl (aL rfl (aL rfl (aY (ae rfl))))⟩
        ·refine mC ?_;refine au 5 ?_;exact⟨(e,w64 (u+1)),h,aQ [0,1,2,3,4] rfl rfl (aL rfl (aL rfl (aY (ae rfl))))⟩
      ·refine dS ?_;refine .inl ⟨rfl,?_⟩;simp only[iO] at h;refine au 6 ?_;obtain⟨h2,M,h⟩:=bns h;refine pB 10 [4,6,8,13,14,15,18] 156 h2 ?_ ?_
       ·refine bch M (λa3 M=>?_) (λa3 M=>?_)
        ·refine au 10 ?_;obtain rfl:=sIn M;refine aP (eU rfl (ae rfl) rfl)
        ·refine au 4 ?_;refine tk a3 (bJg (aC rfl) rfl runUnderlying3 runUnderlying210) ?_;obtain⟨h7,c8,M⟩:=bns M;refine tk a3 (bFn (aC rfl) rfl rfl (bFk c8)) ?_;refine au 4 ?_;obtain rfl:=sIn M;refine aP (eU rfl (ae rfl) rfl)
       ·refine aP ?_;refine tih h (λh3 h=>?_) (λh3 h=>?_)
        ·refine aZ (aO (to (iV (aC rfl) aMp (zs:=Z2) rfl rfl rfl rfl (es:=Z2) rfl) ?_));refine to (sst 0 rfl rfl sizeOf158 (bT Z1)) (au 2 ?_);obtain rfl:=sIn h;exact cW ⟨rfl,_,[.box b2 0 (bT Z1),.fam 3 1 o (n.map λr=>r.map aI),.arr w9 24 1 (o.map λv=>[.lit v]),.box b6 0 [.sl 1 (c.map aI),.lit w9],.box B 0 (aG l)],.two (.cell 4 158 rfl (i:=0) rfl aIg (es:=(bT Z1)) rfl rfl) (.tmp 5 (v:=.b false) rfl),.refl _,.same _⟩
        ·refine au 5 ?_;refine aMr ?_;refine eV (S:=Int×aF×(List Z11)×(List Value)) [4,6,8,13,14,15,18] (λz=>[(20,.i z.1)]) (λz=>[.box b2 0 (bT z.2.1),.fam 3 1 z.2.2.2 (z.2.2.1.map λr=>r.map aI),.arr w9 24 1 (z.2.2.2.map λv=>[.lit v]),.box b6 0 [.sl 1 (c.map aI),.lit w9],.box B 0 (aG l)]) (λk z=>gZ (cR r3.1 L c a6) r3.1 L t e c l k z.1 z.2.1 z.2.2.1) (λ_=>rfl) (0,w,n,o) h (aQ [0,1,2,3,4] rfl rfl (aL rfl (aY (ae rfl)))) ?_;rintro i7 ⟨a,N,x,p⟩ h;simp only[gZ] at h;refine au 8 ?_;refine tih h (λh5 h=>?_) (λh5 h=>?_)
         ·refine au 8 ?_;refine to (bJg (aC rfl) rfl runUnderlying3 runUnderlying210) ?_;obtain⟨i8,h6,h⟩:=bns h;refine to (bFn (aC rfl) rfl rfl (bFk h6)) ?_;refine au 4 ?_;obtain⟨i9,F,h⟩:=bns h;obtain⟨G,a5,h⟩:=bns h;obtain⟨c9,s,h⟩:=bns h;refine kX mix 22 [4,6,8,13,14,15,18,20,21] [(190,.b c9)] ?_ ?_
          ·refine bch s (λj s=>?_) (λj s=>?_)
           ·obtain⟨h8,V,s⟩:=bns s;obtain⟨W,b0,s⟩:=bns s;obtain rfl:=sIn s;refine⟨[(169,0,.bp b6 0 1),(170,1,.d (.lit w9)),(171,2,.i a),(172,3,.ep w9 1 a.toNat 0),(173,4,.d (.lit (aBj p a))),(174,5,.i (e.fdiv (2^(min (uw (w64 (a+1))).toNat 64)))),(175,6,.ep (aBj p a) 1 (e.fdiv (2^(min (uw (w64 (a+1))).toNat 64))).toNat 0),(176,7,.i G),(177,8,.b (!decide (G=(-2)))),(178,9,.b (!decide (G=(-2)))),(179,10,.bp b6 0 1),(180,11,.d (.lit w9)),(181,12,.i a),(182,13,.ep w9 1 a.toNat 0),(183,14,.d (.lit (aBj p a))),(184,15,.i (e.fdiv (2^(min (uw (w64 (a+1))).toNat 64)))),(185,16,.ep (aBj p a) 1 (e.fdiv (2^(min (uw (w64 (a+1))).toNat 64))).toNat 0),(186,17,.i W),(187,18,.bp B 0 3),(188,19,.i l.Player),(189,20,.b (!decide (W=l.Player))),(190,21,.b (!decide (W=l.Player)))],?_,?_⟩
            · exact dk [0,1,0,203,4,0,506,7,8,9,10,1011,10,101213,1014,10,101516,1017,10,1019,101820,1021] ⟨go (zf rfl aCe),
 go (zl 3 rfl rfl rfl aMh),
 go (zm (.i a)),
 go λS hS=>aDr (m:=2) (f:=1) (aC rfl) (bI hS rfl) rfl rfl (bI hS rfl) aMl.of F,
 go λS hS=>aFt (m:=2) (f:=1) (aC rfl) (bI hS rfl) rfl rfl F aAj,
 go (zm (.i (e.fdiv (2^(min (uw (w64 (a+1))).toNat 64))))),
 go λS hS=>aFs (f:=1) (g:=aI) (aC rfl) (bI hS rfl) rfl F (bI hS rfl) gK.of a5,
 go λS hS=>aPg (f:=1) (g:=aI) (aC rfl) (bI hS rfl) rfl F a5 rfl kD,
 go (zcm rfl rfl rfl),
 go (zm (.b (!decide (G=(-2))))),
 gt j (zf rfl aCe),
 gt j (zl 3 rfl rfl rfl aMh),
 gt j (zm (.i a)),
 gt j λS hS=>aDr (m:=2) (f:=1) (aC rfl) (bI hS rfl) rfl rfl (bI hS rfl) aMl.of V,
 gt j λS hS=>aFt (m:=2) (f:=1) (aC rfl) (bI hS rfl) rfl rfl V aAj,
 gt j (zm (.i (e.fdiv (2^(min (uw (w64 (a+1))).toNat 64))))),
 gt j λS hS=>aFs (f:=1) (g:=aI) (aC rfl) (bI hS rfl) rfl V (bI hS rfl) gK.of b0,
 gt j λS hS=>aPg (f:=1) (g:=aI) (aC rfl) (bI hS rfl) rfl V b0 rfl kD,
 gt j (zf rfl aCd),
 gt j (zl 4 rfl rfl rfl kD),
 gt j (zcm rfl rfl rfl),
 go (zpt (.b (!decide (W=l.Player))) j),trivial⟩
            · exact iG (aL rfl (aY (ae rfl)))
           ·obtain rfl:=sIn s;refine⟨[(169,0,.bp b6 0 1),(170,1,.d (.lit w9)),(171,2,.i a),(172,3,.ep w9 1 a.toNat 0),(173,4,.d (.lit (aBj p a))),(174,5,.i (e.fdiv (2^(min (uw (w64 (a+1))).toNat 64)))),(175,6,.ep (aBj p a) 1 (e.fdiv (2^(min (uw (w64 (a+1))).toNat 64))).toNat 0),(176,7,.i G),(177,8,.b (!decide (G=(-2)))),(178,9,.b (!decide (G=(-2)))),(179,10,.tup []),(180,11,.tup []),(181,12,.tup []),(182,13,.tup []),(183,14,.tup []),(184,15,.tup []),(185,16,.tup []),(186,17,.tup []),(187,18,.tup []),(188,19,.tup []),(189,20,.tup []),(190,21,.b false)],?_,?_⟩
            · exact dk [0,1,0,203,4,0,506,7,8,9,10,1011,10,101213,1014,10,101516,1017,10,1019,101820,1021] ⟨go (zf rfl aCe),
 go (zl 3 rfl rfl rfl aMh),
 go (zm (.i a)),
 go λS hS=>aDr (m:=2) (f:=1) (aC rfl) (bI hS rfl) rfl rfl (bI hS rfl) aMl.of F,
 go λS hS=>aFt (m:=2) (f:=1) (aC rfl) (bI hS rfl) rfl rfl F aAj,
 go (zm (.i (e.fdiv (2^(min (uw (w64 (a+1))).toNat 64))))),
 go λS hS=>aFs (f:=1) (g:=aI) (aC rfl) (bI hS rfl) rfl F (bI hS rfl) gK.of a5,
 go λS hS=>aPg (f:=1) (g:=aI) (aC rfl) (bI hS rfl) rfl F a5 rfl kD,
 go (zcm rfl rfl rfl),
 go (zm (.b (!decide (G=(-2))))),
 gp j,
 gp j,
 gp j,
 gp j,
 gp j,
 gp j,
 gp j,
 gp j,
 gp j,
 gp j,
 gp j,
 go (zpf (.b false) j),trivial⟩
            · exact iG (aL rfl (aY (ae rfl)))
          ·refine aP ?_;refine tih h (λd0 h=>?_) (λd0 h=>?_)
           ·refine aZ (aO (to (iV (aC rfl) aMp (zs:=Z2) rfl rfl rfl rfl (es:=Z2) rfl) ?_));refine to (sst 0 rfl rfl sizeOf158 (bT Z1)) (au 2 ?_);obtain rfl:=sIn h;exact cW ⟨rfl,_,[.box b2 0 (bT Z1),.fam 3 1 p (x.map λr=>r.map aI),.arr w9 24 1 (p.map λv=>[.lit v]),.box b6 0 [.sl 1 (c.map aI),.lit w9],.box B 0 (aG l)],.two (.cell 4 158 rfl (i:=0) rfl aIg (es:=(bT Z1)) rfl rfl) (.tmp 5 (v:=.b false) rfl),.refl _,.same _⟩
           ·refine xJ ?_;obtain⟨b3,X,h⟩:=bns h;refine kX mix 8 [4,6,8,13,14,15,18,20] [(196,.d (.lit (aBj p a))),(197,.i (e.fdiv (2^(min (uw (w64 (a+1))).toNat 64)))),(199,.i l.Player)] ?_ ?_
            ·refine⟨[(192,0,.bp b6 0 1),(193,1,.d (.lit w9)),(194,2,.i a),(195,3,.ep w9 1 a.toNat 0),(196,4,.d (.lit (aBj p a))),(197,5,.i (e.fdiv (2^(min (uw (w64 (a+1))).toNat 64)))),(198,6,.bp B 0 3),(199,7,.i l.Player)],?_,?_⟩
             · exact dk [0,1,0,203,4,0,0,7] ⟨go (zf rfl aCe),
 go (zl 3 rfl rfl rfl aMh),
 go (zm (.i a)),
 go λS hS=>aDr (m:=2) (f:=1) (aC rfl) (bI hS rfl) rfl rfl (bI hS rfl) aMl.of X,
 go λS hS=>aFt (m:=2) (f:=1) (aC rfl) (bI hS rfl) rfl rfl X aAj,
 go (zm (.i (e.fdiv (2^(min (uw (w64 (a+1))).toNat 64))))),
 go (zf rfl aCd),
 go (zl 4 rfl rfl rfl kD),trivial⟩
             · exact iG (aL rfl (aL rfl (aL rfl (aY (ae rfl)))))
            ·obtain⟨h9,b4,h⟩:=bns h;refine to (aFs (f:=1) (g:=aI) (aC rfl) rfl rfl X rfl gK.of b4) ?_;refine to (bLs (f:=1) (g:=aI) rfl rfl X b4 rfl rfl rfl sizeOf3 rfl (aC rfl) (Nat.le_of_ble_eq_true rfl) (a':=l.Player) rfl (c':=(x.set a.toNat (b3.set (e.fdiv (2^(min (uw (w64 (a+1))).toNat 64))).toNat l.Player))) rfl) ?_;refine lG ?_;refine au 5 ?_;exact⟨(w64 (a+1),N,(x.set a.toNat (b3.set (e.fdiv (2^(min (uw (w64 (a+1))).toNat 64))).toNat l.Player)),p),h,aQ [0,1,2,3,4] rfl rfl (aL rfl (aY (ae rfl)))⟩
         ·refine dS ?_;refine .inl ⟨rfl,?_⟩;simp only[xO] at h;simp only[mK] at h;refine au 5 ?_;exact⟨(w64 (t+1),N,x,p),h,aQ [0,1,2,3] rfl rfl (aL rfl (aY (ae rfl)))⟩
   ·refine dS ?_;refine .inl ⟨rfl,?_⟩;simp only[yK] at h;refine aZ (aO (to (sla 3 [.sl 1 (c.map aI),.lit w9] rfl rfl aIg) (to (sst 0 rfl rfl sizeOf158 [.sl 1 (c.map aI),.lit w9]) (au 2 ?_))));obtain rfl:=sIn h;exact cW ⟨rfl,_,[.box b2 0 [.sl 1 (c.map aI),.lit w9],.fam 3 1 o (n.map λr=>r.map aI),.arr w9 24 1 (o.map λv=>[.lit v]),.box b6 0 [.sl 1 (c.map aI),.lit w9]],.two (.cell 4 158 rfl (i:=0) rfl aIg (es:=[.sl 1 (c.map aI),.lit w9]) rfl rfl) (.tmp 5 (v:=.b true) rfl),.refl _,yH (.cons (.agg (dvc (.same _) (dvc (bSf 2 1 rfl rfl (h:=sO) (λ_=>rfl)) dvn))) (.cons (.same _) .nil))⟩

theorem tA(b:aD)(c:List aA){r:Int}(h:dU b c=some r):Fn Tryz.prog 36 (Z4 b c) (.i r):=by
 unfold dU at h;refine fnx xT {} [.tmp 4] func36 results36 ntmps36 ?_;refine cl call62 (λ_=>aQi _) h λr2 h=>?_;refine br h (λh=>?_) λh=>?_
 ·cases h;exact⟨rfl,rfl,rfl⟩
 ·refine ol ?_;refine br h (λh=>?_) λh=>?_
  ·cases h;exact⟨rfl,rfl,rfl⟩
  ·refine xlp [1,2] [2] (λ(a:Int)=>([(5,.i a)],[])) (λk (a:Int)=>gW c b k a) (0) h (lev []) ?_;rintro k5 a h;simp only[gW] at h;refine ol ?_;refine br h (λh=>?_) λh=>?_
   ·refine⟨by kernel_rfl,?_⟩;refine oi h λx6 h=>?_;refine cl call63 (λ_=>aQk _ _) h λr8 h=>?_;refine⟨by kernel_rfl,?_⟩;refine br h (λh=>?_) λh=>?_
    ·cases h;exact⟨rfl,rfl,rfl⟩
    ·exact⟨(w64 (a+1)),h,lev []⟩
   ·simp only[lD] at h;refine cd call64 (λ_=>aAa _ _) h λe h=>?_;refine br h (λh=>?_) λh=>?_
    ·cases h;exact⟨rfl,rfl,rfl⟩
    ·cases h;exact⟨rfl,rfl,rfl⟩

theorem aJy(d:aF)(a:Int)(b:Int)(c:Int){r:Int}(h:sN d a b c=some r):Fn Tryz.prog 198 [.agg (bT d),.i a,.i b,.i c] (.i r):=by
 unfold sN at h;refine fnx xT {} [.tmp 8] func198 results198 ntmps198 ?_;refine br h (λh=>?_) λh=>?_
 ·refine oi h λx2 h=>?_;cases h;exact⟨rfl,rfl,rfl⟩
 ·refine oi h λx4 h=>?_;refine oi h λx6 h=>?_;cases h;exact⟨rfl,rfl,rfl⟩

theorem aRj(f:aD)(g:aF){r:(List aE)}(h:lU f g=some r):Fn Tryz.prog 143 [.agg (bB f),.agg (bT g)] (.d (.sl 4 (r.map bM))):=by
 unfold lU at h;refine fnx xT {ow:=[5]} [.tmp 4] func143 results143 ntmps143 ?_;refine xlp [2,3] [2,3] (λ((c,a):Int×(List aE))=>([(5,.d (.hv 0 5 0)),(6,.i c)],[(5,.arr 97 4 (a.map bM))])) (λk ((c,a):Int×(List aE))=>dR f g k c a) (0,([]:List aE)) h (lev []) ?_;rintro k5 ⟨c,a⟩ h;simp only[dR] at h;refine br h (λh=>?_) λh=>?_
 ·refine xlp [2,3,6] [2,3] (λ((e,b):Int×(List aE))=>([(5,.d (.hv 0 5 0)),(7,.i e)],[(5,.arr 97 4 (b.map bM))])) (λk ((e,b):Int×(List aE))=>gY (dR f g k5) c f g k e b) (0,a) h (lev []) ?_;rintro k7 ⟨e,b⟩ h;simp only[gY] at h;refine cl call141 (λ_=>xL _ _) h λr8 h=>?_;refine br h (λh=>?_) λh=>?_
  ·refine⟨by kernel_rfl,?_⟩;refine cl call198 (λ_=>aJy _ _ _ _) h λl h=>?_;refine cl call198 (λ_=>aJy _ _ _ _) h λm h=>?_;refine oap h λj h=>?_;refine⟨by kernel_rfl,?_⟩;exact⟨(w64 (e+1),j),h,lev [(5,34)]⟩
  ·simp only[oL] at h;simp only[xN] at h;exact⟨(w64 (c+1),b),h,lev []⟩
 ·simp only[xM] at h;cases h;exact⟨rfl,rfl,rfl⟩

theorem aRi(a:aD)(b:List aA){r:(List aE)×Int}(h:jE a b=some r):Fn Tryz.prog 70 (Z4 a b) (.tup [.d (.sl 4 (r.1.map bM)),.i r.2]):=by
 unfold jE at h;refine fnx xT {} [.tmp 4,.tmp 5] func70 results70 ntmps70 ?_;refine cl call36 (λ_=>tA _ _) h λr2 h=>?_;refine br h (λh=>?_) λh=>?_
 ·cases h;exact⟨rfl,_,_,rfl,rfl,rfl,rfl,rfl⟩
 ·refine cd call64 (λ_=>aAa _ _) h λr4 h=>?_;refine cd call143 (λ_=>aRj _ _) h λr7 h=>?_;cases h;exact⟨rfl,_,_,rfl,rfl,rfl,rfl,rfl⟩

theorem aXs(a0:aD)(a1:List aA){r:(List aE)×Int}(h:sX a0 a1=some r):Fn Tryz.prog 86 (Z4 a0 a1) ((λx:(List aE)×Int=>.tup [.d (.sl 4 (x.1.map bM)),.i x.2]) r):=aNv (enc:=λx:(List aE)×Int=>.tup [.d (.sl 4 (x.1.map bM)),.i x.2]) (aXr a0 a1 (aUj a0 a1 h (λx=>x=r) rfl))

theorem aJm(c:aD)(e:List aA)(a:Int)(b:Int){r:Int}(h:iF c e a b=some r):Fn Tryz.prog 144 (Z10 c e a b) (.i r):=by
 unfold iF at h;refine fnx xT {} [.tmp 8] func144 results144 ntmps144 ?_;refine cl call36 (λ_=>tA _ _) h λr2 h=>?_;refine br h (λh=>?_) λh=>?_
 ·cases h;exact⟨rfl,rfl,rfl⟩
 ·refine cl call139 (λ_=>aCw _ _ _) h λr4 h=>?_;refine br h (λh=>?_) λh=>?_
  ·cases h;exact⟨rfl,rfl,rfl⟩
  ·cases h;exact⟨rfl,rfl,rfl⟩

theorem aQj(c:aD)(e:List aA)(a:Int)(b:Int){r:Int×Int}(h:eQ c e a b=some r):Fn Tryz.prog 71 (Z10 c e a b) (.tup [.i r.1,.i r.2]):=by
 unfold eQ at h;refine fnx xT {} [.tmp 8,.tmp 9] func71 results71 ntmps71 ?_;refine cl call144 (λ_=>aJm _ _ _ _) h λr2 h=>?_;refine br h (λh=>?_) λh=>?_
 ·cases h;exact⟨rfl,_,_,rfl,rfl,rfl,rfl,rfl⟩
 ·refine cd call64 (λ_=>aAa _ _) h λr4 h=>?_;refine oi h λx7 h=>?_;refine oi h λx9 h=>?_;refine br h (λh=>?_) λh=>?_
  ·cases h;exact⟨rfl,_,_,rfl,rfl,rfl,rfl,rfl⟩
  ·refine oi h λf h=>?_;refine oi h λg h=>?_;cases h;exact⟨rfl,_,_,rfl,rfl,rfl,rfl,rfl⟩

theorem aVj(a0:aD)(a1:List aA)(a2:Int)(a3:Int){r:Int×Int}(h:vY a0 a1 a2 a3=some r):Fn Tryz.prog 90 (Z10 a0 a1 a2 a3) ((λx:Int×Int=>.tup [.i x.1,.i x.2]) r):=aNv (enc:=λx:Int×Int=>.tup [.i x.1,.i x.2]) (aVi a0 a1 a2 a3 (aQz a0 a1 a2 a3 h (λx=>x=r) rfl))

theorem bLl(o:aD)(p:List aA)(m:List bP){r:(List bS)×(List aE)×Int}(h:vO o p m=some r):Fn Tryz.prog 52 [.agg (bB o),.d (Z26 p),.d (.sl 3 (m.map cU))] (.tup [.d (.sl 6 (r.1.map aGb)),.d (.sl 4 (r.2.1.map bM)),.i r.2.2]):=by
 unfold vO at h;refine fnx xT {ow:=[11,12,30017,30068,300017,300068],lr:=[(20,[17,3068])]} [.tmp 6,.tmp 7,.tmp 8] func52 results52 ntmps52 ?_;refine cd call86 (λ_=>aXs _ _) h λr2 h=>?_;refine br h (λh=>?_) λh=>?_
 ·cases h;exact⟨rfl,_,_,_,rfl,rfl,rfl,rfl,rfl,rfl⟩
 ·refine ol ?_;refine jg h (λx h=>?_) λb4 h=>?_
  ·refine br h (λh=>?_) λh=>?_
   ·exact jt h
   ·refine cl call87 (λ_=>aCn _ _ 88 [] call88 (λ_ _ h=>bFb _ h)) h λr7 h=>?_;exact jt h
  ·refine br h (λh=>?_) λh=>?_
   ·cases h;exact⟨rfl,_,_,_,rfl,rfl,rfl,rfl,rfl,rfl⟩
   ·refine ol ?_;refine xlp [1,2,3,38,39] [3] (λ((b,e,a):Int×(List bS)×(List aE))=>([(11,.d (.hv 0 11 0)),(12,.d (.hv 0 12 0)),(40,.i b)],[(11,.arr 164 6 (e.map aGb)),(12,.arr 97 4 (a.map bM))])) (λk ((b,e,a):Int×(List bS)×(List aE))=>jJ p m r2.1 (r2.1.length:Int) o k b e a) (0,([]:List bS),([]:List aE)) h (lev []) ?_;rintro q ⟨b,e,a⟩ h;simp only[jJ] at h;refine br h (λh=>?_) λh=>?_
    ·refine oi h λs h=>?_;refine cl call90 (λ_=>aVj _ _ _ _) h λA h=>?_;refine br h (λh=>?_) λh=>?_
     ·simp only[vE] at h;exact⟨(w64 (b+1),e,a),h,lev []⟩
     ·refine⟨by kernel_rfl,?_⟩;refine oi h λt h=>?_;refine oi h λu h=>?_;refine⟨by kernel_rfl,?_⟩;refine ol ?_;refine xlp [1,2,3,11,12,14,17,38,39,40,69,70] [3,11,12,14] (λ((f,n,c,g,j,l):Int×Z11×bO×Z11×Int×Int)=>([(71,.i f)],[(3068,.arr 3 1 (n.map aI)),(17,.box [.j c.Low,.j c.High,.hv 0 3068 0,.sl 1 (g.map aI),.j j,.j l])])) (λk ((f,n,c,g,j,l):Int×Z11×bO×Z11×Int×Int)=>pP (jJ p m r2.1 (r2.1.length:Int) o q) p m r2.1 (r2.1.length:Int) b (a.length:Int) o e a s k f n c g j l) (0,([]:List Int),t.Length,([]:List Int),u.Due,0) h (lev []) ?_;rintro B ⟨f,n,c,g,j,l⟩ h;simp only[pP] at h;refine br h (λh=>?_) λh=>?_
      ·refine oiy h λC v h=>?_;refine⟨rfl,_,iT bM v,?_⟩;refine jg h (λx h=>?_) λE h=>?_
       ·refine br h (λh=>?_) λh=>?_
        ·refine⟨by decide,?_⟩;exact jt h
        ·exact jt h
       ·refine br h (λh=>?_) λh=>?_
        ·refine oap h λw h=>?_;exact⟨(w64 (f+1),w,c,g,j,l),h,lev [(3068,94)]⟩
        ·exact⟨(w64 (f+1),n,c,g,j,l),h,lev []⟩
      ·simp only[aDj] at h;refine⟨by kernel_rfl,?_⟩;refine oap h λy h=>?_;refine oap h λz h=>?_;refine⟨by kernel_rfl,?_⟩;simp only[vE] at h;exact⟨(w64 (b+1),y,z),h,lev [(11,100),(12,104)]⟩
    ·simp only[zA] at h;refine ol ?_;refine br h (λh=>?_) λh=>?_
     ·cases h;exact⟨rfl,_,_,_,rfl,rfl,rfl,rfl,rfl,rfl⟩
     ·cases h;exact⟨rfl,_,_,_,rfl,rfl,rfl,rfl,rfl,rfl⟩

theorem uX(d:Int)(c:Int)(a:Int){r:Bool}(h:nD d c a=some r):Fn Tryz.prog 166 [.i d,.i c,.i a] (.b r):=by
 unfold nD at h;refine fnx xT {} [.tmp 6] func166 results166 ntmps166 ?_;refine jg h (λx h=>?_) λb1 h=>?_
 ·refine br h (λh=>?_) λh=>?_
  ·exact jt h
  ·exact jt h
 ·cases h;exact⟨rfl,rfl,rfl⟩

theorem aYk(a:oO){r:Bool}(h:aAv a=some r):Fn Tryz.prog 91 [.agg (aFj a)] (.b r):=by
 unfold aAv at h;refine fnx xT {} [.tmp 2] func91 results91 ntmps91 ?_;refine cl call166 (λ_=>uX _ _ _) h λr2 h=>?_;refine jg h (λx h=>?_) λb4 h=>?_
 ·refine br h (λh=>?_) λh=>?_
  ·refine cl call166 (λ_=>uX _ _ _) h λr6 h=>?_;exact jt h
  ·exact jt h
 ·refine jg h (λx h=>?_) λb8 h=>?_
  ·refine br h (λh=>?_) λh=>?_
   ·refine cl call166 (λ_=>uX _ _ _) h λc h=>?_;exact jt h
   ·exact jt h
  ·refine jg h (λx h=>?_) λd h=>?_
   ·refine br h (λh=>?_) λh=>?_
    ·refine cl call166 (λ_=>uX _ _ _) h λe h=>?_;exact jt h
    ·exact jt h
   ·refine jg h (λx h=>?_) λf h=>?_
    ·refine br h (λh=>?_) λh=>?_
     ·refine cl call166 (λ_=>uX _ _ _) h λg h=>?_;exact jt h
     ·exact jt h
    ·cases h;exact⟨rfl,rfl,rfl⟩

theorem bEu(c:oO)(b:List kY){r:Int}(h:aAg c b=some r):Fn Tryz.prog 53 [.agg (aFj c),.d (.sl 5 (b.map dW))] (.i r):=by
 unfold aAg at h;refine fnx xT {} [.tmp 4] func53 results53 ntmps53 ?_;refine cl call91 (λ_=>aYk _) h λr2 h=>?_;refine br h (λh=>?_) λh=>?_
 ·cases h;exact⟨rfl,rfl,rfl⟩
 ·refine ol ?_;refine br h (λh=>?_) λh=>?_
  ·cases h
  ·refine omm true ?_;refine ol ?_;refine xlp [5,17,18] [16] (λ(a:Int)=>([(19,.i a)],[])) (λk (a:Int)=>zR b (b.length:Int) ([]:List (Int×kY)) k a) (0) h (lev []) ?_;rintro k6 a h;simp only[zR] at h;refine br h (λh=>?_) λh=>?_
   ·cases h
   ·simp only[aLv] at h;cases h;exact⟨rfl,rfl,rfl⟩

theorem aGo(e:List bO)(f:bO->Option Bool){r:Int}(a:Nat)(c:List AV)(j:∀args w,(callFunc a args).run Tryz.prog w=.ok (.enter a args) w)(l:∀(x0:bO) r,f x0=some r->Fn Tryz.prog a ([.agg (cF x0)]++c) (.b r))(h:jY e f=some r):Fn Tryz.prog 172 [.d (.sl 2 (e.map cF)),.fn a c] (.i r):=by
 unfold jY at h;refine oT [.tmp 4] func172 results172 ntmps172 ?_;refine au 12 ?_;refine eV (S:=Int) [0,1,7] (λs1=>[(8,.i s1)]) (λs1=>[]) (λk s1=>eP e f (e.length:Int) k s1) (λ_=>rfl) (0) h (aQ [] rfl rfl (aL rfl (aY (ae rfl)))) ?_;rintro k2 g h;simp only[eP] at h;refine au 5 ?_;refine tih h (λc3 h=>?_) (λc3 h=>?_)
 ·refine au 10 ?_;refine tm (.fn a c) (au 2 ?_);obtain⟨x4,h5,h⟩:=bns h;refine to (six rfl rfl aTh.of (dM cF h5)) (to (aHd (cF x4) rfl cCt) ?_);obtain⟨r6,h7,h⟩:=bns h;refine to (qS (aC rfl) (.clo _ _ _ _ j rfl) (aEl rfl) rfl (BVs.refl _ _) (l _ _ h7) rfl) ?_;refine aP ?_;refine tih h (λc8 h=>?_) (λc8 h=>?_)
  ·refine au 5 ?_;obtain rfl:=sIn h;exact rt
  ·refine mC ?_;refine au 4 ?_;exact⟨(w64 (g+1)),h,aQ [] rfl rfl (aL rfl (aY (ae rfl)))⟩
 ·refine dS ?_;refine .inl ⟨rfl,?_⟩;simp only[pA] at h;refine au 4 ?_;obtain rfl:=sIn h;exact rt

theorem aDv(g:List bO)(i:bO->Option Bool){r:Bool}(a:Nat)(c:List AV)(e:∀args w,(callFunc a args).run Tryz.prog w=.ok (.enter a args) w)(f:∀(x0:bO) r,i x0=some r->Fn Tryz.prog a ([.agg (cF x0)]++c) (.b r))(h:iL g i=some r):Fn Tryz.prog 97 [.d (.sl 2 (g.map cF)),.fn a c] (.b r):=by
 unfold iL at h;refine oT [.tmp 4] func97 results97 ntmps97 ?_;refine au 7 ?_;refine tm (.fn a c) ?_;obtain⟨r1,h2,h⟩:=bns h;refine to (scr call172 (aGo _ _ a c e f h2)) (au 3 ?_);obtain rfl:=sIn h;exact rt

theorem bCf(a:bO){r:Bool}(h:yZ a=some r):Fn Tryz.prog 98 [.agg (cF a)] (.b r):=by
 unfold yZ at h;refine fnx xT {} [.tmp 2] func98 results98 ntmps98 ?_;refine cl call99 (λ_=>aQb _ _ _) h λr2 h=>?_;cases h;exact⟨rfl,rfl,rfl⟩

theorem aJd(c:cY){r:Int}(h:wG c=some r):Fn Tryz.prog 56 [.agg (aPx c)] (.i r):=by
 unfold wG at h;refine fnx xT {} [.tmp 2] func56 results56 ntmps56 ?_;refine ol ?_;refine cl call96 (λ_=>sS _ _ _) h λr2 h=>?_;refine jg h (λx h=>?_) λb4 h=>?_
 ·refine br h (λh=>?_) λh=>?_
  ·exact jt h
  ·refine cl call96 (λ_=>sS _ _ _) h λr6 h=>?_;exact jt h
 ·refine jg h (λx h=>?_) λb8 h=>?_
  ·refine br h (λh=>?_) λh=>?_
   ·exact jt h
   ·refine ol ?_;exact jt h
  ·refine br h (λh=>?_) λh=>?_
   ·cases h;exact⟨rfl,rfl,rfl⟩
   ·refine ol ?_;refine xlp [1,25,26] [1] (λ(a:Int)=>([(27,.i a)],[])) (λk (a:Int)=>nX c.Days (c.Days.length:Int) c k a) (0) h (lev []) ?_;rintro d a h;simp only[nX] at h;refine br h (λh=>?_) λh=>?_
    ·refine oi h λe h=>?_;refine ol ?_;refine cl call96 (λ_=>sS _ _ _) h λf h=>?_;refine jg h (λx h=>?_) λg h=>?_
     ·refine br h (λh=>?_) λh=>?_
      ·exact jt h
      ·refine ol ?_;refine oi h λj h=>?_;refine ol ?_;exact jt h
     ·refine br h (λh=>?_) λh=>?_
      ·cases h;exact⟨rfl,rfl,rfl⟩
      ·refine cl call97 (λ_=>aDv _ _ 98 [] call98 (λ_ _ h=>bCf _ h)) h λl h=>?_;refine br h (λh=>?_) λh=>?_
       ·cases h;exact⟨rfl,rfl,rfl⟩
       ·exact⟨(w64 (a+1)),h,lev []⟩
    ·simp only[wU] at h;refine ol ?_;refine xlp [1,49,50] [1] (λ(b:Int)=>([(51,.i b)],[])) (λk (b:Int)=>aGx c.Jobs (c.Jobs.length:Int) c k b) (0) h (lev []) ?_;rintro m b h;simp only[aGx] at h;refine br h (λh=>?_) λh=>?_
     ·cases h
     ·simp only[aQa] at h;cases h;exact⟨rfl,rfl,rfl⟩

theorem aXt(a:aD)(b:List aA){Q:Int->Prop}(h:wN a b Q):bC Tryz.prog 54 (Z4 a b) [] (λr' o'=>∃(r:Int),Q r/\r'=.i r/\o'=[]):=by
 unfold wN at h;refine fng xT {nd:=[10]} false [] (Z4 a b) [] [.tmp 4] func54 results54 ntmps54 ?_;refine cgq call93 (zQ _ _ h) ?_ (λ_=>by rintro⟨_|_,_⟩<;>rfl);rintro⟨_|y4,e3⟩ h
 ·exact⟨rfl,[],λ_ _ _=>⟨(e3),h,rfl,by kernel_rfl⟩⟩
 ·exact⟨rfl,[],λ_ _ _=>⟨(e3),h,rfl,by kernel_rfl⟩⟩

theorem rK(d:Int)(c:Int)(a:Int){r:Bool}(h:lI d c a=some r):Fn Tryz.prog 95 [.i d,.i c,.i a] (.b r):=by
 unfold lI at h;refine fnx xT {} [.tmp 6] func95 results95 ntmps95 ?_;refine jg h (λx h=>?_) λb1 h=>?_
 ·refine br h (λh=>?_) λh=>?_
  ·exact jt h
  ·exact jt h
 ·cases h;exact⟨rfl,rfl,rfl⟩

theorem aKn(a:Int)(c:bU){r:Bool}(h:sV a c=some r):Fn Tryz.prog 94 [.i a,.cp (pL c)] (.b r):=by
 unfold sV at h;refine fnx xT {} [.tmp 3] func94 results94 ntmps94 ?_;refine jg h (λx h=>?_) λb1 h=>?_
 ·refine br h (λh=>?_) λh=>?_
  ·exact jt h
  ·exact jt h
 ·refine jg h (λx h=>?_) λb3 h=>?_
  ·refine br h (λh=>?_) λh=>?_
   ·exact jt h
   ·exact jt h
  ·refine jg h (λx h=>?_) λb5 h=>?_
   ·refine br h (λh=>?_) λh=>?_
    ·exact jt h
    ·exact jt h
   ·cases h;exact⟨rfl,rfl,rfl⟩

theorem aHb(a:bU){r:Int}(h:tZ a=some r):Fn Tryz.prog 55 [.agg (pL a)] (.i r):=by
 unfold tZ at h;refine fnx xT {} [.tmp 2] func55 results55 ntmps55 ?_;refine cl call95 (λ_=>rK _ _ _) h λr2 h=>?_;refine jg h (λx h=>?_) λb4 h=>?_
 ·refine br h (λh=>?_) λh=>?_
  ·refine cl call95 (λ_=>rK _ _ _) h λr6 h=>?_;exact jt h
  ·exact jt h
 ·refine jg h (λx h=>?_) λb8 h=>?_
  ·refine br h (λh=>?_) λh=>?_
   ·refine cl call94 (λ_=>aKn _ _) h λb h=>?_;exact jt h
   ·exact jt h
  ·refine jg h (λx h=>?_) λc h=>?_
   ·refine br h (λh=>?_) λh=>?_
    ·refine cl call94 (λ_=>aKn _ _) h λd h=>?_;exact jt h
    ·exact jt h
   ·refine jg h (λx h=>?_) λe h=>?_
    ·refine br h (λh=>?_) λh=>?_
     ·refine cl call95 (λ_=>rK _ _ _) h λf h=>?_;exact jt h
     ·exact jt h
    ·refine jg h (λx h=>?_) λg h=>?_
     ·refine br h (λh=>?_) λh=>?_
      ·refine cl call95 (λ_=>rK _ _ _) h λj h=>?_;exact jt h
      ·exact jt h
     ·refine jg h (λx h=>?_) λk h=>?_
      ·refine br h (λh=>?_) λh=>?_
       ·refine cl call95 (λ_=>rK _ _ _) h λl h=>?_;exact jt h
       ·exact jt h
      ·refine jg h (λx h=>?_) λm h=>?_
       ·refine br h (λh=>?_) λh=>?_
        ·refine cl call95 (λ_=>rK _ _ _) h λn h=>?_;exact jt h
        ·exact jt h
       ·refine br h (λh=>?_) λh=>?_
        ·cases h;exact⟨rfl,rfl,rfl⟩
        ·cases h;exact⟨rfl,rfl,rfl⟩

theorem aJs(a0:aD)(a1:List aA){r:Int}(h:pU a0 a1=some r):Fn Tryz.prog 54 (Z4 a0 a1) ((λx:Int=>.i x) r):=aNv (enc:=λx:Int=>.i x) (aXt a0 a1 (aUk a0 a1 h (λx=>x=r) rfl))

theorem aZt(a:cT){r:Int}(h:wV a=some r):Fn Tryz.prog 32 [.agg (fI a)] (.i r):=by
 unfold wV at h;refine fnx xT {} [.tmp 2] func32 results32 ntmps32 ?_;refine cd call52 (λ_=>bLl _ _ _) h λr2 h=>?_;refine cl call53 (λ_=>bEu _ _) h λr4 h=>?_;refine br h (λh=>?_) λh=>?_
 ·refine br h (λh=>?_) λh=>?_
  ·cases h;exact⟨rfl,rfl,rfl⟩
  ·refine cl call56 (λ_=>aJd _) h λr6 h=>?_;refine br h (λh=>?_) λh=>?_
   ·refine br h (λh=>?_) λh=>?_
    ·cases h;exact⟨rfl,rfl,rfl⟩
    ·cases h;exact⟨rfl,rfl,rfl⟩
   ·refine jg h (λx h=>?_) λb8 h=>?_
    ·refine br h (λh=>?_) λh=>?_
     ·exact jt h
     ·exact jt h
    ·refine br h (λh=>?_) λh=>?_
     ·cases h;exact⟨rfl,rfl,rfl⟩
     ·cases h;exact⟨rfl,rfl,rfl⟩
 ·refine cl call54 (λ_=>aJs _ _) h λb h=>?_;refine br h (λh=>?_) λh=>?_
  ·refine br h (λh=>?_) λh=>?_
   ·cases h;exact⟨rfl,rfl,rfl⟩
   ·refine cl call56 (λ_=>aJd _) h λc h=>?_;refine br h (λh=>?_) λh=>?_
    ·refine br h (λh=>?_) λh=>?_
     ·cases h;exact⟨rfl,rfl,rfl⟩
     ·cases h;exact⟨rfl,rfl,rfl⟩
    ·refine jg h (λx h=>?_) λd h=>?_
     ·refine br h (λh=>?_) λh=>?_
      ·exact jt h
      ·exact jt h
     ·refine br h (λh=>?_) λh=>?_
      ·cases h;exact⟨rfl,rfl,rfl⟩
      ·cases h;exact⟨rfl,rfl,rfl⟩
  ·refine cl call55 (λ_=>aHb _) h λe h=>?_;refine br h (λh=>?_) λh=>?_
   ·cases h;exact⟨rfl,rfl,rfl⟩
   ·refine cl call56 (λ_=>aJd _) h λf h=>?_;refine br h (λh=>?_) λh=>?_
    ·refine br h (λh=>?_) λh=>?_
     ·cases h;exact⟨rfl,rfl,rfl⟩
     ·cases h;exact⟨rfl,rfl,rfl⟩
    ·refine jg h (λx h=>?_) λg h=>?_
     ·refine br h (λh=>?_) λh=>?_
      ·exact jt h
      ·exact jt h
     ·refine br h (λh=>?_) λh=>?_
      ·cases h;exact⟨rfl,rfl,rfl⟩
      ·cases h;exact⟨rfl,rfl,rfl⟩

theorem aXu(g:aD)(s:List aA){Q:((List aE)×Int)->Prop}(h:wO g s Q):bC Tryz.prog 235 (Z4 g s) [] (λr' o'=>∃(r:(List aE)×Int),Q r/\r'=.tup [.d (.sl 4 (r.1.map bM)),.i r.2]/\o'=[]):=by
 unfold wO at h;refine iW func235 rfl (rs:=[.tmp 4,.tmp 5]) results235 ntmps235 (Nat.le_of_ble_eq_true rfl) ?_;refine aZ (aO ?_);refine bJ rfl (qY (v:=.agg (bB g)) (aC rfl) rfl rfl rfl) ?_;rintro _ ⟨b1,rfl⟩;refine to (aKm 4 (aC rfl)) ?_;refine au 4 ?_;refine to (sla 0 (bB g) rfl rfl aQr) (tm (.d (Z26 s)) ?_);refine bJ rfl (aIj (aC rfl) (.func _ _ call93) rfl rfl (zQ _ _ h)) ?_;rintro _ ⟨_,_,⟨r2,h,rfl,rfl⟩,rfl⟩;refine au 3 ?_;refine bJ rfl (dE (zs:=Z9) (aC rfl) zeroValue187 rfl rfl) ?_;rintro _ ⟨b3,rfl⟩;refine bYi (enc:=bY) 17 rfl λw4=>?_;refine to (sst 1 rfl rfl sizeOf187 [.lit w4]) (au 8 ?_);refine tip h (λc5 h=>?_) (λc5 h=>?_)
 ·refine au 3 ?_;refine to (aKm 4 (aC rfl)) ?_;refine au 2 ?_;exact cW ⟨rfl,_,[],[.box b1 0 (bB g),.box b3 0 [.lit w4],yB bY r2.1 w4],_,.two (.tmp 4 (v:=.d (.sl 4 ((([]:List aE)).map bM))) rfl) (.tmp 5 (v:=.i r2.2) rfl),.refl _,.same _,(([]:List aE),r2.2),h,rfl,rfl⟩
 ·refine au 3 ?_;refine bJ rfl (dE (zs:=Z32) (aC rfl) zeroValue112 rfl rfl) ?_;rintro _ ⟨b6,rfl⟩;refine fY (pD 97 4) ?_;refine au 4 ?_;refine to (bEl (enc:=bY) (i:=1) (i2:=2) (aC rfl) rfl rfl rfl rfl bNd) ?_;obtain⟨x7,h8,h⟩:=mQ h;refine fY (bMl (enc:=bY) (k:=22) rfl h8) ?_;refine to (bUr (aC rfl) rfl rfl) ?_;refine aP (zL ?_);obtain⟨s9,x,h⟩:=mQ h;refine rL ?_ bIk;refine aWy (cl:=false) (S:=(List aE)×Value) (S0:=(List aE)) (f:=163) (ps:=[24,25]) (λj=>j.1) (λj=>[.box b1 0 (bB g),.box b3 0 [.lit w4],yB bY r2.1 w4,.box b6 0 [.lit j.2],.arr j.2 97 4 (j.1.map bM)]) (bRh (λe:aB=>.agg (aH e)) (λm:aE=>.agg (bM m)) _) (([]:List aE),(.slice none 0 0)) ([]:List aE) s9 (aQ [0,1,2,3,4] rfl rfl (le_refl _)) rfl call163 rfl (by decide) rfl rfl (λl J hy m0 h0=>aAe (S:=(List aE)) J l _ (λ_ _ _ _ _ hJ hq=>hy _ _ _ _ hJ ⟨_,_,rfl,hq⟩) x7 _ m0 h0 x) ?_ ?_
  ·rintro⟨q,n⟩ _ _ ⟨e,m,rfl,h⟩;refine⟨rfl,?_⟩;refine aZ (aO ?_);refine bJ rfl (dE (zs:=[.j 0,.j 0]) (aC rfl) zeroValue241 rfl rfl) ?_;rintro _ ⟨F,rfl⟩;refine to (sst 5 rfl rfl sizeOf241 (aH e)) (aP (aO ?_));refine bJ rfl (dE (zs:=[.j 0,.j 0,.j 0,.j 0]) (aC rfl) zeroValue97 rfl rfl) ?_;rintro _ ⟨G,rfl⟩;refine to (sst 6 rfl rfl sizeOf97 (bM m)) (au 3 ?_);obtain⟨c,t,h⟩:=bns h;refine kA (bSj (enc:=bY) (i:=2) rfl t) ?_;refine kX mix 10 [8,10] [(34,.b (cI e c.won))] ?_ ?_
   ·refine⟨[(27,0,.cp [.j c.Tree.Rounds,.sl 1 (c.Tree.Slots.map aI),.sl 1 (c.players.map aI),.mp false (c.won.map λp:aB×Int=>((λa:aB=>Value.agg ((aH a).map bA).toArray) p.1,aI p.2))]),(28,1,.cp [.j c.Tree.Rounds,.sl 1 (c.Tree.Slots.map aI),.sl 1 (c.players.map aI),.mp false (c.won.map λp:aB×Int=>((λa:aB=>Value.agg ((aH a).map bA).toArray) p.1,aI p.2))]),(29,2,.cp [.mp false (c.won.map λp:aB×Int=>((λa:aB=>Value.agg ((aH a).map bA).toArray) p.1,aI p.2))]),(30,3,.d (.mp false (c.won.map λp:aB×Int=>((λa:aB=>Value.agg ((aH a).map bA).toArray) p.1,aI p.2)))),(31,4,.agg (aH e)),(32,5,.tup [.i (cE e 0 c.won),.b (cI e c.won)]),(26,6,.tup [.i (cE e 0 c.won),.b (cI e c.won)]),(33,7,.i (cE e 0 c.won)),(34,8,.b (cI e c.won)),(11,9,.i (cE e 0 c.won))],?_,?_⟩
    · exact dk [0,1,2,3,0,405,6,7,7,8] ⟨go λS hS=>bUo (enc:=bY) (i:=1) (i2:=2) (aC rfl) (bI hS rfl) rfl rfl rfl bNd,
 go λS hS=>aIb (aC rfl) (bI hS rfl),
 go (zfc [.mp false (c.won.map λp:aB×Int=>((λa:aB=>Value.agg ((aH a).map bA).toArray) p.1,aI p.2))] rfl aRr),
 go (zlc rfl bCb),
 go (zla 5 (aH e) rfl rfl xE),
 go λS hS=>aHa (enc:=aI) (agg:=false) (l:=c.won) (z:=0) (a:=e) (aC rfl) aEn underlying245 zeroValue3 (λ_ _=>.d (.lit _ rfl)) (bI hS rfl) rfl rfl (bI hS rfl) (mO (enc:=aH) e rfl),
 go (zm (.tup [.i (cE e 0 c.won),.b (cI e c.won)])),
 go (zex rfl rfl),
 go (zex rfl rfl),
 go (za (.i (cE e 0 c.won))),trivial⟩
    · exact iG (aL rfl (aY (ae rfl)))
   ·refine au 2 ?_;refine kA (bVw (enc:=bY) (i:=2) rfl t) ?_;refine au 5 ?_;obtain⟨y,o,h⟩:=bns h;refine pB 7 [8,10] 44 y ?_ ?_
    ·refine bch o (λu o=>?_) (λu o=>?_)
     ·refine au 4 ?_;refine tk u (bZu (aC rfl) rfl rfl) ?_;refine au 2 ?_;obtain rfl:=sIn o;refine aP (eU rfl (ae rfl) rfl)
     ·refine au 7 ?_;obtain rfl:=sIn o;refine aP (eU rfl (ae rfl) rfl)
    ·refine aP ?_;refine tih h (λA h=>?_) (λA h=>?_)
     ·refine au 2 ?_;refine to (sla 6 (bM m) rfl rfl bGd) (to (nK (aC rfl) aMk rfl rfl (rows:=([m]).map bM) rfl (fH (f:=bM) λ_=>rfl) rfl (by decide)) ?_);obtain⟨B,C,h⟩:=bns h;refine bJ rfl (kI (i:=4) (aC rfl) aMk rfl rfl rfl (λ_=>rfl) C rfl) ?_;rintro _ ⟨w,rfl⟩;refine to (sst 3 rfl rfl sizeOf112 [.lit w]) ?_;refine lG ?_;obtain rfl:=sIn h;exact⟨(B,w),rfl,aQ [0,1,2,3,4] rfl rfl aRw⟩
     ·refine mC ?_;obtain rfl:=sIn h;exact⟨(q,n),rfl,aQ [0,1,2,3,4] rfl rfl aRw⟩
  ·rintro⟨q,n⟩ E;subst E;refine au 6 ?_;exact cW ⟨rfl,_,[],[.box b1 0 (bB g),.box b3 0 [.lit w4],yB bY r2.1 w4,.box b6 0 [.lit n],.arr n 97 4 (q.map bM)],_,.two (.tmp 4 (v:=.d (.lit n)) rfl) (.tmp 5 (v:=.i 0) rfl),.refl _,yH (.cons (.d (yO 4 rfl (fH (f:=bM) λ_=>rfl))) (.cons (.same _) .nil)),(q,0),h,rfl,rfl⟩

theorem aGm(e:List aE)(f:aE->Option Bool){r:Int}(a:Nat)(c:List AV)(j:∀args w,(callFunc a args).run Tryz.prog w=.ok (.enter a args) w)(l:∀(x0:aE) r,f x0=some r->Fn Tryz.prog a ([.agg (bM x0)]++c) (.b r))(h:mU e f=some r):Fn Tryz.prog 236 [.d (.sl 4 (e.map bM)),.fn a c] (.i r):=by
 unfold mU at h;refine oT [.tmp 4] func236 results236 ntmps236 ?_;refine au 12 ?_;refine eV (S:=Int) [0,1,7] (λs1=>[(8,.i s1)]) (λs1=>[]) (λk s1=>eN e f (e.length:Int) k s1) (λ_=>rfl) (0) h (aQ [] rfl rfl (aL rfl (aY (ae rfl)))) ?_;rintro k2 g h;simp only[eN] at h;refine au 5 ?_;refine tih h (λc3 h=>?_) (λc3 h=>?_)
 ·refine au 10 ?_;refine tm (.fn a c) (au 2 ?_);obtain⟨x4,h5,h⟩:=bns h;refine to (six rfl rfl aMk.of (dM bM h5)) (to (aHd (bM x4) rfl bGd) ?_);obtain⟨r6,h7,h⟩:=bns h;refine to (qS (aC rfl) (.clo _ _ _ _ j rfl) (aEl rfl) rfl (BVs.refl _ _) (l _ _ h7) rfl) ?_;refine aP ?_;refine tih h (λc8 h=>?_) (λc8 h=>?_)
  ·refine au 5 ?_;obtain rfl:=sIn h;exact rt
  ·refine mC ?_;refine au 4 ?_;exact⟨(w64 (g+1)),h,aQ [] rfl rfl (aL rfl (aY (ae rfl)))⟩
 ·refine dS ?_;refine .inl ⟨rfl,?_⟩;simp only[oY] at h;refine au 4 ?_;obtain rfl:=sIn h;exact rt

theorem aLi(a:aE)(c:Int)(d:Int){r:Bool}(h:nI a c d=some r):Fn Tryz.prog 237 [.agg (bM a),.cp [.j c],.cp [.j d]] (.b r):=by
 unfold nI at h;refine fnx xT {} [.tmp 4] func237 results237 ntmps237 ?_;refine jg h (λx h=>?_) λb2 h=>?_
 ·refine br h (λh=>?_) λh=>?_
  ·exact jt h
  ·exact jt h
 ·cases h;exact⟨rfl,rfl,rfl⟩

theorem aXv(a0:aD)(a1:List aA){r:(List aE)×Int}(h:xY a0 a1=some r):Fn Tryz.prog 235 (Z4 a0 a1) ((λx:(List aE)×Int=>.tup [.d (.sl 4 (x.1.map bM)),.i x.2]) r):=aNv (enc:=λx:(List aE)×Int=>.tup [.d (.sl 4 (x.1.map bM)),.i x.2]) (aXu a0 a1 (aUl a0 a1 h (λx=>x=r) rfl))

theorem aOz(a:aK)(c:Int)(d:Int){r:aE×Bool}{d_0_Register_Days_v:Value}(h:pR a c d=some r):Fn Tryz.prog 195 [.cp [.j a.Desk.Field.Places,.j a.Desk.Field.Wilds,.j a.Desk.Field.Guards,.j a.Desk.Field.Close,.j a.Desk.Field.Freeze,.j a.Desk.Tree.Rounds,.sl 1 (Z21 a),.j a.Desk.Format.Sets,.j a.Desk.Format.Games,.k a.Desk.Format.NoAd,.j a.Desk.Format.Tie,.j a.Desk.Format.To,.j a.Desk.Format.LastTie,.j a.Desk.Format.LastTo,.j a.Desk.Format.First,.j a.Desk.Format.Then,.k a.Desk.Format.Doubles,.sl 1 (a.Desk.Days.map dD),.j a.Desk.Rest,.sl 3 (Z28 a),.j a.Register.Hour,.sl 5 (Z20 a),.sl 5 (Z23 a),.j a.Register.Round,.j a.Register.Place,.j a.Register.First,.sl 1 (Z22 a),.lit d_0_Register_Days_v,.j a.bout.Round,.j a.bout.Place,.j a.bout.One,.j a.bout.Two],.i c,.i d] (.tup [.agg (bM r.1),.b r.2]):=by
 unfold pR at h;refine fnx xT {} [.cell 6 97,.tmp 7] func195 results195 ntmps195 ?_;refine⟨by kernel_rfl,?_⟩;refine cd call235 (λ_=>aXv _ _) h λr4 h=>?_;refine⟨by kernel_rfl,?_⟩;refine cl call236 (λ_=>aGm _ _ 237 [.cp [.j c],.cp [.j d]] call237 (λ_ _ h=>aLi _ _ _ h)) h λr7 h=>?_;refine br h (λh=>?_) λh=>?_
 ·cases h;exact⟨rfl,_,_,rfl,rfl,rfl,rfl,rfl⟩
 ·refine oi h λx9 h=>?_;cases h;exact⟨rfl,_,_,rfl,rfl,rfl,rfl,rfl⟩

theorem aAm(a:aK){r:Bool}{d_0_Register_Days_v:Value}(h:kQ a=some r):Fn Tryz.prog 181 [.cp [.j a.Desk.Field.Places,.j a.Desk.Field.Wilds,.j a.Desk.Field.Guards,.j a.Desk.Field.Close,.j a.Desk.Field.Freeze,.j a.Desk.Tree.Rounds,.sl 1 (Z21 a),.j a.Desk.Format.Sets,.j a.Desk.Format.Games,.k a.Desk.Format.NoAd,.j a.Desk.Format.Tie,.j a.Desk.Format.To,.j a.Desk.Format.LastTie,.j a.Desk.Format.LastTo,.j a.Desk.Format.First,.j a.Desk.Format.Then,.k a.Desk.Format.Doubles,.sl 1 (a.Desk.Days.map dD),.j a.Desk.Rest,.sl 3 (Z28 a),.j a.Register.Hour,.sl 5 (Z20 a),.sl 5 (Z23 a),.j a.Register.Round,.j a.Register.Place,.j a.Register.First,.sl 1 (Z22 a),.lit d_0_Register_Days_v,.j a.bout.Round,.j a.bout.Place,.j a.bout.One,.j a.bout.Two]] (.b r):=by
 unfold kQ at h;refine fnx xT {} [.tmp 2] func181 results181 ntmps181 ?_;cases h;exact⟨rfl,rfl,rfl⟩

theorem aQm(a:aK)(b:Int)(c:Int)(e:Int){r:Str×aK}{d_0_b d_0_o:Nat}{d_0_Register_Notices_v:Value}{d_0_Register_Slips_v:Value}{d_0_Register_Days_v:Value}(h:jS a b c e=some r):bC Tryz.prog 133 [.bp d_0_b d_0_o 0,.i b,.i c,.i e] (Z0 d_0_b d_0_o a d_0_Register_Notices_v d_0_Register_Slips_v d_0_Register_Days_v) (λr' o'=>∃(f:Value) (g:Value),r'=.d (.lit (.string ⟨r.1.toArray⟩))/\o'=[.box d_0_b d_0_o [.j r.2.Desk.Field.Places,.j r.2.Desk.Field.Wilds,.j r.2.Desk.Field.Guards,.j r.2.Desk.Field.Close,.j r.2.Desk.Field.Freeze,.j r.2.Desk.Tree.Rounds,.sl 1 (r.2.Desk.Tree.Slots.map aI),.j r.2.Desk.Format.Sets,.j r.2.Desk.Format.Games,.k r.2.Desk.Format.NoAd,.j r.2.Desk.Format.Tie,.j r.2.Desk.Format.To,.j r.2.Desk.Format.LastTie,.j r.2.Desk.Format.LastTo,.j r.2.Desk.Format.First,.j r.2.Desk.Format.Then,.k r.2.Desk.Format.Doubles,.sl 1 (r.2.Desk.Days.map dD),.j r.2.Desk.Rest,.sl 3 (r.2.Desk.Stages.map cU),.j r.2.Register.Hour,.lit f,.lit g,.j r.2.Register.Round,.j r.2.Register.Place,.j r.2.Register.First,.sl 1 (r.2.Register.Points.map aI),.lit d_0_Register_Days_v,.j r.2.bout.Round,.j r.2.bout.Place,.j r.2.bout.One,.j r.2.bout.Two],.arr f 101 5 (r.2.Register.Notices.map dW),.arr g 103 5 (r.2.Register.Slips.map aG)]):=by
 unfold jS at h;refine fng xT {} false [(d_0_b,d_0_o,undef),(0,0,d_0_Register_Notices_v),(0,0,d_0_Register_Slips_v)] [.bp 100000 0 0,.i b,.i c,.i e] [(100000,.box [.j a.Desk.Field.Places,.j a.Desk.Field.Wilds,.j a.Desk.Field.Guards,.j a.Desk.Field.Close,.j a.Desk.Field.Freeze,.j a.Desk.Tree.Rounds,.sl 1 (Z21 a),.j a.Desk.Format.Sets,.j a.Desk.Format.Games,.k a.Desk.Format.NoAd,.j a.Desk.Format.Tie,.j a.Desk.Format.To,.j a.Desk.Format.LastTie,.j a.Desk.Format.LastTo,.j a.Desk.Format.First,.j a.Desk.Format.Then,.k a.Desk.Format.Doubles,.sl 1 (a.Desk.Days.map dD),.j a.Desk.Rest,.sl 3 (Z28 a),.j a.Register.Hour,.hv 0 100001 0,.hv 0 100002 0,.j a.Register.Round,.j a.Register.Place,.j a.Register.First,.sl 1 (Z22 a),.lit d_0_Register_Days_v,.j a.bout.Round,.j a.bout.Place,.j a.bout.One,.j a.bout.Two]),(100001,.arr 101 5 (Z20 a)),(100002,.arr 103 5 (Z23 a))] [.tmp 8] func133 results133 ntmps133 ?_;refine cl call195 (λ_=>aOz _ _ _) h λr1 h=>?_;refine cl call181 (λ_=>aAm _) h λr4 h=>?_;refine jg h (λx h=>?_) λb6 h=>?_
 ·refine br h (λh=>?_) λh=>?_
  ·exact jt h
  ·exact jt h
 ·refine jg h (λx h=>?_) λb8 h=>?_
  ·refine br h (λh=>?_) λh=>?_
   ·exact jt h
   ·exact jt h
  ·refine br h (λh=>?_) λh=>?_
   ·cases h;exact⟨rfl,[100000,100001,100002],λ_ _ _=>⟨d_0_Register_Notices_v,d_0_Register_Slips_v,rfl,by kernel_rfl⟩⟩
   ·refine⟨by kernel_rfl,?_⟩;refine⟨by kernel_rfl,?_⟩;cases h;exact⟨rfl,[100000,100001,100002],λ_ _ _=>⟨d_0_Register_Notices_v,d_0_Register_Slips_v,rfl,by kernel_rfl⟩⟩

theorem aHo(b:iB)(a:aJ){r:vS}(h:nM b a=some r):Fn Tryz.prog 300 [.agg (wR b),.agg (cH a)] (.agg (aLb r)):=by
 unfold nM at h;refine fnx xT {} [.cell 4 385] func300 results300 ntmps300 ?_;refine jg h (λx h=>?_) λb4 h=>?_
 ·refine br h (λh=>?_) λh=>?_
  ·exact jt h
  ·exact jt h
 ·refine br h (λh=>?_) λh=>?_
  ·cases h;exact⟨rfl,rfl,rfl⟩
  ·cases h;exact⟨rfl,rfl,rfl⟩

theorem aTd(c:vS)(a:aJ){r:Bool}(h:rU c a=some r):Fn Tryz.prog 327 [.agg (aLb c),.agg (cH a)] (.b r):=by
 unfold rU at h;refine fnx xT {} [.tmp 4] func327 results327 ntmps327 ?_;refine jg h (λx h=>?_) λb3 h=>?_
 ·refine br h (λh=>?_) λh=>?_
  ·exact jt h
  ·exact jt h
 ·cases h;exact⟨rfl,rfl,rfl⟩

theorem wI(a:aN){r:Int}(h:gI a=some r):Fn Tryz.prog 301 [.cp (aAu a)] (.i r):=by
 unfold gI at h;refine fnx xT {} [.tmp 2] func301 results301 ntmps301 ?_;refine ol ?_;cases h;exact⟨rfl,rfl,rfl⟩

theorem aHn(c:iB)(a:Int){r:Bool}(h:qB c a=some r):Fn Tryz.prog 328 [.agg (wR c),.i a] (.b r):=by
 unfold qB at h;refine fnx xT {} [.tmp 4] func328 results328 ntmps328 ?_;refine jg h (λx h=>?_) λb2 h=>?_
 ·refine br h (λh=>?_) λh=>?_
  ·refine jg h (λx h=>?_) λb4 h=>?_
   ·refine br h (λh=>?_) λh=>?_
    ·exact jt h
    ·refine jg h (λx h=>?_) λb6 h=>?_
     ·refine br h (λh=>?_) λh=>?_
      ·exact jt h
      ·exact jt h
     ·refine jg h (λx h=>?_) λb8 h=>?_
      ·refine br h (λh=>?_) λh=>?_
       ·refine onz h λh=>?_;exact jt h
       ·exact jt h
      ·exact jt h
   ·exact jt h
  ·exact jt h
 ·cases h;exact⟨rfl,rfl,rfl⟩

theorem aEg(a:aN){r:Bool}(h:nT a=some r):Fn Tryz.prog 306 [.cp (aAu a)] (.b r):=by
 unfold nT at h;refine fnx xT {} [.tmp 2] func306 results306 ntmps306 ?_;refine cl call301 (λ_=>wI _) h λr1 h=>?_;refine oi h λx3 h=>?_;refine jg h (λx h=>?_) λb5 h=>?_
 ·refine br h (λh=>?_) λh=>?_
  ·refine cl call328 (λ_=>aHn _ _) h λr7 h=>?_;exact jt h
  ·exact jt h
 ·refine jg h (λx h=>?_) λb9 h=>?_
  ·refine br h (λh=>?_) λh=>?_
   ·exact jt h
   ·refine jg h (λx h=>?_) λc h=>?_
    ·refine br h (λh=>?_) λh=>?_
     ·refine oi h λd h=>?_;exact jt h
     ·exact jt h
    ·refine jg h (λx h=>?_) λe h=>?_
     ·refine br h (λh=>?_) λh=>?_
      ·refine cl call328 (λ_=>aHn _ _) h λf h=>?_;exact jt h
      ·exact jt h
     ·exact jt h
  ·cases h;exact⟨rfl,rfl,rfl⟩

theorem nL(b:aN)(a:Int){r:Int}(h:gJ b a=some r):Fn Tryz.prog 305 [.cp (aAu b),.i a] (.i r):=by
 unfold gJ at h;refine fnx xT {} [.tmp 4] func305 results305 ntmps305 ?_;refine cl call301 (λ_=>wI _) h λr1 h=>?_;refine oi h λx3 h=>?_;refine br h (λh=>?_) λh=>?_
 ·refine⟨by decide,?_⟩;refine⟨by decide,?_⟩;refine br h (λh=>?_) λh=>?_
  ·cases h;exact⟨rfl,rfl,rfl⟩
  ·refine⟨by decide,?_⟩;refine⟨by decide,?_⟩;refine⟨by decide,?_⟩;refine⟨by decide,?_⟩;cases h;exact⟨rfl,rfl,rfl⟩
 ·refine⟨by decide,?_⟩;refine br h (λh=>?_) λh=>?_
  ·cases h;exact⟨rfl,rfl,rfl⟩
  ·refine⟨by decide,?_⟩;refine⟨by decide,?_⟩;refine⟨by decide,?_⟩;refine⟨by decide,?_⟩;cases h;exact⟨rfl,rfl,rfl⟩

theorem kJ(a:aN){r:aN}{m_0_b m_0_o:Nat}{m_0_Score_Board_Sets_v:Value}{m_0_ties_v:Value}{m_0_games_v:Value}(h:dN a=some r):bC Tryz.prog 299 [.bp m_0_b m_0_o 0] [.box m_0_b m_0_o [.j a.rules.Format.Sets,.j a.rules.Format.Games,.k a.rules.Format.NoAd,.j a.rules.Format.Tie,.j a.rules.Format.To,.j a.rules.Format.LastTie,.j a.rules.Format.LastTo,.j a.rules.Format.First,.j a.rules.Format.Then,.k a.rules.Format.Doubles,.lit m_0_Score_Board_Sets_v,.j a.Score.Board.Games.A,.j a.Score.Board.Games.B,.j a.Score.Board.Points.A,.j a.Score.Board.Points.B,.j a.Score.Server,.j a.Score.Ends,.j a.Score.Balls,.j a.Score.Winner,.j a.first,.j a.won.A,.j a.won.B,.lit m_0_ties_v,.lit m_0_games_v],.arr m_0_Score_Board_Sets_v 124 2 (Z15 a),.arr m_0_ties_v 4 1 (a.ties.map uW),.arr m_0_games_v 390 7 (a.games.map fQ)] (λr' o'=>∃(b:Value) (w4:Value) (w5:Value),r'=.tup []/\o'=[.box m_0_b m_0_o [.j r.rules.Format.Sets,.j r.rules.Format.Games,.k r.rules.Format.NoAd,.j r.rules.Format.Tie,.j r.rules.Format.To,.j r.rules.Format.LastTie,.j r.rules.Format.LastTo,.j r.rules.Format.First,.j r.rules.Format.Then,.k r.rules.Format.Doubles,.lit b,.j r.Score.Board.Games.A,.j r.Score.Board.Games.B,.j r.Score.Board.Points.A,.j r.Score.Board.Points.B,.j r.Score.Server,.j r.Score.Ends,.j r.Score.Balls,.j r.Score.Winner,.j r.first,.j r.won.A,.j r.won.B,.lit w4,.lit w5],.arr b 124 2 (Z15 r),.arr w4 4 1 (r.ties.map uW),.arr w5 390 7 (r.games.map fQ)]):=by
 unfold dN at h;refine fng xT {} true [(m_0_b,m_0_o,undef),(0,0,m_0_Score_Board_Sets_v),(0,0,m_0_ties_v),(0,0,m_0_games_v)] [.bp 100000 0 0] [(100000,.box [.j a.rules.Format.Sets,.j a.rules.Format.Games,.k a.rules.Format.NoAd,.j a.rules.Format.Tie,.j a.rules.Format.To,.j a.rules.Format.LastTie,.j a.rules.Format.LastTo,.j a.rules.Format.First,.j a.rules.Format.Then,.k a.rules.Format.Doubles,.hv 0 100001 0,.j a.Score.Board.Games.A,.j a.Score.Board.Games.B,.j a.Score.Board.Points.A,.j a.Score.Board.Points.B,.j a.Score.Server,.j a.Score.Ends,.j a.Score.Balls,.j a.Score.Winner,.j a.first,.j a.won.A,.j a.won.B,.hv 0 100002 0,.hv 0 100003 0]),(100001,.arr 124 2 (Z15 a)),(100002,.arr 4 1 (a.ties.map uW)),(100003,.arr 390 7 (a.games.map fQ))] [] func299 results299 ntmps299 ?_;refine br h (λh=>?_) λh=>?_
 ·cases h;exact⟨.inl rfl,[100000,100001,100002,100003],λ_ _ _=>⟨m_0_Score_Board_Sets_v,m_0_ties_v,m_0_games_v,rfl,by kernel_rfl⟩⟩
 ·refine⟨by kernel_rfl,?_⟩;refine cl call300 (λ_=>aHo _ _) h λr1 h=>?_;refine cl call327 (λ_=>aTd _ _) h λr3 h=>?_;refine oap h λx5 h=>?_;refine⟨by kernel_rfl,?_⟩;refine cl call306 (λ_=>aEg _) h λr8 h=>?_;refine br h (λh=>?_) λh=>?_
  ·refine cl call305 (λ_=>nL _ _) h λc h=>?_;cases h;exact⟨.inr rfl,[100000,100001,34,100003],λ_ _ s=>⟨m_0_Score_Board_Sets_v,s 34,m_0_games_v,rfl,by kernel_rfl⟩⟩
  ·refine cl call305 (λ_=>nL _ _) h λd h=>?_;cases h;exact⟨.inr rfl,[100000,100001,34,100003],λ_ _ s=>⟨m_0_Score_Board_Sets_v,s 34,m_0_games_v,rfl,by kernel_rfl⟩⟩

theorem bFh(c:iB)(a:Int){r:aN}(h:aAo c a=some r):bC Tryz.prog 264 [.agg (wR c),.i a] [] (λr' o'=>∃(b o:Nat) (w0 w1 w2:Value),r'=.bp b o 0/\o'=[.box b o [.j r.rules.Format.Sets,.j r.rules.Format.Games,.k r.rules.Format.NoAd,.j r.rules.Format.Tie,.j r.rules.Format.To,.j r.rules.Format.LastTie,.j r.rules.Format.LastTo,.j r.rules.Format.First,.j r.rules.Format.Then,.k r.rules.Format.Doubles,.lit w0,.j r.Score.Board.Games.A,.j r.Score.Board.Games.B,.j r.Score.Board.Points.A,.j r.Score.Board.Points.B,.j r.Score.Server,.j r.Score.Ends,.j r.Score.Balls,.j r.Score.Winner,.j r.first,.j r.won.A,.j r.won.B,.lit w1,.lit w2],.arr w0 124 2 (Z15 r),.arr w1 4 1 (r.ties.map uW),.arr w2 390 7 (r.games.map fQ)]):=by
 unfold aAo at h;refine fng xT {ow:=[30008,1100008,2300008,2400008]} false [] [.agg (wR c),.i a] [] [.tmp 4] func264 results264 ntmps264 ?_;refine cg (α:=aN) [(9,_),(11008,_),(23008,_),(24008,_)] [1015,2015,3015] (λr3=>.tup []) (λr3=>[some (.box [.j r3.rules.Format.Sets,.j r3.rules.Format.Games,.k r3.rules.Format.NoAd,.j r3.rules.Format.Tie,.j r3.rules.Format.To,.j r3.rules.Format.LastTie,.j r3.rules.Format.LastTo,.j r3.rules.Format.First,.j r3.rules.Format.Then,.k r3.rules.Format.Doubles,.hv 0 1015 0,.j r3.Score.Board.Games.A,.j r3.Score.Board.Games.B,.j r3.Score.Board.Points.A,.j r3.Score.Board.Points.B,.j r3.Score.Server,.j r3.Score.Ends,.j r3.Score.Balls,.j r3.Score.Winner,.j r3.first,.j r3.won.A,.j r3.won.B,.hv 0 2015 0,.hv 0 3015 0]),none,none,none]) (λr3=>[(1015,.arr 124 2 (r3.Score.Board.Sets.map cH)),(2015,.arr 4 1 (r3.ties.map uW)),(3015,.arr 390 7 (r3.games.map fQ))]) call299 (λ_ h q=>⟨_,kJ (m_0_b:=q.bb 9) (m_0_o:=q.oo 9) (m_0_Score_Board_Sets_v:=q.ss 11008) (m_0_ties_v:=q.ss 23008) (m_0_games_v:=q.ss 24008) (aN.mk c (cP.mk (cX.mk ([]:List aJ) Z19 Z19) 0 0 0 (-1)) a Z19 ([]:List Bool) ([]:List uM)) h,λ_ _ ⟨w0,w1,w2,e1,e2⟩=>⟨_,rfl,[.s w0,.s w1,.s w2],e1,e2.trans (by kernel_rfl)⟩⟩) h λr3 h=>?_;cases h;exact⟨rfl,[9,1015,2015,3015],λb o s=>⟨b 9,o 9,s 1015,s 2015,s 3015,rfl,by kernel_rfl⟩⟩

theorem aLk(b:aJ)(a:Int){r:aJ}(h:vP b a=some r):Fn Tryz.prog 302 [.agg (cH b),.i a] (.agg (cH r)):=by
 unfold vP at h;refine fnx xT {} [.cell 4 124] func302 results302 ntmps302 ?_;refine br h (λh=>?_) λh=>?_
 ·cases h;exact⟨rfl,rfl,rfl⟩
 ·cases h;exact⟨rfl,rfl,rfl⟩

theorem aFu(a:aJ){r:Int}(h:zH a=some r):Fn Tryz.prog 303 [.agg (cH a)] (.i r):=by
 unfold zH at h;refine fnx xT {} [.tmp 2] func303 results303 ntmps303 ?_;cases h;exact⟨rfl,rfl,rfl⟩

theorem aBe(c:aJ)(a:Int)(b:Int){r:Int}(h:mW c a b=some r):Fn Tryz.prog 307 [.agg (cH c),.i a,.i b] (.i r):=by
 unfold mW at h;refine fnx xT {} [.tmp 6] func307 results307 ntmps307 ?_;refine jg h (λx h=>?_) λb2 h=>?_
 ·refine br h (λh=>?_) λh=>?_
  ·exact jt h
  ·exact jt h
 ·refine br h (λh=>?_) λh=>?_
  ·cases h;exact⟨rfl,rfl,rfl⟩
  ·refine jg h (λx h=>?_) λb4 h=>?_
   ·refine br h (λh=>?_) λh=>?_
    ·exact jt h
    ·exact jt h
   ·refine br h (λh=>?_) λh=>?_
    ·cases h;exact⟨rfl,rfl,rfl⟩
    ·cases h;exact⟨rfl,rfl,rfl⟩

theorem aTc(d:iB)(e:vS)(c:Bool)(a:aJ){r:Int}(h:oX d e c a=some r):Fn Tryz.prog 304 [.agg (wR d),.agg (aLb e),.b c,.agg (cH a)] (.i r):=by
 unfold oX at h;refine fnx xT {} [.tmp 8] func304 results304 ntmps304 ?_;refine br h (λh=>?_) λh=>?_
 ·refine cl call307 (λ_=>aBe _ _ _) h λr4 h=>?_;cases h;exact⟨rfl,rfl,rfl⟩
 ·refine br h (λh=>?_) λh=>?_
  ·refine cl call307 (λ_=>aBe _ _ _) h λr6 h=>?_;cases h;exact⟨rfl,rfl,rfl⟩
  ·refine cl call307 (λ_=>aBe _ _ _) h λr8 h=>?_;cases h;exact⟨rfl,rfl,rfl⟩

theorem aQn(a:aN)(j:Int){r:aN}{m_0_b m_0_o:Nat}{m_0_Score_Board_Sets_v:Value}{m_0_ties_v:Value}{m_0_games_v:Value}(h:nU a j=some r):bC Tryz.prog 265 [.bp m_0_b m_0_o 0,.i j] [.box m_0_b m_0_o [.j a.rules.Format.Sets,.j a.rules.Format.Games,.k a.rules.Format.NoAd,.j a.rules.Format.Tie,.j a.rules.Format.To,.j a.rules.Format.LastTie,.j a.rules.Format.LastTo,.j a.rules.Format.First,.j a.rules.Format.Then,.k a.rules.Format.Doubles,.lit m_0_Score_Board_Sets_v,.j a.Score.Board.Games.A,.j a.Score.Board.Games.B,.j a.Score.Board.Points.A,.j a.Score.Board.Points.B,.j a.Score.Server,.j a.Score.Ends,.j a.Score.Balls,.j a.Score.Winner,.j a.first,.j a.won.A,.j a.won.B,.lit m_0_ties_v,.lit m_0_games_v],.arr m_0_Score_Board_Sets_v 124 2 (Z15 a),.arr m_0_ties_v 4 1 (a.ties.map uW),.arr m_0_games_v 390 7 (a.games.map fQ)] (λr' o'=>∃(l:Value) (w4:Value) (w5:Value),r'=.tup []/\o'=[.box m_0_b m_0_o [.j r.rules.Format.Sets,.j r.rules.Format.Games,.k r.rules.Format.NoAd,.j r.rules.Format.Tie,.j r.rules.Format.To,.j r.rules.Format.LastTie,.j r.rules.Format.LastTo,.j r.rules.Format.First,.j r.rules.Format.Then,.k r.rules.Format.Doubles,.lit l,.j r.Score.Board.Games.A,.j r.Score.Board.Games.B,.j r.Score.Board.Points.A,.j r.Score.Board.Points.B,.j r.Score.Server,.j r.Score.Ends,.j r.Score.Balls,.j r.Score.Winner,.j r.first,.j r.won.A,.j r.won.B,.lit w4,.lit w5],.arr l 124 2 (Z15 r),.arr w4 4 1 (r.ties.map uW),.arr w5 390 7 (r.games.map fQ)]):=by
 unfold nU at h;refine fng xT {} true [(m_0_b,m_0_o,undef),(0,0,m_0_Score_Board_Sets_v),(0,0,m_0_ties_v),(0,0,m_0_games_v)] [.bp 100000 0 0,.i j] [(100000,.box [.j a.rules.Format.Sets,.j a.rules.Format.Games,.k a.rules.Format.NoAd,.j a.rules.Format.Tie,.j a.rules.Format.To,.j a.rules.Format.LastTie,.j a.rules.Format.LastTo,.j a.rules.Format.First,.j a.rules.Format.Then,.k a.rules.Format.Doubles,.hv 0 100001 0,.j a.Score.Board.Games.A,.j a.Score.Board.Games.B,.j a.Score.Board.Points.A,.j a.Score.Board.Points.B,.j a.Score.Server,.j a.Score.Ends,.j a.Score.Balls,.j a.Score.Winner,.j a.first,.j a.won.A,.j a.won.B,.hv 0 100002 0,.hv 0 100003 0]),(100001,.arr 124 2 (Z15 a)),(100002,.arr 4 1 (a.ties.map uW)),(100003,.arr 390 7 (a.games.map fQ))] [] func265 results265 ntmps265 ?_;refine⟨by kernel_rfl,?_⟩;refine cl call300 (λ_=>aHo _ _) h λr1 h=>?_;refine cl call301 (λ_=>wI _) h λr3 h=>?_;refine⟨by kernel_rfl,?_⟩;refine oiy h λx6 h7 h=>?_;refine⟨rfl,_,iT uW h7,?_⟩;refine cl call302 (λ_=>aLk _ _) h λr8 h=>?_;refine cl call303 (λ_=>aFu _) h λt h=>?_;refine⟨by kernel_rfl,?_⟩;refine cl call304 (λ_=>aTc _ _ _ _) h λo h=>?_;refine⟨by kernel_rfl,?_⟩;refine br h (λh=>?_) λh=>?_
 ·refine jg h (λx h=>?_) λu h=>?_
  ·refine br h (λh=>?_) λh=>?_
   ·refine⟨by decide,?_⟩;exact jt h
   ·exact jt h
  ·refine br h (λh=>?_) λh=>?_
   ·refine cl call305 (λ_=>nL _ _) h λv h=>?_;cases h;exact⟨.inl rfl,[100000,100001,100002,100003],λ_ _ _=>⟨m_0_Score_Board_Sets_v,m_0_ties_v,m_0_games_v,rfl,by kernel_rfl⟩⟩
   ·refine cl call305 (λ_=>nL _ _) h λw h=>?_;cases h;exact⟨.inl rfl,[100000,100001,100002,100003],λ_ _ _=>⟨m_0_Score_Board_Sets_v,m_0_ties_v,m_0_games_v,rfl,by kernel_rfl⟩⟩
 ·refine⟨by kernel_rfl,?_⟩;refine ol ?_;refine cl call305 (λ_=>nL _ _) h λy h=>?_;refine cl call306 (λ_=>aEg _) h λz h=>?_;refine oap h λk h=>?_;refine⟨by kernel_rfl,?_⟩;refine cl call302 (λ_=>aLk _ _) h λp h=>?_;refine⟨by kernel_rfl,?_⟩;refine jo h (λx h=>?_) λC h=>?_
  ·refine br h (λh=>?_) λh=>?_
   ·exact⟨by kernel_rfl,jt h⟩
   ·refine cl call307 (λ_=>aBe _ _ _) h λE h=>?_;exact⟨by kernel_rfl,jt h⟩
  ·refine⟨by kernel_rfl,?_⟩;refine br h (λh=>?_) λh=>?_
   ·refine⟨by kernel_rfl,?_⟩;refine oap h λm h=>?_;refine⟨by kernel_rfl,?_⟩;refine cl call302 (λ_=>aLk _ _) h λn h=>?_;refine⟨by kernel_rfl,?_⟩;refine bWz ?_;refine⟨by kernel_rfl,?_⟩;refine br h (λh=>?_) λh=>?_
    ·refine cl call303 (λ_=>aFu _) h λF h=>?_;refine⟨by decide,?_⟩;refine jg h (λx h=>?_) λG h=>?_
     ·refine br h (λh=>?_) λh=>?_
      ·exact jt h
      ·exact jt h
     ·refine br h (λh=>?_) λh=>?_
      ·refine cg (α:=aN) [(100000,_),(155,_),(100002,_),(111,_)] [1220,2220,3220] (λb=>.tup []) (λb=>[some (.box [.j b.rules.Format.Sets,.j b.rules.Format.Games,.k b.rules.Format.NoAd,.j b.rules.Format.Tie,.j b.rules.Format.To,.j b.rules.Format.LastTie,.j b.rules.Format.LastTo,.j b.rules.Format.First,.j b.rules.Format.Then,.k b.rules.Format.Doubles,.hv 0 1220 0,.j b.Score.Board.Games.A,.j b.Score.Board.Games.B,.j b.Score.Board.Points.A,.j b.Score.Board.Points.B,.j b.Score.Server,.j b.Score.Ends,.j b.Score.Balls,.j b.Score.Winner,.j b.first,.j b.won.A,.j b.won.B,.hv 0 2220 0,.hv 0 3220 0]),none,none,none]) (λb=>[(1220,.arr 124 2 (b.Score.Board.Sets.map cH)),(2220,.arr 4 1 (b.ties.map uW)),(3220,.arr 390 7 (b.games.map fQ))]) call299 (λ_ h q=>⟨_,kJ (m_0_b:=q.bb 100000) (m_0_o:=q.oo 100000) (m_0_Score_Board_Sets_v:=q.ss 155) (m_0_ties_v:=q.ss 100002) (m_0_games_v:=q.ss 111) (aN.mk a.rules (cP.mk (cX.mk m Z19 Z19) a.Score.Server (w64 (a.Score.Ends+1)) a.Score.Balls o) a.first n a.ties k) h,λ_ _ ⟨w0,w1,w2,e1,e2⟩=>⟨_,rfl,[.s w0,.s w1,.s w2],e1,e2.trans (by kernel_rfl)⟩⟩) h λb h=>?_;cases h;exact⟨.inr rfl,[100000,1220,2220,3220],λ_ _ s=>⟨s 1220,s 2220,s 3220,rfl,by kernel_rfl⟩⟩
      ·refine cg (α:=aN) [(100000,_),(155,_),(100002,_),(111,_)] [1220,2220,3220] (λc=>.tup []) (λc=>[some (.box [.j c.rules.Format.Sets,.j c.rules.Format.Games,.k c.rules.Format.NoAd,.j c.rules.Format.Tie,.j c.rules.Format.To,.j c.rules.Format.LastTie,.j c.rules.Format.LastTo,.j c.rules.Format.First,.j c.rules.Format.Then,.k c.rules.Format.Doubles,.hv 0 1220 0,.j c.Score.Board.Games.A,.j c.Score.Board.Games.B,.j c.Score.Board.Points.A,.j c.Score.Board.Points.B,.j c.Score.Server,.j c.Score.Ends,.j c.Score.Balls,.j c.Score.Winner,.j c.first,.j c.won.A,.j c.won.B,.hv 0 2220 0,.hv 0 3220 0]),none,none,none]) (λc=>[(1220,.arr 124 2 (c.Score.Board.Sets.map cH)),(2220,.arr 4 1 (c.ties.map uW)),(3220,.arr 390 7 (c.games.map fQ))]) call299 (λ_ h q=>⟨_,kJ (m_0_b:=q.bb 100000) (m_0_o:=q.oo 100000) (m_0_Score_Board_Sets_v:=q.ss 155) (m_0_ties_v:=q.ss 100002) (m_0_games_v:=q.ss 111) (aN.mk a.rules (cP.mk (cX.mk m Z19 Z19) a.Score.Server a.Score.Ends a.Score.Balls o) a.first n a.ties k) h,λ_ _ ⟨w0,w1,w2,e1,e2⟩=>⟨_,rfl,[.s w0,.s w1,.s w2],e1,e2.trans (by kernel_rfl)⟩⟩) h λc h=>?_;cases h;exact⟨.inr rfl,[100000,1220,2220,3220],λ_ _ s=>⟨s 1220,s 2220,s 3220,rfl,by kernel_rfl⟩⟩
    ·refine cl call303 (λ_=>aFu _) h λH h=>?_;refine⟨by decide,?_⟩;refine jg h (λx h=>?_) λI h=>?_
     ·refine br h (λh=>?_) λh=>?_
      ·exact jt h
      ·exact jt h
     ·refine br h (λh=>?_) λh=>?_
      ·refine cg (α:=aN) [(100000,_),(155,_),(100002,_),(111,_)] [1220,2220,3220] (λd=>.tup []) (λd=>[some (.box [.j d.rules.Format.Sets,.j d.rules.Format.Games,.k d.rules.Format.NoAd,.j d.rules.Format.Tie,.j d.rules.Format.To,.j d.rules.Format.LastTie,.j d.rules.Format.LastTo,.j d.rules.Format.First,.j d.rules.Format.Then,.k d.rules.Format.Doubles,.hv 0 1220 0,.j d.Score.Board.Games.A,.j d.Score.Board.Games.B,.j d.Score.Board.Points.A,.j d.Score.Board.Points.B,.j d.Score.Server,.j d.Score.Ends,.j d.Score.Balls,.j d.Score.Winner,.j d.first,.j d.won.A,.j d.won.B,.hv 0 2220 0,.hv 0 3220 0]),none,none,none]) (λd=>[(1220,.arr 124 2 (d.Score.Board.Sets.map cH)),(2220,.arr 4 1 (d.ties.map uW)),(3220,.arr 390 7 (d.games.map fQ))]) call299 (λ_ h q=>⟨_,kJ (m_0_b:=q.bb 100000) (m_0_o:=q.oo 100000) (m_0_Score_Board_Sets_v:=q.ss 155) (m_0_ties_v:=q.ss 100002) (m_0_games_v:=q.ss 111) (aN.mk a.rules (cP.mk (cX.mk m Z19 Z19) a.Score.Server (w64 (a.Score.Ends+1)) a.Score.Balls a.Score.Winner) a.first n a.ties k) h,λ_ _ ⟨w0,w1,w2,e1,e2⟩=>⟨_,rfl,[.s w0,.s w1,.s w2],e1,e2.trans (by kernel_rfl)⟩⟩) h λd h=>?_;cases h;exact⟨.inr rfl,[100000,1220,2220,3220],λ_ _ s=>⟨s 1220,s 2220,s 3220,rfl,by kernel_rfl⟩⟩
      ·refine cg (α:=aN) [(100000,_),(155,_),(100002,_),(111,_)] [1220,2220,3220] (λe=>.tup []) (λe=>[some (.box [.j e.rules.Format.Sets,.j e.rules.Format.Games,.k e.rules.Format.NoAd,.j e.rules.Format.Tie,.j e.rules.Format.To,.j e.rules.Format.LastTie,.j e.rules.Format.LastTo,.j e.rules.Format.First,.j e.rules.Format.Then,.k e.rules.Format.Doubles,.hv 0 1220 0,.j e.Score.Board.Games.A,.j e.Score.Board.Games.B,.j e.Score.Board.Points.A,.j e.Score.Board.Points.B,.j e.Score.Server,.j e.Score.Ends,.j e.Score.Balls,.j e.Score.Winner,.j e.first,.j e.won.A,.j e.won.B,.hv 0 2220 0,.hv 0 3220 0]),none,none,none]) (λe=>[(1220,.arr 124 2 (e.Score.Board.Sets.map cH)),(2220,.arr 4 1 (e.ties.map uW)),(3220,.arr 390 7 (e.games.map fQ))]) call299 (λ_ h q=>⟨_,kJ (m_0_b:=q.bb 100000) (m_0_o:=q.oo 100000) (m_0_Score_Board_Sets_v:=q.ss 155) (m_0_ties_v:=q.ss 100002) (m_0_games_v:=q.ss 111) (aN.mk a.rules (cP.mk (cX.mk m Z19 Z19) a.Score.Server a.Score.Ends a.Score.Balls a.Score.Winner) a.first n a.ties k) h,λ_ _ ⟨w0,w1,w2,e1,e2⟩=>⟨_,rfl,[.s w0,.s w1,.s w2],e1,e2.trans (by kernel_rfl)⟩⟩) h λe h=>?_;cases h;exact⟨.inr rfl,[100000,1220,2220,3220],λ_ _ s=>⟨s 1220,s 2220,s 3220,rfl,by kernel_rfl⟩⟩
   ·refine cl call303 (λ_=>aFu _) h λJ h=>?_;refine⟨by decide,?_⟩;refine jg h (λx h=>?_) λK h=>?_
    ·refine br h (λh=>?_) λh=>?_
     ·exact jt h
     ·exact jt h
    ·refine br h (λh=>?_) λh=>?_
     ·refine cg (α:=aN) [(100000,_),(100001,_),(100002,_),(111,_)] [1220,2220,3220] (λf=>.tup []) (λf=>[some (.box [.j f.rules.Format.Sets,.j f.rules.Format.Games,.k f.rules.Format.NoAd,.j f.rules.Format.Tie,.j f.rules.Format.To,.j f.rules.Format.LastTie,.j f.rules.Format.LastTo,.j f.rules.Format.First,.j f.rules.Format.Then,.k f.rules.Format.Doubles,.hv 0 1220 0,.j f.Score.Board.Games.A,.j f.Score.Board.Games.B,.j f.Score.Board.Points.A,.j f.Score.Board.Points.B,.j f.Score.Server,.j f.Score.Ends,.j f.Score.Balls,.j f.Score.Winner,.j f.first,.j f.won.A,.j f.won.B,.hv 0 2220 0,.hv 0 3220 0]),none,none,none]) (λf=>[(1220,.arr 124 2 (f.Score.Board.Sets.map cH)),(2220,.arr 4 1 (f.ties.map uW)),(3220,.arr 390 7 (f.games.map fQ))]) call299 (λ_ h q=>⟨_,kJ (m_0_b:=q.bb 100000) (m_0_o:=q.oo 100000) (m_0_Score_Board_Sets_v:=q.ss 100001) (m_0_ties_v:=q.ss 100002) (m_0_games_v:=q.ss 111) (aN.mk a.rules (cP.mk (cX.mk a.Score.Board.Sets p Z19) a.Score.Server (w64 (a.Score.Ends+1)) a.Score.Balls a.Score.Winner) a.first a.won a.ties k) h,λ_ _ ⟨w0,w1,w2,e1,e2⟩=>⟨_,rfl,[.s w0,.s w1,.s w2],e1,e2.trans (by kernel_rfl)⟩⟩) h λf h=>?_;cases h;exact⟨.inr rfl,[100000,1220,2220,3220],λ_ _ s=>⟨s 1220,s 2220,s 3220,rfl,by kernel_rfl⟩⟩
     ·refine cg (α:=aN) [(100000,_),(100001,_),(100002,_),(111,_)] [1220,2220,3220] (λg=>.tup []) (λg=>[some (.box [.j g.rules.Format.Sets,.j g.rules.Format.Games,.k g.rules.Format.NoAd,.j g.rules.Format.Tie,.j g.rules.Format.To,.j g.rules.Format.LastTie,.j g.rules.Format.LastTo,.j g.rules.Format.First,.j g.rules.Format.Then,.k g.rules.Format.Doubles,.hv 0 1220 0,.j g.Score.Board.Games.A,.j g.Score.Board.Games.B,.j g.Score.Board.Points.A,.j g.Score.Board.Points.B,.j g.Score.Server,.j g.Score.Ends,.j g.Score.Balls,.j g.Score.Winner,.j g.first,.j g.won.A,.j g.won.B,.hv 0 2220 0,.hv 0 3220 0]),none,none,none]) (λg=>[(1220,.arr 124 2 (g.Score.Board.Sets.map cH)),(2220,.arr 4 1 (g.ties.map uW)),(3220,.arr 390 7 (g.games.map fQ))]) call299 (λ_ h q=>⟨_,kJ (m_0_b:=q.bb 100000) (m_0_o:=q.oo 100000) (m_0_Score_Board_Sets_v:=q.ss 100001) (m_0_ties_v:=q.ss 100002) (m_0_games_v:=q.ss 111) (aN.mk a.rules (cP.mk (cX.mk a.Score.Board.Sets p Z19) a.Score.Server a.Score.Ends a.Score.Balls a.Score.Winner) a.first a.won a.ties k) h,λ_ _ ⟨w0,w1,w2,e1,e2⟩=>⟨_,rfl,[.s w0,.s w1,.s w2],e1,e2.trans (by kernel_rfl)⟩⟩) h λg h=>?_;cases h;exact⟨.inr rfl,[100000,1220,2220,3220],λ_ _ s=>⟨s 1220,s 2220,s 3220,rfl,by kernel_rfl⟩⟩

theorem bJm(C:bU)(z:Int)(y:List Int){r:(Option aN)×Int}(h:aDt C z y=some r):Fn Tryz.prog 226 [.agg (pL C),.i z,.d (Z14 y)] (.tup [pZ aAu r.1,.i r.2]):=by
 unfold aDt at h;refine fnx xT {} [.tmp 6,.tmp 7] func226 results226 ntmps226 ?_;refine cl call55 (λ_=>aHb _) h λr2 h=>?_;refine br h (λh=>?_) λh=>?_
 ·cases h;exact⟨rfl,_,_,rfl,rfl,rfl,rfl,rfl⟩
 ·refine jg h (λx h=>?_) λb4 h=>?_
  ·refine br h (λh=>?_) λh=>?_
   ·exact jt h
   ·exact jt h
  ·refine br h (λh=>?_) λh=>?_
   ·cases h;exact⟨rfl,_,_,rfl,rfl,rfl,rfl,rfl⟩
   ·refine ol ?_;refine br h (λh=>?_) λh=>?_
    ·cases h;exact⟨rfl,_,_,rfl,rfl,rfl,rfl,rfl⟩
    ·refine cg (α:=aN) [] [29,1029,2029,3029] (λ_=>.bp 29 0 0) (λ_=>[]) (λr6=>[(29,.box [.j r6.rules.Format.Sets,.j r6.rules.Format.Games,.k r6.rules.Format.NoAd,.j r6.rules.Format.Tie,.j r6.rules.Format.To,.j r6.rules.Format.LastTie,.j r6.rules.Format.LastTo,.j r6.rules.Format.First,.j r6.rules.Format.Then,.k r6.rules.Format.Doubles,.hv 0 1029 0,.j r6.Score.Board.Games.A,.j r6.Score.Board.Games.B,.j r6.Score.Board.Points.A,.j r6.Score.Board.Points.B,.j r6.Score.Server,.j r6.Score.Ends,.j r6.Score.Balls,.j r6.Score.Winner,.j r6.first,.j r6.won.A,.j r6.won.B,.hv 0 2029 0,.hv 0 3029 0]),(1029,.arr 124 2 (r6.Score.Board.Sets.map cH)),(2029,.arr 4 1 (r6.ties.map uW)),(3029,.arr 390 7 (r6.games.map fQ))]) call264 (λ_ h q=>⟨_,bFh _ _ h,λ_ _ ⟨b,o,w0,w1,w2,e1,e2⟩=>⟨_,rfl,[.b b o,.s w0,.s w1,.s w2],e1,e2.trans (by kernel_rfl)⟩⟩) h λr6 h=>?_;refine ol ?_;refine xlp [9,30,31] [] (λ((v,w,m,n,a,f,g,p,t,u,j,l,e):Int×(List aJ)×(List Bool)×(List uM)×iB×aJ×aJ×Int×Int×Int×Int×Int×aJ)=>([(32,.i v)],[(1029,.arr 124 2 (w.map cH)),(2029,.arr 4 1 (m.map uW)),(3029,.arr 390 7 (n.map fQ)),(29,.box [.j a.Format.Sets,.j a.Format.Games,.k a.Format.NoAd,.j a.Format.Tie,.j a.Format.To,.j a.Format.LastTie,.j a.Format.LastTo,.j a.Format.First,.j a.Format.Then,.k a.Format.Doubles,.hv 0 1029 0,.j f.A,.j f.B,.j g.A,.j g.B,.j p,.j t,.j u,.j j,.j l,.j e.A,.j e.B,.hv 0 2029 0,.hv 0 3029 0])])) (λk ((v,w,m,n,a,f,g,p,t,u,j,l,e):Int×(List aJ)×(List Bool)×(List uM)×iB×aJ×aJ×Int×Int×Int×Int×Int×aJ)=>qN y (y.length:Int) k v w m n a f g p t u j l e) (0,r6.Score.Board.Sets,r6.ties,r6.games,r6.rules,r6.Score.Board.Games,r6.Score.Board.Points,r6.Score.Server,r6.Score.Ends,r6.Score.Balls,r6.Score.Winner,r6.first,r6.won) h (lev []) ?_;rintro k9 ⟨v,w,m,n,a,f,g,p,t,u,j,l,e⟩ h;simp only[qN] at h;refine br h (λh=>?_) λh=>?_
     ·refine oi h λE h=>?_;refine jg h (λx h=>?_) λF h=>?_
      ·refine br h (λh=>?_) λh=>?_
       ·exact jt h
       ·exact jt h
      ·refine jg h (λx h=>?_) λG h=>?_
       ·refine br h (λh=>?_) λh=>?_
        ·exact jt h
        ·exact jt h
       ·refine br h (λh=>?_) λh=>?_
        ·cases h;exact⟨rfl,_,_,rfl,rfl,rfl,rfl,rfl⟩
        ·refine cg (α:=aN) [(29,_),(1029,_),(2029,_),(3029,_)] [1052,2052,3052] (λc=>.tup []) (λc=>[some (.box [.j c.rules.Format.Sets,.j c.rules.Format.Games,.k c.rules.Format.NoAd,.j c.rules.Format.Tie,.j c.rules.Format.To,.j c.rules.Format.LastTie,.j c.rules.Format.LastTo,.j c.rules.Format.First,.j c.rules.Format.Then,.k c.rules.Format.Doubles,.hv 0 1052 0,.j c.Score.Board.Games.A,.j c.Score.Board.Games.B,.j c.Score.Board.Points.A,.j c.Score.Board.Points.B,.j c.Score.Server,.j c.Score.Ends,.j c.Score.Balls,.j c.Score.Winner,.j c.first,.j c.won.A,.j c.won.B,.hv 0 2052 0,.hv 0 3052 0]),none,none,none]) (λc=>[(1052,.arr 124 2 (c.Score.Board.Sets.map cH)),(2052,.arr 4 1 (c.ties.map uW)),(3052,.arr 390 7 (c.games.map fQ))]) call265 (λ_ h q=>⟨_,aQn (m_0_b:=q.bb 29) (m_0_o:=q.oo 29) (m_0_Score_Board_Sets_v:=q.ss 1029) (m_0_ties_v:=q.ss 2029) (m_0_games_v:=q.ss 3029) (aN.mk a (cP.mk (cX.mk w f g) p t u j) l e m n) E h,λ_ _ ⟨w0,w1,w2,e1,e2⟩=>⟨_,rfl,[.s w0,.s w1,.s w2],e1,e2.trans (by kernel_rfl)⟩⟩) h λc h=>?_;exact⟨(w64 (v+1),c.Score.Board.Sets,c.ties,c.games,c.rules,c.Score.Board.Games,c.Score.Board.Points,c.Score.Server,c.Score.Ends,c.Score.Balls,c.Score.Winner,c.first,c.won),h,lev [(1029,1052),(2029,2052),(3029,3052)]⟩
     ·simp only[aHc] at h;cases h;exact⟨rfl,_,_,rfl,rfl,rfl,rfl,rfl⟩

theorem bJl(c:bU)(b:Int)(a:List Int){r:cP×Int}(h:aDs c b a=some r):Fn Tryz.prog 183 [.agg (pL c),.i b,.d (Z14 a)] (.tup [.agg (bLa r.1),.i r.2]):=by
 unfold aDs at h;refine fnx xT {} [.cell 6 263,.tmp 7] func183 results183 ntmps183 ?_;refine cdo call226 (λ_=>bJm _ _ _) h (λe5 h=>?_) λy6 e5 h=>?_
 ·refine br h (λh=>?_) λh=>?_
  ·cases h;exact⟨rfl,_,_,rfl,rfl,rfl,rfl,rfl⟩
  ·cases h
 ·refine br h (λh=>?_) λh=>?_
  ·cases h;exact⟨rfl,_,_,rfl,rfl,rfl,rfl,rfl⟩
  ·have h:=cGt h;cases h;exact⟨rfl,_,_,rfl,rfl,rfl,rfl,rfl⟩

theorem aMo(n:Int){r:Str}(h:strconv_Itoa n=some r):Fn Tryz.prog 185 [.i n] (.d (.lit (.string ⟨r.toArray⟩))):=cBb cAh (λn h0 h1 w ht=>Tryz.strconv_Itoa n h0 h1 w ht) h

theorem aSv(a:aK)(b:Int)(c:Int){r:Str×aK}{d_0_b d_0_o:Nat}{d_0_Register_Notices_v:Value}{d_0_Register_Slips_v:Value}{d_0_Register_Days_v:Value}(h:lZ a b c=some r):bC Tryz.prog 182 [.bp d_0_b d_0_o 0,.i b,.i c] (Z0 d_0_b d_0_o a d_0_Register_Notices_v d_0_Register_Slips_v d_0_Register_Days_v) (λr' o'=>∃(e:Value) (f:Value),r'=.d (.lit (.string ⟨r.1.toArray⟩))/\o'=[.box d_0_b d_0_o [.j r.2.Desk.Field.Places,.j r.2.Desk.Field.Wilds,.j r.2.Desk.Field.Guards,.j r.2.Desk.Field.Close,.j r.2.Desk.Field.Freeze,.j r.2.Desk.Tree.Rounds,.sl 1 (r.2.Desk.Tree.Slots.map aI),.j r.2.Desk.Format.Sets,.j r.2.Desk.Format.Games,.k r.2.Desk.Format.NoAd,.j r.2.Desk.Format.Tie,.j r.2.Desk.Format.To,.j r.2.Desk.Format.LastTie,.j r.2.Desk.Format.LastTo,.j r.2.Desk.Format.First,.j r.2.Desk.Format.Then,.k r.2.Desk.Format.Doubles,.sl 1 (r.2.Desk.Days.map dD),.j r.2.Desk.Rest,.sl 3 (r.2.Desk.Stages.map cU),.j r.2.Register.Hour,.lit e,.lit f,.j r.2.Register.Round,.j r.2.Register.Place,.j r.2.Register.First,.sl 1 (r.2.Register.Points.map aI),.lit d_0_Register_Days_v,.j r.2.bout.Round,.j r.2.bout.Place,.j r.2.bout.One,.j r.2.bout.Two],.arr e 101 5 (r.2.Register.Notices.map dW),.arr f 103 5 (r.2.Register.Slips.map aG)]):=by
 unfold lZ at h;refine fng xT {} false [(d_0_b,d_0_o,undef),(0,0,d_0_Register_Notices_v),(0,0,d_0_Register_Slips_v)] [.bp 100000 0 0,.i b,.i c] [(100000,.box [.j a.Desk.Field.Places,.j a.Desk.Field.Wilds,.j a.Desk.Field.Guards,.j a.Desk.Field.Close,.j a.Desk.Field.Freeze,.j a.Desk.Tree.Rounds,.sl 1 (Z21 a),.j a.Desk.Format.Sets,.j a.Desk.Format.Games,.k a.Desk.Format.NoAd,.j a.Desk.Format.Tie,.j a.Desk.Format.To,.j a.Desk.Format.LastTie,.j a.Desk.Format.LastTo,.j a.Desk.Format.First,.j a.Desk.Format.Then,.k a.Desk.Format.Doubles,.sl 1 (a.Desk.Days.map dD),.j a.Desk.Rest,.sl 3 (Z28 a),.j a.Register.Hour,.hv 0 100001 0,.hv 0 100002 0,.j a.Register.Round,.j a.Register.Place,.j a.Register.First,.sl 1 (Z22 a),.lit d_0_Register_Days_v,.j a.bout.Round,.j a.bout.Place,.j a.bout.One,.j a.bout.Two]),(100001,.arr 101 5 (Z20 a)),(100002,.arr 103 5 (Z23 a))] [.tmp 6] func182 results182 ntmps182 ?_;refine ol ?_;refine br h (λh=>?_) λh=>?_
 ·cases h;exact⟨rfl,[100000,100001,100002],λ_ _ _=>⟨d_0_Register_Notices_v,d_0_Register_Slips_v,rfl,by kernel_rfl⟩⟩
 ·refine br h (λh=>?_) λh=>?_
  ·refine⟨by kernel_rfl,?_⟩;refine oap h λx1 h=>?_;refine⟨by kernel_rfl,?_⟩;refine cl call185 (λ_=>aMo _) h λr4 h=>?_;cases h;exact⟨rfl,[100000,100001,47],λ_ _ s=>⟨d_0_Register_Notices_v,s 47,rfl,by kernel_rfl⟩⟩
  ·refine⟨by kernel_rfl,?_⟩;refine oap h λx6 h=>?_;refine⟨by kernel_rfl,?_⟩;refine cl call185 (λ_=>aMo _) h λr9 h=>?_;cases h;exact⟨rfl,[100000,100001,47],λ_ _ s=>⟨d_0_Register_Notices_v,s 47,rfl,by kernel_rfl⟩⟩

theorem aOy(a:aK)(c:Int){r:Str×aK}{d_0_b d_0_o:Nat}{d_0_Register_Notices_v:Value}{d_0_Register_Slips_v:Value}{d_0_Register_Days_v:Value}(h:iS a c=some r):bC Tryz.prog 129 [.bp d_0_b d_0_o 0,.i c] (Z0 d_0_b d_0_o a d_0_Register_Notices_v d_0_Register_Slips_v d_0_Register_Days_v) (λr' o'=>∃(e:Value) (f:Value),r'=.d (.lit (.string ⟨r.1.toArray⟩))/\o'=[.box d_0_b d_0_o [.j r.2.Desk.Field.Places,.j r.2.Desk.Field.Wilds,.j r.2.Desk.Field.Guards,.j r.2.Desk.Field.Close,.j r.2.Desk.Field.Freeze,.j r.2.Desk.Tree.Rounds,.sl 1 (r.2.Desk.Tree.Slots.map aI),.j r.2.Desk.Format.Sets,.j r.2.Desk.Format.Games,.k r.2.Desk.Format.NoAd,.j r.2.Desk.Format.Tie,.j r.2.Desk.Format.To,.j r.2.Desk.Format.LastTie,.j r.2.Desk.Format.LastTo,.j r.2.Desk.Format.First,.j r.2.Desk.Format.Then,.k r.2.Desk.Format.Doubles,.sl 1 (r.2.Desk.Days.map dD),.j r.2.Desk.Rest,.sl 3 (r.2.Desk.Stages.map cU),.j r.2.Register.Hour,.lit e,.lit f,.j r.2.Register.Round,.j r.2.Register.Place,.j r.2.Register.First,.sl 1 (r.2.Register.Points.map aI),.lit d_0_Register_Days_v,.j r.2.bout.Round,.j r.2.bout.Place,.j r.2.bout.One,.j r.2.bout.Two],.arr e 101 5 (r.2.Register.Notices.map dW),.arr f 103 5 (r.2.Register.Slips.map aG)]):=by
 unfold iS at h;refine fng xT {lr:=[(6,[30])]} false [(d_0_b,d_0_o,undef),(0,0,d_0_Register_Notices_v),(0,0,d_0_Register_Slips_v)] [.bp 100000 0 0,.i c] [(100000,.box [.j a.Desk.Field.Places,.j a.Desk.Field.Wilds,.j a.Desk.Field.Guards,.j a.Desk.Field.Close,.j a.Desk.Field.Freeze,.j a.Desk.Tree.Rounds,.sl 1 (Z21 a),.j a.Desk.Format.Sets,.j a.Desk.Format.Games,.k a.Desk.Format.NoAd,.j a.Desk.Format.Tie,.j a.Desk.Format.To,.j a.Desk.Format.LastTie,.j a.Desk.Format.LastTo,.j a.Desk.Format.First,.j a.Desk.Format.Then,.k a.Desk.Format.Doubles,.sl 1 (a.Desk.Days.map dD),.j a.Desk.Rest,.sl 3 (Z28 a),.j a.Register.Hour,.hv 0 100001 0,.hv 0 100002 0,.j a.Register.Round,.j a.Register.Place,.j a.Register.First,.sl 1 (Z22 a),.lit d_0_Register_Days_v,.j a.bout.Round,.j a.bout.Place,.j a.bout.One,.j a.bout.Two]),(100001,.arr 101 5 (Z20 a)),(100002,.arr 103 5 (Z23 a))] [.tmp 4] func129 results129 ntmps129 ?_;refine cl call181 (λ_=>aAm _) h λr1 h=>?_;refine jg h (λx h=>?_) λb3 h=>?_
 ·refine br h (λh=>?_) λh=>?_
  ·exact jt h
  ·exact jt h
 ·refine br h (λh=>?_) λh=>?_
  ·cases h;exact⟨rfl,[100000,100001,100002],λ_ _ _=>⟨d_0_Register_Notices_v,d_0_Register_Slips_v,rfl,by kernel_rfl⟩⟩
  ·refine ol ?_;refine br h (λh=>?_) λh=>?_
   ·cases h;exact⟨rfl,[100000,100001,100002],λ_ _ _=>⟨d_0_Register_Notices_v,d_0_Register_Slips_v,rfl,by kernel_rfl⟩⟩
   ·refine cow call192 (λ_=>sG _) h λr5 h=>?_;refine oap h λx8 h=>?_;refine⟨by kernel_rfl,?_⟩;refine cd call183 (λ_=>bJl _ _ _) h λg h=>?_;refine⟨by kernel_rfl,?_⟩;refine br h (λh=>?_) λh=>?_
    ·refine cg (α:=Str×aK) [(100000,_),(100001,_),(100002,_)] [1052,2052] (λb=>.d (.lit (.string ⟨b.1.toArray⟩))) (λb=>[some (.box [.j b.2.Desk.Field.Places,.j b.2.Desk.Field.Wilds,.j b.2.Desk.Field.Guards,.j b.2.Desk.Field.Close,.j b.2.Desk.Field.Freeze,.j b.2.Desk.Tree.Rounds,.sl 1 (b.2.Desk.Tree.Slots.map aI),.j b.2.Desk.Format.Sets,.j b.2.Desk.Format.Games,.k b.2.Desk.Format.NoAd,.j b.2.Desk.Format.Tie,.j b.2.Desk.Format.To,.j b.2.Desk.Format.LastTie,.j b.2.Desk.Format.LastTo,.j b.2.Desk.Format.First,.j b.2.Desk.Format.Then,.k b.2.Desk.Format.Doubles,.sl 1 (b.2.Desk.Days.map dD),.j b.2.Desk.Rest,.sl 3 (b.2.Desk.Stages.map cU),.j b.2.Register.Hour,.hv 0 1052 0,.hv 0 2052 0,.j b.2.Register.Round,.j b.2.Register.Place,.j b.2.Register.First,.sl 1 (b.2.Register.Points.map aI),.lit d_0_Register_Days_v,.j b.2.bout.Round,.j b.2.bout.Place,.j b.2.bout.One,.j b.2.bout.Two]),none,none]) (λb=>[(1052,.arr 101 5 (b.2.Register.Notices.map dW)),(2052,.arr 103 5 (b.2.Register.Slips.map aG))]) call182 (λ_ h q=>⟨_,aSv (d_0_b:=q.bb 100000) (d_0_o:=q.oo 100000) (d_0_Register_Notices_v:=q.ss 100001) (d_0_Register_Slips_v:=q.ss 100002) (d_0_Register_Days_v:=d_0_Register_Days_v) a g.1.Winner 1 h,λ_ _ ⟨w0,w1,e1,e2⟩=>⟨_,rfl,[.s w0,.s w1],e1,e2.trans (by kernel_rfl)⟩⟩) h λb h=>?_;cases h;exact⟨rfl,[100000,1052,2052],λ_ _ s=>⟨s 1052,s 2052,rfl,by kernel_rfl⟩⟩
    ·cases h;exact⟨rfl,[100000,100001,100002],λ_ _ _=>⟨d_0_Register_Notices_v,d_0_Register_Slips_v,rfl,by kernel_rfl⟩⟩

theorem bAk(s sep:Str){r:List Str}(h:strings_Split s sep=some r):Fn Tryz.prog 102 [.d (.lit (.string ⟨s.toArray⟩)),.d (.lit (.string ⟨sep.toArray⟩))] (.d (.sl 1 (r.map xR))):=bXz cAg (λs sep m w h1 h2 h3=>Tryz.strings_Split s sep m w h1 h2 h3) h

theorem aWs(e:Str){r:Int×Bool}(h:aEz e=some r):Fn Tryz.prog 103 [.d (.lit (.string ⟨e.toArray⟩))] (.tup [.i r.1,.b r.2]):=by
 unfold aEz at h;refine fnx xT {} [.tmp 2,.tmp 3] func103 results103 ntmps103 ?_;refine cEa (a:=e) (b:=([]:Str)) ?_;refine jg h (λx h=>?_) λb1 h=>?_
 ·refine br h (λh=>?_) λh=>?_
  ·exact jt h
  ·refine bZq (a:=e) underlying9 ?_;exact jt h
 ·refine jg h (λx h=>?_) λb3 h=>?_
  ·refine br h (λh=>?_) λh=>?_
   ·exact jt h
   ·refine cFz underlying9 h λx5 h=>?_;refine jg h (λx h=>?_) λb7 h=>?_
    ·refine br h (λh=>?_) λh=>?_
     ·refine cEb (a:=e) (b:=([48]:Str)) ?_;exact jt h
     ·exact jt h
    ·exact jt h
  ·refine br h (λh=>?_) λh=>?_
   ·cases h;exact⟨rfl,_,_,rfl,rfl,rfl,rfl,rfl⟩
   ·refine cDu underlying9 underlying255 underlying5 h λx9 h=>?_;refine ol ?_;refine xlp [24,25] [] (λ((f,c):Int×Int)=>([(4,.i f),(26,.i c)],[])) (λk ((f,c):Int×Int)=>uK x9 (x9.length:Int) k f c) (0,0) h (lev []) ?_;rintro j ⟨f,c⟩ h;simp only[uK] at h;refine br h (λh=>?_) λh=>?_
    ·refine oi h λg h=>?_;refine jg h (λx h=>?_) λl h=>?_
     ·refine br h (λh=>?_) λh=>?_
      ·exact jt h
      ·exact jt h
     ·refine br h (λh=>?_) λh=>?_
      ·cases h;exact⟨rfl,_,_,rfl,rfl,rfl,rfl,rfl⟩
      ·exact⟨(w64 ((w64 (10*f))+(w64 (IntKind.u8.wrap (g-48)))),w64 (c+1)),h,lev []⟩
    ·simp only[aHm] at h;cases h;exact⟨rfl,_,_,rfl,rfl,rfl,rfl,rfl⟩

theorem aZv(e:Str){r:Str×(List Int)×Bool}(h:sU e=some r):Fn Tryz.prog 58 [.d (.lit (.string ⟨e.toArray⟩))] (.tup [.d (.lit (.string ⟨r.1.toArray⟩)),.d (.sl 1 (r.2.1.map aI)),.b r.2.2]):=by
 unfold sU at h;refine fnx xT {ow:=[3,3]} [.tmp 2,.tmp 3,.tmp 4] func58 results58 ntmps58 ?_;refine cd call102 (λ_=>bAk _ _) h λr2 h=>?_;refine ol ?_;refine osb h λx4 h=>?_;refine ol ?_;refine xlp [5,13,14] [] (λ((a,c):Int×Z11)=>([(3,.d (.hv 0 3 0)),(15,.i a)],[(3,.arr 3 1 (c.map aI))])) (λk ((a,c):Int×Z11)=>wH r2 x4 (x4.length:Int) k a c) (0,([]:List Int)) h (lev []) ?_;rintro k7 ⟨a,c⟩ h;simp only[wH] at h;refine br h (λh=>?_) λh=>?_
 ·refine oi h λx8 h=>?_;refine cl call103 (λ_=>aWs _) h λg h=>?_;refine br h (λh=>?_) λh=>?_
  ·cases h;exact⟨rfl,_,_,_,rfl,rfl,rfl,rfl,rfl,rfl⟩
  ·refine oap h λf h=>?_;exact⟨(w64 (a+1),f),h,lev [(3,29)]⟩
 ·simp only[aJh] at h;refine oi h λj h=>?_;cases h;exact⟨rfl,_,_,_,rfl,rfl,rfl,rfl,rfl,rfl⟩

theorem aFf(e:List dT)(f:dT->Option Bool){r:Int}(a:Nat)(c:List AV)(j:∀args w,(callFunc a args).run Tryz.prog w=.ok (.enter a args) w)(l:∀(x0:dT) r,f x0=some r->Fn Tryz.prog a ([.agg (gN x0)]++c) (.b r))(h:lQ e f=some r):Fn Tryz.prog 160 [.d (.sl 4 (e.map gN)),.fn a c] (.i r):=by
 unfold lQ at h;refine oT [.tmp 4] func160 results160 ntmps160 ?_;refine au 12 ?_;refine eV (S:=Int) [0,1,7] (λs1=>[(8,.i s1)]) (λs1=>[]) (λk s1=>dI e f (e.length:Int) k s1) (λ_=>rfl) (0) h (aQ [] rfl rfl (aL rfl (aY (ae rfl)))) ?_;rintro k2 g h;simp only[dI] at h;refine au 5 ?_;refine tih h (λc3 h=>?_) (λc3 h=>?_)
 ·refine au 10 ?_;refine tm (.fn a c) (au 2 ?_);obtain⟨x4,h5,h⟩:=bns h;refine to (six rfl rfl bZw.of (dM gN h5)) (to (aHd (gN x4) rfl cCu) ?_);obtain⟨r6,h7,h⟩:=bns h;refine to (qS (aC rfl) (.clo _ _ _ _ j rfl) (aEl rfl) rfl (BVs.refl _ _) (l _ _ h7) rfl) ?_;refine aP ?_;refine tih h (λc8 h=>?_) (λc8 h=>?_)
  ·refine au 5 ?_;obtain rfl:=sIn h;exact rt
  ·refine mC ?_;refine au 4 ?_;exact⟨(w64 (g+1)),h,aQ [] rfl rfl (aL rfl (aY (ae rfl)))⟩
 ·refine dS ?_;refine .inl ⟨rfl,?_⟩;simp only[oE] at h;refine au 4 ?_;obtain rfl:=sIn h;exact rt

theorem aCo(g:List dT)(i:dT->Option Bool){r:Bool}(a:Nat)(c:List AV)(e:∀args w,(callFunc a args).run Tryz.prog w=.ok (.enter a args) w)(f:∀(x0:dT) r,i x0=some r->Fn Tryz.prog a ([.agg (gN x0)]++c) (.b r))(h:gS g i=some r):Fn Tryz.prog 78 [.d (.sl 4 (g.map gN)),.fn a c] (.b r):=by
 unfold gS at h;refine oT [.tmp 4] func78 results78 ntmps78 ?_;refine au 7 ?_;refine tm (.fn a c) ?_;obtain⟨r1,h2,h⟩:=bns h;refine to (scr call160 (aFf _ _ a c e f h2)) (au 3 ?_);obtain rfl:=sIn h;exact rt

theorem oV(d:Int)(c:Int)(a:Int){r:Bool}(h:kG d c a=some r):Fn Tryz.prog 81 [.i d,.i c,.i a] (.b r):=by
 unfold kG at h;refine fnx xT {} [.tmp 6] func81 results81 ntmps81 ?_;refine jg h (λx h=>?_) λb1 h=>?_
 ·refine br h (λh=>?_) λh=>?_
  ·exact jt h
  ·exact jt h
 ·cases h;exact⟨rfl,rfl,rfl⟩

theorem vD(d:bO)(c:Int)(a:Int){r:Bool}(h:nF d c a=some r):Fn Tryz.prog 82 [.agg (cF d),.i c,.i a] (.b r):=by
 unfold nF at h;refine fnx xT {} [.tmp 6] func82 results82 ntmps82 ?_;refine jg h (λx h=>?_) λb2 h=>?_
 ·refine br h (λh=>?_) λh=>?_
  ·refine cl call81 (λ_=>oV _ _ _) h λr4 h=>?_;exact jt h
  ·exact jt h
 ·refine jg h (λx h=>?_) λb6 h=>?_
  ·refine br h (λh=>?_) λh=>?_
   ·refine cl call81 (λ_=>oV _ _ _) h λr8 h=>?_;exact jt h
   ·exact jt h
  ·cases h;exact⟨rfl,rfl,rfl⟩

theorem aYz(a:dT){r:Bool}(h:wS a=some r):Fn Tryz.prog 80 [.agg (gN a)] (.b r):=by
 unfold wS at h;refine fnx xT {} [.tmp 2] func80 results80 ntmps80 ?_;refine cl call81 (λ_=>oV _ _ _) h λr2 h=>?_;refine jg h (λx h=>?_) λb4 h=>?_
 ·refine br h (λh=>?_) λh=>?_
  ·refine cl call81 (λ_=>oV _ _ _) h λr6 h=>?_;exact jt h
  ·exact jt h
 ·refine jg h (λx h=>?_) λb8 h=>?_
  ·refine br h (λh=>?_) λh=>?_
   ·refine jg h (λx h=>?_) λc h=>?_
    ·refine br h (λh=>?_) λh=>?_
     ·exact jt h
     ·exact jt h
    ·exact jt h
   ·exact jt h
  ·refine jg h (λx h=>?_) λd h=>?_
   ·refine br h (λh=>?_) λh=>?_
    ·refine cl call82 (λ_=>vD _ _ _) h λe h=>?_;exact jt h
    ·exact jt h
   ·cases h;exact⟨rfl,rfl,rfl⟩

theorem aYy(a:dT){r:Bool}(h:aAy a=some r):Fn Tryz.prog 79 [.agg (gN a)] (.b r):=by
 unfold aAy at h;refine fnx xT {} [.tmp 2] func79 results79 ntmps79 ?_;refine cl call80 (λ_=>aYz _) h λr2 h=>?_;cases h;exact⟨rfl,rfl,rfl⟩

theorem bEv(a:bQ){r:Int}(h:aAh a=some r):Fn Tryz.prog 43 [.agg (dF a)] (.i r):=by
 unfold aAh at h;refine fnx xT {} [.tmp 2] func43 results43 ntmps43 ?_;refine cl call78 (λ_=>aCo _ _ 79 [] call79 (λ_ _ h=>aYy _ h)) h λr3 h=>?_;refine jg h (λx h=>?_) λb5 h=>?_
 ·refine br h (λh=>?_) λh=>?_
  ·exact jt h
  ·refine ol ?_;exact jt h
 ·refine jg h (λx h=>?_) λb7 h=>?_
  ·refine br h (λh=>?_) λh=>?_
   ·exact jt h
   ·refine cl call81 (λ_=>oV _ _ _) h λr9 h=>?_;exact jt h
  ·refine jg h (λx h=>?_) λb h=>?_
   ·refine br h (λh=>?_) λh=>?_
    ·exact jt h
    ·refine cl call81 (λ_=>oV _ _ _) h λc h=>?_;exact jt h
   ·refine jg h (λx h=>?_) λd h=>?_
    ·refine br h (λh=>?_) λh=>?_
     ·exact jt h
     ·refine cl call82 (λ_=>vD _ _ _) h λe h=>?_;exact jt h
    ·refine jg h (λx h=>?_) λf h=>?_
     ·refine br h (λh=>?_) λh=>?_
      ·exact jt h
      ·refine cl call82 (λ_=>vD _ _ _) h λg h=>?_;exact jt h
     ·refine br h (λh=>?_) λh=>?_
      ·cases h;exact⟨rfl,rfl,rfl⟩
      ·cases h;exact⟨rfl,rfl,rfl⟩

theorem aWd(a:dZ){r:Int}(h:vC a=some r):Fn Tryz.prog 44 [.agg (nV a)] (.i r):=by
 unfold vC at h;refine fnx xT {} [.tmp 2] func44 results44 ntmps44 ?_;refine cl call82 (λ_=>vD _ _ _) h λr2 h=>?_;refine jg h (λx h=>?_) λb4 h=>?_
 ·refine br h (λh=>?_) λh=>?_
  ·exact jt h
  ·refine cl call82 (λ_=>vD _ _ _) h λr6 h=>?_;exact jt h
 ·refine br h (λh=>?_) λh=>?_
  ·cases h;exact⟨rfl,rfl,rfl⟩
  ·cases h;exact⟨rfl,rfl,rfl⟩

theorem aPy(a:bQ)(b:dZ){r:Int}(h:xG a b=some r):Fn Tryz.prog 29 [.agg (dF a),.agg (nV b)] (.i r):=by
 unfold xG at h;refine fnx xT {} [.tmp 4] func29 results29 ntmps29 ?_;refine cl call43 (λ_=>bEv _) h λr3 h=>?_;refine br h (λh=>?_) λh=>?_
 ·cases h;exact⟨rfl,rfl,rfl⟩
 ·refine cl call44 (λ_=>aWd _) h λr5 h=>?_;cases h;exact⟨rfl,rfl,rfl⟩

theorem bLe(a:bQ){r:Unit}(_:aRz a=some r):Fn Tryz.prog 83 [.agg (dF a)] (.fn 161 [.cp [.j a.Size,.sl 4 (a.Strips.map gN),.j a.Wrong,.j a.HalfX.Low,.j a.HalfX.High,.j a.HalfY.Low,.j a.HalfY.High]]):=by
 refine iE func83 rfl (rs:=[.tmp 2]) results83 ntmps83 (Nat.le_of_ble_eq_true rfl) ?_;refine aZ (aO ?_);refine bJ rfl (qY (v:=.agg (dF a)) (aC rfl) rfl rfl rfl) ?_;rintro _ ⟨b1,rfl⟩;refine au 4 ?_;refine to (bUm (aC rfl) rfl rfl) ?_;refine ta (.fn 161 [.bp b1 0 0]) (aP ?_);exact cW ⟨rfl,_,[.box b1 0 (dF a)],.one (.tmp 2 (v:=.fn 161 [.bp b1 0 0]) rfl),.refl _,(bOr (.cons (bZb 0 rfl rfl (dvc (.same _) (dvc (.same _) (dvc (.same _) (dvc (.same _) (dvc (.same _) (dvc (.same _) (dvc (.same _) dvn)))))))) .nil))⟩

theorem bEz(c:bQ)(e:Int)(f:Int){r:(List Int)}(h:aFo c e f=some r):Fn Tryz.prog 162 [.agg (dF c),.i e,.i f] (.d (.sl 1 (r.map aI))):=by
 unfold aFo at h;refine fnx xT {ow:=[7]} [.tmp 6] func162 results162 ntmps162 ?_;refine ol ?_;refine xlp [1,2,11,12] [] (λ((a,b):Int×Z11)=>([(7,.d (.hv 0 7 0)),(13,.i a)],[(7,.arr 3 1 (b.map aI))])) (λk ((a,b):Int×Z11)=>oW e f c.Strips (c.Strips.length:Int) k a b) (0,([]:List Int)) h (lev []) ?_;rintro k4 ⟨a,b⟩ h;simp only[oW] at h;refine br h (λh=>?_) λh=>?_
 ·refine oi h λx5 h=>?_;refine cl call81 (λ_=>oV _ _ _) h λr8 h=>?_;refine br h (λh=>?_) λh=>?_
  ·refine oap h λg h=>?_;exact⟨(w64 (a+1),g),h,lev [(7,36)]⟩
  ·exact⟨(w64 (a+1),b),h,lev []⟩
 ·simp only[aEr] at h;cases h;exact⟨rfl,rfl,rfl⟩

theorem bEw{S:Type}(J:S->MO->Prop)(ly:Nat)(a:S->bF->(List Int)->Option S)(hy:∀(s:S) (m:MO) (x0:bF) (x1:List Int) (s':S),J s m->a s x0 x1=some s'->aLn Tryz.prog ly [.agg (dC x0),.d (.sl 1 (x1.map aI))] m (J s'))(b:bQ)(sy:S)(m0:MO)(hj:J sy m0){r:S}(h:aFl a b sy=some r):bC Tryz.prog 161 [.d (.lit (yv ly)),.cp (dF b)] [m0] (λ_ o'=>∃m',J r m'/\o'=[m']):=by
 unfold aFl at h;refine xD func161 rfl (rs:=[]) results161 ntmps161 (Nat.le_of_ble_eq_true rfl) ?_;refine aZ (aO (to (sfc [.j b.Size] rfl bHl) (au 5 ?_)));refine eV (S:=Int×({x:S×MO // J x.1 x.2})) [0,1,7] (λs1=>[(8,.i s1.1)]) (λs1=>[s1.2.1.2]) (λk s1=>iH a b (w64 (b.Size+1)) k s1.1 s1.2.1.1) (λ_=>rfl) (0,⟨(sy,m0),hj⟩) h (aQ [0] rfl rfl (aL rfl (aY (ae rfl)))) ?_;rintro k3 ⟨c,y2⟩ h;simp only[iH] at h;refine au 5 ?_;refine tih h (λc4 h=>?_) (λc4 h=>?_)
 ·refine au 10 ?_;refine to (sfc [.j b.Size] rfl bHl) (au 4 ?_);refine aMr ?_;refine eV (S:=Int×({x:S×MO // J x.1 x.2})) [0,1,3,7,8,13] (λs5=>[(14,.i s5.1)]) (λs5=>[s5.2.1.2]) (λk s5=>mP a (iH a b (w64 (b.Size+1)) k3) b c (w64 (b.Size+1)) c (w64 (b.Size+1)) k s5.1 s5.2.1.1) (λ_=>rfl) (0,⟨(y2.1.1,y2.1.2),y2.2⟩) h (aQ [0] rfl rfl (aL rfl (aY (ae rfl)))) ?_;rintro k7 ⟨e,y6⟩ h;simp only[mP] at h;refine au 5 ?_;refine tih h (λc8 h=>?_) (λc8 h=>?_)
  ·refine au 13 ?_;refine to (iV (aC rfl) cCd (zs:=[.j 0,.j 0]) rfl rfl rfl rfl (es:=[.j c,.j e]) rfl) ?_;refine to (aHd (dF b) rfl bRq) (au 2 ?_);obtain⟨r9,j,h⟩:=bns h;refine to (aIk (aC rfl) (.func _ _ call162) rfl rfl (bEz _ _ _ j)) ?_;obtain⟨l,n,h⟩:=bns h;refine bKb rfl (bNj (aC rfl) rfl rfl rfl rfl (hy _ _ _ _ _ y6.2 n)) ?_;rintro _ ⟨o,g,rfl⟩;refine to (sn rfl) (aP ?_);refine rA rfl (λf=>?_) (λf=>?_)
   ·exact absurd f (by decide)
   ·refine mC ?_;refine au 4 ?_;exact⟨(w64 (e+1),⟨(l,o),g⟩),h,aQ [0] rfl rfl (aL rfl (aY (ae rfl)))⟩
  ·refine dS ?_;refine .inl ⟨rfl,?_⟩;simp only[aEq] at h;simp only[aEp] at h;refine au 4 ?_;exact⟨(w64 (c+1),⟨(y6.1.1,y6.1.2),y6.2⟩),h,aQ [0] rfl rfl (aL rfl (aY (ae rfl)))⟩
 ·refine dS ?_;refine .inl ⟨rfl,?_⟩;simp only[aEo] at h;obtain rfl:=sIn h;exact⟨_,[y2.1.2],[],_,.none,.refl _,.same _,y2.1.2,y2.2,rfl⟩

theorem bBs(a:bQ){r:(List bF)}(h:yR a=some r):Fn Tryz.prog 45 [.agg (dF a)] (.d (.sl 2 (r.map dC))):=by
 unfold yR at h;refine oT [.tmp 2] func45 results45 ntmps45 ?_;refine aZ (aO ?_);refine bJ rfl (qY (v:=.agg (dF a)) (aC rfl) rfl rfl rfl) ?_;rintro _ ⟨b1,rfl⟩;refine to (aKm 2 (aC rfl)) ?_;refine au 3 ?_;refine bJ rfl (dE (zs:=Z32) (aC rfl) zeroValue137 rfl rfl) ?_;rintro _ ⟨b2,rfl⟩;refine fY (pD 141 2) ?_;refine au 4 ?_;refine to (sla 0 (dF a) rfl rfl bRq) ?_;obtain⟨x3,h4,h⟩:=bns h;refine to (aIk (aC rfl) (.func _ _ call83) rfl rfl (bLe _ h4)) ?_;refine aP (zL ?_);obtain⟨s5,h6,h⟩:=bns h;refine rL ?_ bIk;refine aWy (cl:=true) (S:=(List bF)×Value) (S0:=(List bF)) (f:=161) (ps:=[8,9]) (λz9=>z9.1) (λz9=>[.box b1 0 (dF a),.box b2 0 [.lit z9.2],.arr z9.2 141 2 (z9.1.map dC)]) (bRh (λb:bF=>.agg (dC b)) (λc:List Int=>.d (.sl 1 (c.map aI))) _) (([]:List bF),(.slice none 0 0)) ([]:List bF) s5 (aQ [0,1,2] rfl rfl (le_refl _)) rfl call161 rfl (by decide) rfl rfl (λl J hy m0 h0=>bEw (S:=(List bF)) J l _ (λ_ _ _ _ _ hJ hq=>hy _ _ _ _ hJ ⟨_,_,rfl,hq⟩) a _ m0 h0 h6) ?_ ?_
 ·rintro⟨e7,w8⟩ _ _ ⟨b,c,rfl,h⟩;refine⟨rfl,?_⟩;refine aZ (aO ?_);refine bJ rfl (dE (zs:=[.j 0,.j 0]) (aC rfl) zeroValue141 rfl rfl) ?_;rintro _ ⟨o,rfl⟩;refine to (sst 3 rfl rfl sizeOf141 (dC b)) (au 13 ?_);refine tih h (λg h=>?_) (λg h=>?_)
  ·refine au 2 ?_;refine to (sla 3 (dC b) rfl rfl bLy) (to (nK (aC rfl) bAb rfl rfl (rows:=([b]).map dC) rfl (fH (f:=dC) λ_=>rfl) rfl (by decide)) ?_);obtain⟨j,m,h⟩:=bns h;refine bJ rfl (kI (i:=2) (aC rfl) bAb rfl rfl rfl (λ_=>rfl) m rfl) ?_;rintro _ ⟨e,rfl⟩;refine to (sst 1 rfl rfl sizeOf137 [.lit e]) ?_;refine lG ?_;obtain rfl:=sIn h;exact⟨(j,e),rfl,aQ [0,1,2] rfl rfl aRw⟩
  ·refine mC ?_;obtain rfl:=sIn h;exact⟨(e7,w8),rfl,aQ [0,1,2] rfl rfl aRw⟩
 ·rintro⟨e7,w8⟩ n;subst n;refine au 5 ?_;obtain rfl:=sIn h;refine kA (aVv (bAw (k:=2) (v:=.d (.sl 2 (e7.map dC))) (.d (yO 2 rfl (fH (f:=dC) λ_=>rfl))) (bMb))) ?_;exact rt

theorem aDw(e:List bF)(f:bF->Option Bool){r:Int}(a:Nat)(c:List AV)(j:∀args w,(callFunc a args).run Tryz.prog w=.ok (.enter a args) w)(l:∀(x0:bF) r,f x0=some r->Fn Tryz.prog a ([.agg (dC x0)]++c) (.b r))(h:kR e f=some r):Fn Tryz.prog 84 [.d (.sl 2 (e.map dC)),.fn a c] (.i r):=by
 unfold kR at h;refine oT [.tmp 4] func84 results84 ntmps84 ?_;refine au 12 ?_;refine eV (S:=Int) [0,1,7] (λs1=>[(8,.i s1)]) (λs1=>[]) (λk s1=>cZ e f (e.length:Int) k s1) (λ_=>rfl) (0) h (aQ [] rfl rfl (aL rfl (aY (ae rfl)))) ?_;rintro k2 g h;simp only[cZ] at h;refine au 5 ?_;refine tih h (λc3 h=>?_) (λc3 h=>?_)
 ·refine au 10 ?_;refine tm (.fn a c) (au 2 ?_);obtain⟨x4,h5,h⟩:=bns h;refine to (six rfl rfl bAb.of (dM dC h5)) (to (aHd (dC x4) rfl bLy) ?_);obtain⟨r6,h7,h⟩:=bns h;refine to (qS (aC rfl) (.clo _ _ _ _ j rfl) (aEl rfl) rfl (BVs.refl _ _) (l _ _ h7) rfl) ?_;refine aP ?_;refine tih h (λc8 h=>?_) (λc8 h=>?_)
  ·refine au 5 ?_;obtain rfl:=sIn h;exact rt
  ·refine mC ?_;refine au 4 ?_;exact⟨(w64 (g+1)),h,aQ [] rfl rfl (aL rfl (aY (ae rfl)))⟩
 ·refine dS ?_;refine .inl ⟨rfl,?_⟩;simp only[mV] at h;refine au 4 ?_;obtain rfl:=sIn h;exact rt

theorem rD(g:List bF)(i:bF->Option Bool){r:Bool}(a:Nat)(c:List AV)(e:∀args w,(callFunc a args).run Tryz.prog w=.ok (.enter a args) w)(f:∀(x0:bF) r,i x0=some r->Fn Tryz.prog a ([.agg (dC x0)]++c) (.b r))(h:eT g i=some r):Fn Tryz.prog 46 [.d (.sl 2 (g.map dC)),.fn a c] (.b r):=by
 unfold eT at h;refine oT [.tmp 4] func46 results46 ntmps46 ?_;refine au 7 ?_;refine tm (.fn a c) ?_;obtain⟨r1,h2,h⟩:=bns h;refine to (scr call84 (aDw _ _ a c e f h2)) (au 3 ?_);obtain rfl:=sIn h;exact rt

theorem bEy(a:bQ)(b:bF){r:iU}(h:aFn a b=some r):Fn Tryz.prog 49 [.agg (dF a),.agg (dC b)] (.agg (wC r)):=by
 unfold aFn at h;refine fnx xT {} [.cell 4 45] func49 results49 ntmps49 ?_;cases h;exact⟨rfl,rfl,rfl⟩

theorem aMc(c:Int)(b:Int)(a:Int){r:Int}(h:pM c b a=some r):Fn Tryz.prog 85 [.i c,.i b,.i a] (.i r):=by
 unfold pM at h;refine oT [.tmp 6] func85 results85 ntmps85 ?_;refine au 12 ?_;refine to (bUq [w64 (b-c),w64 (c-a)] (aC rfl) rfl rfl) ?_;refine au 2 ?_;obtain rfl:=sIn h;exact rt

theorem aKc(a:iU)(c:dZ){r:Bool}(h:sP a c=some r):Fn Tryz.prog 48 [.agg (wC a),.agg (nV c)] (.b r):=by
 unfold sP at h;refine fnx xT {} [.tmp 4] func48 results48 ntmps48 ?_;refine⟨by kernel_rfl,?_⟩;refine cl call85 (λ_=>aMc _ _ _) h λr3 h=>?_;refine cl call85 (λ_=>aMc _ _ _) h λr5 h=>?_;refine⟨by kernel_rfl,?_⟩;cases h;exact⟨rfl,rfl,rfl⟩

theorem bBq(a:bF)(c:bQ)(d:dZ){r:Bool}(h:yP a c d=some r):Fn Tryz.prog 47 [.agg (dC a),.cp (dF c),.cp (nV d)] (.b r):=by
 unfold yP at h;refine fnx xT {} [.tmp 4] func47 results47 ntmps47 ?_;refine⟨by kernel_rfl,?_⟩;refine cl call49 (λ_=>bEy _ _) h λr2 h=>?_;refine cl call48 (λ_=>aKc _ _) h λr4 h=>?_;refine⟨by kernel_rfl,?_⟩;cases h;exact⟨rfl,rfl,rfl⟩

theorem bEx(a:bQ)(b:bF){r:iU}(h:aFm a b=some r):Fn Tryz.prog 51 [.agg (dF a),.agg (dC b)] (.agg (wC r)):=by
 unfold aFm at h;refine fnx xT {} [.cell 4 45] func51 results51 ntmps51 ?_;cases h;exact⟨rfl,rfl,rfl⟩

theorem bBr(a:bF)(c:bQ)(d:dZ){r:Bool}(h:yQ a c d=some r):Fn Tryz.prog 50 [.agg (dC a),.cp (dF c),.cp (nV d)] (.b r):=by
 unfold yQ at h;refine fnx xT {} [.tmp 4] func50 results50 ntmps50 ?_;refine⟨by kernel_rfl,?_⟩;refine cl call51 (λ_=>bEx _ _) h λr2 h=>?_;refine cl call48 (λ_=>aKc _ _) h λr4 h=>?_;refine⟨by kernel_rfl,?_⟩;cases h;exact⟨rfl,rfl,rfl⟩

theorem aSa(a:bQ)(b:dZ){r:Int}(h:zT a b=some r):Fn Tryz.prog 30 [.agg (dF a),.agg (nV b)] (.i r):=by
 unfold zT at h;refine fnx xT {} [.tmp 4] func30 results30 ntmps30 ?_;refine cd call45 (λ_=>bBs _) h λr3 h=>?_;refine ol ?_;refine br h (λh=>?_) λh=>?_
 ·cases h;exact⟨rfl,rfl,rfl⟩
 ·refine cl call46 (λ_=>rD _ _ 47 (Z12 a b) call47 (λ_ _ h=>bBq _ _ _ h)) h λr6 h=>?_;refine br h (λh=>?_) λh=>?_
  ·cases h;exact⟨rfl,rfl,rfl⟩
  ·refine cl call46 (λ_=>rD _ _ 50 (Z12 a b) call50 (λ_ _ h=>bBr _ _ _ h)) h λr9 h=>?_;refine br h (λh=>?_) λh=>?_
   ·cases h;exact⟨rfl,rfl,rfl⟩
   ·cases h;exact⟨rfl,rfl,rfl⟩

theorem aRy(a:bQ)(b:dZ){r:Int×Int}(h:wE a b=some r):Fn Tryz.prog 10 [.agg (dF a),.agg (nV b)] (.tup [.i r.1,.i r.2]):=by
 unfold wE at h;refine fnx xT {} [.tmp 4,.tmp 5] func10 results10 ntmps10 ?_;refine cl call29 (λ_=>aPy _ _) h λr3 h=>?_;refine br h (λh=>?_) λh=>?_
 ·cases h;exact⟨rfl,_,_,rfl,rfl,rfl,rfl,rfl⟩
 ·refine cl call30 (λ_=>aSa _ _) h λr5 h=>?_;refine br h (λh=>?_) λh=>?_
  ·cases h;exact⟨rfl,_,_,rfl,rfl,rfl,rfl,rfl⟩
  ·cases h;exact⟨rfl,_,_,rfl,rfl,rfl,rfl,rfl⟩

end Go.Am
