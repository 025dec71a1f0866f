/- The functions compute what the shallow ones say: printed by program. -/
import Derived.Test.YtiohgpipanopaaaGreatTlSh
import Derived.Test.YtiohgpipanopaaaGreatAmFam2
import Derived.Test.YtiohgpipanopaaaGreatAmRange
import Derived.Test.YtiohgpipanopaaaGreatTlShelf
import Derived.Test.YtiohgpipanopaaaGreatAmPlain
import Derived.Test.YtiohgpipanopaaaGreatAmRangeC
import Derived.Test.YtiohgpipanopaaaGreatAmSortF0
import Derived.Test.YtiohgpipanopaaaGreatBbDet
import Derived.Test.YtiohgpipanopaaaGreatChecked
import Derived.Test.YtiohgpipanopaaaGreatAmX1
import Derived.KernelRfl
import Derived.Test.YtiohgpipanopaaaGreatAmX8
namespace Go.Am
open Go.Proofs
open Go.Proofs.Tryz
set_option maxRecDepth 100000
set_option maxHeartbeats 40000000

abbrev D.j(n:Int):D:=.lit (.int .i64 n)
abbrev D.k(b:Bool):D:=.lit (.bool b)
abbrev VI(n:Int):Value:=.int .i64 n
abbrev Z0:List D:=[.lit .nilFunc]
abbrev Z1(p0:dR)(p1:Nat):List D:=[.sl 1 (p0.Program.Days.map bC),.j p0.Program.Rest,.sl 6 (p0.Program.Jobs.map bD),.j p0.days,fN 3 aM p0.old,.lit (.map (some p1))]
abbrev Z2:=aJ.mk ([]:List Int) ([]:List (List Int))
abbrev Z3(p0:aA)(p1:Int):=aA.mk (w64 (p0.round-1)) (w64 ((w64 (2*p0.place))+p1))
abbrev Z4:List D:=[.sl 1 ((([]:List Int)).map aD),.sl 1 ((([]:List (List Int))).map oJ)]
abbrev Z5(p0:aP):AV:=.cp [.j p0.Tree.Rounds,.sl 1 (p0.Tree.Slots.map aD),.sl 1 (p0.players.map aD),.mp false (p0.won.map λp:aA×Int=>((λa:aA=>Value.agg ((aC a).map bA).toArray) p.1,aD p.2))]
abbrev Z6(p0:Nat)(p1:Nat)(p2:aF)(p3:Value)(p4:Nat)(p5:List Int)(p6:Nat)(p7:List (aB×Int))(p8:List Nat)(p9:Nat):List MO:=[.box p0 p1 [.j p2.Rounds,.sl 1 (p2.Slots.map aD),.lit p3,.lit (.map (some p4))],.arr p3 3 1 (p5.map aD),.map p6 (p7.map λp:aB×Int=>((λa:aB=>Value.agg ((aK a).map bA).toArray) p.1,(λv:Int=>AV.i v) p.2)) p8 p9]
abbrev Z7(p0:List aB):D:=.sl 5 (p0.map aK)
abbrev Z8:=aT (aH.mk (bW.mk 0 (A3.mk 0 0 0) (A6.mk 0 0 0 0 0 0)) 0 0)
abbrev Z9(p0:aF):=p0.Slots.map aD
abbrev Z10:List D:=[.lit (.int .u64 0),.lit (.int .u64 0),.lit (.int .u32 0),.lit (.int .u8 0),.lit (.int .u8 0),.lit (.int .u8 0),.lit (.int .u8 0),.lit .nilFunc,.lit (.pointer none),.lit (.int .i32 0),.lit (.int .i32 0)]
abbrev Z11:=([]:List Int).map aD
abbrev Z12:List D:=[.lit (.pointer none)]
abbrev Z13(p0:aQ):=p0.Persons.map bL
abbrev Z14:=List Int
abbrev Z15(p0:List Int):D:=.sl 1 (p0.map aD)
abbrev Z16(p0:Nat):List D:=[.lit (yv p0)]
abbrev Z17(p0:aF)(p1:List aB):List AV:=[.agg (aV p0),.d (Z7 p1)]
abbrev Z18(p0:aP):=p0.Tree.Slots.map aD
abbrev Z19(p0:List Int):List D:=[.sl 1 (p0.map aD)]
abbrev Z20(p0:aQ):=p0.Lots.map aD
abbrev Z21(p0:aQ):=w64 (p0.Size-(p0.Persons.length:Int))
abbrev Z22:=(([]:List Int)).map aD
abbrev Z23(p0:aF):=w64 (1*2^(min p0.Rounds.toNat 64))
abbrev Z24:List D:=[.sl 2 [],.j 0,.j 0,.j 0,.j 0,.j 0,.j 0,.j 0,.j 0,.j 0,.sl 7 [],.k false]
abbrev Z25(p0:aF)(p1:List aB)(p2:Int)(p3:Int):List AV:=[.agg (aV p0),.d (Z7 p1),.i p2,.i p3]
abbrev Z26(p0:aI):=p0.Jobs.map bD
abbrev Z27(p0:List aG):D:=.sl 3 (p0.map aM)
abbrev Z28(p0:aP):=p0.players.map aD
abbrev Z29:List D:=[.sl 1 [],.j 0,.sl 6 [],.j 0,.sl 3 [],.lit (.map none)]
abbrev Z30:List D:=[.lit (.slice none 0 0)]
abbrev Z31:List D:=[.sl 2 [],.j 0,.j 0,.j 0,.j 0,.j 0,.j 0,.j 0,.j 0]
abbrev Z32:List MO:=[.arr (.slice none 0 0) 3 1 Z11]
abbrev Z33:List D:=[.lit (.map none)]
abbrev Z34:=aB.mk 0 0 0 0 0
abbrev Z35:=List (aH×Int)
abbrev Z36:List D:=[.lit (.int .u64 0)]
abbrev Z37:List D:=[.sl 1 [],.sl 1 []]
abbrev Z38:AV:=.b (false)
abbrev Z39(p0:Nat):D:=.lit (.map (some p0))
abbrev Z40:List D:=[.lit (.int .u8 0)]
abbrev Z41:=(([]:List aG)).map aM
abbrev Z42:=bW.mk 0 (A3.mk 0 0 0) (A6.mk 0 0 0 0 0 0)
abbrev Z43:D:=.lit (.slice none 0 0)
theorem mix:Tryz.prog.follows .mixedOrders=true:=Checked.mixed Tryz.checked

def xT:TT Tryz.prog:=⟨.n (.n (.n (.n (.n (.n (.n (.n (.n .l 1 (⟨1,8⟩,_) (ti Tryz.t1 underlying1) .l) 2 (⟨1,8⟩,_) (ti Tryz.t2 underlying2) .l) 3 (⟨1,8⟩,_) (ti Tryz.t3 underlying3) (.n .l 4 (⟨1,1⟩,_) (ti Tryz.t4 underlying4) .l)) 5 (⟨1,1⟩,_) (ti Tryz.t5 underlying5) (.n (.n (.n .l 6 (⟨1,1⟩,_) (ti Tryz.t6 underlying6) .l) 7 (⟨4,24⟩,_) (ti Tryz.t7 underlying7) .l) 8 (⟨4,24⟩,_) (ti Tryz.t8 underlying8) (.n .l 9 (⟨1,16⟩,_) (ti Tryz.t9 underlying9) .l))) 10 (⟨1,16⟩,_) (ti Tryz.t10 underlying10) (.n (.n (.n (.n .l 11 (⟨1,16⟩,_) (ti Tryz.t11 underlying11) .l) 12 (⟨1,8⟩,_) (ti Tryz.t12 underlying12) .l) 13 (⟨2,24⟩,_) (ti Tryz.t13 underlying13) (.n .l 14 (⟨2,24⟩,_) (ti Tryz.t14 underlying14) .l)) 15 (⟨1,8⟩,_) (ti Tryz.t15 underlying15) (.n (.n (.n .l 16 (⟨1,8⟩,_) (ti Tryz.t16 underlying16) .l) 17 (⟨1,8⟩,_) (ti Tryz.t17 underlying17) .l) 18 (⟨1,8⟩,_) (ti Tryz.t18 underlying18) (.n .l 19 (⟨1,8⟩,_) (ti Tryz.t19 underlying19) .l)))) 21 (⟨1,4⟩,_) (ti Tryz.t21 underlying21) (.n (.n (.n (.n (.n .l 22 (⟨1,24⟩,_) (ti Tryz.t22 underlying22) .l) 23 (⟨1,24⟩,_) (ti Tryz.t23 underlying23) .l) 24 (⟨4,64⟩,_) (ti Tryz.t24 underlying24) (.n .l 25 (⟨4,64⟩,_) (ti Tryz.t25 underlying25) .l)) 26 (⟨1,24⟩,_) (ti Tryz.t26 underlying26) (.n (.n (.n .l 27 (⟨1,24⟩,_) (ti Tryz.t27 underlying27) .l) 28 (⟨3,56⟩,_) (ti Tryz.t28 underlying28) .l) 29 (⟨3,56⟩,_) (ti Tryz.t29 underlying29) (.n .l 30 (⟨1,8⟩,_) (ti Tryz.t30 underlying30) .l))) 31 (⟨1,8⟩,_) (ti Tryz.t31 underlying31) (.n (.n (.n (.n .l 32 (⟨1,8⟩,_) (ti Tryz.t32 underlying32) .l) 33 (⟨1,8⟩,_) (ti Tryz.t33 underlying33) .l) 35 (⟨1,8⟩,_) (ti Tryz.t35 underlying35) (.n .l 36 (⟨1,8⟩,_) (ti Tryz.t36 underlying36) .l)) 37 (⟨2,32⟩,_) (ti Tryz.t37 underlying37) (.n (.n .l 38 (⟨2,32⟩,_) (ti Tryz.t38 underlying38) .l) 39 (⟨1,8⟩,_) (ti Tryz.t39 underlying39) (.n .l 41 (⟨1,8⟩,_) (ti Tryz.t41 underlying41) .l))))) 42 (⟨3,24⟩,_) (ti Tryz.t42 underlying42) (.n (.n (.n (.n (.n (.n .l 43 (⟨3,24⟩,_) (ti Tryz.t43 underlying43) .l) 44 (⟨1,24⟩,_) (ti Tryz.t44 underlying44) .l) 45 (⟨1,24⟩,_) (ti Tryz.t45 underlying45) (.n .l 47 (⟨1,8⟩,_) (ti Tryz.t47 underlying47) .l)) 48 (⟨4,32⟩,_) (ti Tryz.t48 underlying48) (.n (.n (.n .l 49 (⟨4,32⟩,_) (ti Tryz.t49 underlying49) .l) 50 (⟨3,56⟩,_) (ti Tryz.t50 underlying50) .l) 51 (⟨3,56⟩,_) (ti Tryz.t51 underlying51) (.n .l 52 (⟨1,8⟩,_) (ti Tryz.t52 underlying52) .l))) 53 (⟨1,24⟩,_) (ti Tryz.t53 underlying53) (.n (.n (.n (.n .l 55 (⟨1,8⟩,_) (ti Tryz.t55 underlying55) .l) 56 (⟨1,8⟩,_) (ti Tryz.t56 underlying56) .l) 57 (⟨3,24⟩,_) (ti Tryz.t57 underlying57) (.n .l 58 (⟨3,24⟩,_) (ti Tryz.t58 underlying58) .l)) 59 (⟨1,24⟩,_) (ti Tryz.t59 underlying59) (.n (.n (.n .l 61 (⟨1,8⟩,_) (ti Tryz.t61 underlying61) .l) 62 (⟨2,16⟩,_) (ti Tryz.t62 underlying62) .l) 63 (⟨2,16⟩,_) (ti Tryz.t63 underlying63) (.n .l 64 (⟨6,80⟩,_) (ti Tryz.t64 underlying64) .l)))) 65 (⟨6,80⟩,_) (ti Tryz.t65 underlying65) (.n (.n (.n (.n (.n .l 66 (⟨1,8⟩,_) (ti Tryz.t66 underlying66) .l) 67 (⟨1,8⟩,_) (ti Tryz.t67 underlying67) .l) 68 (⟨1,8⟩,_) (ti Tryz.t68 underlying68) (.n .l 70 (⟨1,8⟩,_) (ti Tryz.t70 underlying70) .l)) 71 (⟨10,80⟩,_) (ti Tryz.t71 underlying71) (.n (.n (.n .l 72 (⟨10,80⟩,_) (ti Tryz.t72 underlying72) .l) 73 (⟨1,24⟩,_) (ti Tryz.t73 underlying73) .l) 74 (⟨2,48⟩,_) (ti Tryz.t74 underlying74) (.n .l 75 (⟨2,48⟩,_) (ti Tryz.t75 underlying75) .l))) 76 (⟨1,24⟩,_) (ti Tryz.t76 underlying76) (.n (.n (.n (.n .l 77 (⟨2,16⟩,_) (ti Tryz.t77 underlying77) .l) 78 (⟨2,16⟩,_) (ti Tryz.t78 underlying78) .l) 79 (⟨5,56⟩,_) (ti Tryz.t79 underlying79) (.n .l 80 (⟨5,56⟩,_) (ti Tryz.t80 underlying80) .l)) 81 (⟨9,88⟩,_) (ti Tryz.t81 underlying81) (.n (.n .l 82 (⟨9,88⟩,_) (ti Tryz.t82 underlying82) .l) 83 (⟨1,24⟩,_) (ti Tryz.t83 underlying83) (.n .l 84 (⟨12,128⟩,_) (ti Tryz.t84 underlying84) .l)))))) 85 (⟨12,128⟩,_) (ti Tryz.t85 underlying85) (.n (.n (.n (.n (.n (.n (.n .l 87 (⟨1,8⟩,_) (ti Tryz.t87 underlying87) .l) 88 (⟨1,24⟩,_) (ti Tryz.t88 underlying88) .l) 89 (⟨1,8⟩,_) (ti Tryz.t89 underlying89) (.n .l 91 (⟨1,8⟩,_) (ti Tryz.t91 underlying91) .l)) 93 (⟨1,8⟩,_) (ti Tryz.t93 underlying93) (.n (.n (.n .l 94 (⟨5,40⟩,_) (ti Tryz.t94 underlying94) .l) 95 (⟨5,40⟩,_) (ti Tryz.t95 underlying95) .l) 96 (⟨1,8⟩,_) (ti Tryz.t96 underlying96) (.n .l 97 (⟨1,8⟩,_) (ti Tryz.t97 underlying97) .l))) 98 (⟨3,72⟩,_) (ti Tryz.t98 underlying98) (.n (.n (.n (.n .l 99 (⟨3,72⟩,_) (ti Tryz.t99 underlying99) .l) 100 (⟨1,8⟩,_) (ti Tryz.t100 underlying100) .l) 101 (⟨1,8⟩,_) (ti Tryz.t101 underlying101) (.n .l 102 (⟨1,8⟩,_) (ti Tryz.t102 underlying102) .l)) 103 (⟨1,8⟩,_) (ti Tryz.t103 underlying103) (.n (.n (.n .l 104 (⟨1,8⟩,_) (ti Tryz.t104 underlying104) .l) 105 (⟨3,40⟩,_) (ti Tryz.t105 underlying105) .l) 106 (⟨3,40⟩,_) (ti Tryz.t106 underlying106) (.n .l 107 (⟨1,8⟩,_) (ti Tryz.t107 underlying107) .l)))) 108 (⟨1,24⟩,_) (ti Tryz.t108 underlying108) (.n (.n (.n (.n (.n .l 109 (⟨1,24⟩,_) (ti Tryz.t109 underlying109) .l) 110 (⟨1,24⟩,_) (ti Tryz.t110 underlying110) .l) 111 (⟨1,24⟩,_) (ti Tryz.t111 underlying111) (.n .l 112 (⟨9,184⟩,_) (ti Tryz.t112 underlying112) .l)) 113 (⟨9,184⟩,_) (ti Tryz.t113 underlying113) (.n (.n (.n .l 114 (⟨1,8⟩,_) (ti Tryz.t114 underlying114) .l) 115 (⟨1,8⟩,_) (ti Tryz.t115 underlying115) .l) 116 (⟨1,8⟩,_) (ti Tryz.t116 underlying116) (.n .l 117 (⟨1,8⟩,_) (ti Tryz.t117 underlying117) .l))) 118 (⟨1,8⟩,_) (ti Tryz.t118 underlying118) (.n (.n (.n (.n .l 119 (⟨1,8⟩,_) (ti Tryz.t119 underlying119) .l) 120 (⟨1,8⟩,_) (ti Tryz.t120 underlying120) .l) 121 (⟨1,8⟩,_) (ti Tryz.t121 underlying121) (.n .l 123 (⟨1,8⟩,_) (ti Tryz.t123 underlying123) .l)) 125 (⟨1,8⟩,_) (ti Tryz.t125 underlying125) (.n (.n .l 127 (⟨1,8⟩,_) (ti Tryz.t127 underlying127) .l) 129 (⟨1,8⟩,_) (ti Tryz.t129 underlying129) (.n .l 130 (⟨1,8⟩,_) (ti Tryz.t130 underlying130) .l))))) 132 (⟨1,8⟩,_) (ti Tryz.t132 underlying132) (.n (.n (.n (.n (.n (.n .l 133 (⟨1,8⟩,_) (ti Tryz.t133 underlying133) .l) 135 (⟨1,8⟩,_) (ti Tryz.t135 underlying135) .l) 137 (⟨1,8⟩,_) (ti Tryz.t137 underlying137) (.n .l 138 (⟨1,8⟩,_) (ti Tryz.t138 underlying138) .l)) 139 (⟨1,8⟩,_) (ti Tryz.t139 underlying139) (.n (.n (.n .l 140 (⟨4,64⟩,_) (ti Tryz.t140 underlying140) .l) 141 (⟨4,64⟩,_) (ti Tryz.t141 underlying141) .l) 142 (⟨2,16⟩,_) (ti Tryz.t142 underlying142) (.n .l 143 (⟨2,16⟩,_) (ti Tryz.t143 underlying143) .l))) 144 (⟨1,8⟩,_) (ti Tryz.t144 underlying144) (.n (.n (.n (.n .l 145 (⟨1,8⟩,_) (ti Tryz.t145 underlying145) .l) 146 (⟨3,24⟩,_) (ti Tryz.t146 underlying146) .l) 147 (⟨3,24⟩,_) (ti Tryz.t147 underlying147) (.n .l 148 (⟨1,8⟩,_) (ti Tryz.t148 underlying148) .l)) 149 (⟨1,8⟩,_) (ti Tryz.t149 underlying149) (.n (.n (.n .l 150 (⟨1,8⟩,_) (ti Tryz.t150 underlying150) .l) 151 (⟨1,8⟩,_) (ti Tryz.t151 underlying151) .l) 153 (⟨1,8⟩,_) (ti Tryz.t153 underlying153) (.n .l 154 (⟨1,8⟩,_) (ti Tryz.t154 underlying154) .l)))) 156 (⟨1,8⟩,_) (ti Tryz.t156 underlying156) (.n (.n (.n (.n (.n .l 157 (⟨1,8⟩,_) (ti Tryz.t157 underlying157) .l) 159 (⟨1,8⟩,_) (ti Tryz.t159 underlying159) .l) 160 (⟨1,8⟩,_) (ti Tryz.t160 underlying160) (.n .l 161 (⟨1,8⟩,_) (ti Tryz.t161 underlying161) .l)) 162 (⟨1,8⟩,_) (ti Tryz.t162 underlying162) (.n (.n (.n .l 163 (⟨1,8⟩,_) (ti Tryz.t163 underlying163) .l) 164 (⟨1,8⟩,_) (ti Tryz.t164 underlying164) .l) 165 (⟨1,8⟩,_) (ti Tryz.t165 underlying165) (.n .l 167 (⟨1,8⟩,_) (ti Tryz.t167 underlying167) .l))) 169 (⟨1,8⟩,_) (ti Tryz.t169 underlying169) (.n (.n (.n (.n .l 170 (⟨10,80⟩,_) (ti Tryz.t170 underlying170) .l) 171 (⟨10,80⟩,_) (ti Tryz.t171 underlying171) .l) 172 (⟨1,24⟩,_) (ti Tryz.t172 underlying172) (.n .l 173 (⟨24,240⟩,_) (ti Tryz.t173 underlying173) .l)) 174 (⟨24,240⟩,_) (ti Tryz.t174 underlying174) (.n (.n .l 176 (⟨1,8⟩,_) (ti Tryz.t176 underlying176) .l) 177 (⟨1,8⟩,_) (ti Tryz.t177 underlying177) (.n .l 178 (⟨1,8⟩,_) (ti Tryz.t178 underlying178) .l))))))) 179 (⟨1,8⟩,_) (ti Tryz.t179 underlying179) (.n (.n (.n (.n (.n (.n (.n (.n .l 180 (⟨1,8⟩,_) (ti Tryz.t180 underlying180) .l) 181 (⟨1,8⟩,_) (ti Tryz.t181 underlying181) .l) 182 (⟨1,8⟩,_) (ti Tryz.t182 underlying182) (.n .l 183 (⟨3,24⟩,_) (ti Tryz.t183 underlying183) .l)) 184 (⟨3,24⟩,_) (ti Tryz.t184 underlying184) (.n (.n (.n .l 185 (⟨1,8⟩,_) (ti Tryz.t185 underlying185) .l) 186 (⟨1,8⟩,_) (ti Tryz.t186 underlying186) .l) 188 (⟨1,8⟩,_) (ti Tryz.t188 underlying188) (.n .l 189 (⟨1,8⟩,_) (ti Tryz.t189 underlying189) .l))) 190 (⟨1,8⟩,_) (ti Tryz.t190 underlying190) (.n (.n (.n (.n .l 191 (⟨1,8⟩,_) (ti Tryz.t191 underlying191) .l) 192 (⟨1,8⟩,_) (ti Tryz.t192 underlying192) .l) 193 (⟨1,8⟩,_) (ti Tryz.t193 underlying193) (.n .l 194 (⟨1,8⟩,_) (ti Tryz.t194 underlying194) .l)) 195 (⟨1,8⟩,_) (ti Tryz.t195 underlying195) (.n (.n (.n .l 197 (⟨1,8⟩,_) (ti Tryz.t197 underlying197) .l) 198 (⟨1,8⟩,_) (ti Tryz.t198 underlying198) .l) 199 (⟨1,8⟩,_) (ti Tryz.t199 underlying199) (.n .l 200 (⟨2,48⟩,_) (ti Tryz.t200 underlying200) .l)))) 201 (⟨2,48⟩,_) (ti Tryz.t201 underlying201) (.n (.n (.n (.n (.n .l 203 (⟨1,8⟩,_) (ti Tryz.t203 underlying203) .l) 204 (⟨1,8⟩,_) (ti Tryz.t204 underlying204) .l) 205 (⟨1,8⟩,_) (ti Tryz.t205 underlying205) (.n .l 206 (⟨1,8⟩,_) (ti Tryz.t206 underlying206) .l)) 208 (⟨1,8⟩,_) (ti Tryz.t208 underlying208) (.n (.n (.n .l 209 (⟨1,8⟩,_) (ti Tryz.t209 underlying209) .l) 210 (⟨1,8⟩,_) (ti Tryz.t210 underlying210) .l) 211 (⟨1,8⟩,_) (ti Tryz.t211 underlying211) (.n .l 212 (⟨3,24⟩,_) (ti Tryz.t212 underlying212) .l))) 213 (⟨6,48⟩,_) (ti Tryz.t213 underlying213) (.n (.n (.n (.n .l 214 (⟨10,80⟩,_) (ti Tryz.t214 underlying214) .l) 215 (⟨10,80⟩,_) (ti Tryz.t215 underlying215) .l) 216 (⟨1,8⟩,_) (ti Tryz.t216 underlying216) (.n .l 218 (⟨1,8⟩,_) (ti Tryz.t218 underlying218) .l)) 219 (⟨1,8⟩,_) (ti Tryz.t219 underlying219) (.n (.n .l 220 (⟨1,8⟩,_) (ti Tryz.t220 underlying220) .l) 222 (⟨1,8⟩,_) (ti Tryz.t222 underlying222) (.n .l 223 (⟨1,8⟩,_) (ti Tryz.t223 underlying223) .l))))) 224 (⟨1,8⟩,_) (ti Tryz.t224 underlying224) (.n (.n (.n (.n (.n (.n .l 225 (⟨1,8⟩,_) (ti Tryz.t225 underlying225) .l) 226 (⟨1,8⟩,_) (ti Tryz.t226 underlying226) .l) 227 (⟨7,56⟩,_) (ti Tryz.t227 underlying227) (.n .l 228 (⟨7,56⟩,_) (ti Tryz.t228 underlying228) .l)) 229 (⟨1,8⟩,_) (ti Tryz.t229 underlying229) (.n (.n (.n .l 230 (⟨1,8⟩,_) (ti Tryz.t230 underlying230) .l) 231 (⟨1,8⟩,_) (ti Tryz.t231 underlying231) .l) 232 (⟨1,8⟩,_) (ti Tryz.t232 underlying232) (.n .l 233 (⟨1,8⟩,_) (ti Tryz.t233 underlying233) .l))) 234 (⟨1,8⟩,_) (ti Tryz.t234 underlying234) (.n (.n (.n (.n .l 235 (⟨2,16⟩,_) (ti Tryz.t235 underlying235) .l) 236 (⟨2,16⟩,_) (ti Tryz.t236 underlying236) .l) 237 (⟨3,24⟩,_) (ti Tryz.t237 underlying237) (.n .l 238 (⟨3,24⟩,_) (ti Tryz.t238 underlying238) .l)) 239 (⟨4,32⟩,_) (ti Tryz.t239 underlying239) (.n (.n (.n .l 240 (⟨4,32⟩,_) (ti Tryz.t240 underlying240) .l) 241 (⟨1,8⟩,_) (ti Tryz.t241 underlying241) .l) 242 (⟨1,8⟩,_) (ti Tryz.t242 underlying242) (.n .l 243 (⟨1,8⟩,_) (ti Tryz.t243 underlying243) .l)))) 244 (⟨1,8⟩,_) (ti Tryz.t244 underlying244) (.n (.n (.n (.n (.n .l 245 (⟨1,8⟩,_) (ti Tryz.t245 underlying245) .l) 246 (⟨1,8⟩,_) (ti Tryz.t246 underlying246) .l) 247 (⟨1,8⟩,_) (ti Tryz.t247 underlying247) (.n .l 248 (⟨1,8⟩,_) (ti Tryz.t248 underlying248) .l)) 249 (⟨1,8⟩,_) (ti Tryz.t249 underlying249) (.n (.n (.n .l 251 (⟨1,8⟩,_) (ti Tryz.t251 underlying251) .l) 252 (⟨1,8⟩,_) (ti Tryz.t252 underlying252) .l) 253 (⟨1,8⟩,_) (ti Tryz.t253 underlying253) (.n .l 254 (⟨1,8⟩,_) (ti Tryz.t254 underlying254) .l))) 255 (⟨1,8⟩,_) (ti Tryz.t255 underlying255) (.n (.n (.n (.n .l 256 (⟨1,8⟩,_) (ti Tryz.t256 underlying256) .l) 257 (⟨1,8⟩,_) (ti Tryz.t257 underlying257) .l) 258 (⟨1,8⟩,_) (ti Tryz.t258 underlying258) (.n .l 259 (⟨1,8⟩,_) (ti Tryz.t259 underlying259) .l)) 260 (⟨1,8⟩,_) (ti Tryz.t260 underlying260) (.n (.n .l 261 (⟨1,8⟩,_) (ti Tryz.t261 underlying261) .l) 263 (⟨1,8⟩,_) (ti Tryz.t263 underlying263) (.n .l 264 (⟨1,8⟩,_) (ti Tryz.t264 underlying264) .l)))))) 265 (⟨1,8⟩,_) (ti Tryz.t265 underlying265) (.n (.n (.n (.n (.n (.n (.n .l 266 (⟨1,8⟩,_) (ti Tryz.t266 underlying266) .l) 267 (⟨1,8⟩,_) (ti Tryz.t267 underlying267) .l) 268 (⟨1,8⟩,_) (ti Tryz.t268 underlying268) (.n .l 269 (⟨1,8⟩,_) (ti Tryz.t269 underlying269) .l)) 270 (⟨1,8⟩,_) (ti Tryz.t270 underlying270) (.n (.n (.n .l 271 (⟨1,8⟩,_) (ti Tryz.t271 underlying271) .l) 272 (⟨6,96⟩,_) (ti Tryz.t272 underlying272) .l) 273 (⟨6,96⟩,_) (ti Tryz.t273 underlying273) (.n .l 274 (⟨1,8⟩,_) (ti Tryz.t274 underlying274) .l))) 275 (⟨12,96⟩,_) (ti Tryz.t275 underlying275) (.n (.n (.n (.n .l 276 (⟨12,96⟩,_) (ti Tryz.t276 underlying276) .l) 277 (⟨1,8⟩,_) (ti Tryz.t277 underlying277) .l) 278 (⟨1,8⟩,_) (ti Tryz.t278 underlying278) (.n .l 279 (⟨1,8⟩,_) (ti Tryz.t279 underlying279) .l)) 280 (⟨1,8⟩,_) (ti Tryz.t280 underlying280) (.n (.n (.n .l 281 (⟨1,8⟩,_) (ti Tryz.t281 underlying281) .l) 282 (⟨2,16⟩,_) (ti Tryz.t282 underlying282) .l) 283 (⟨2,16⟩,_) (ti Tryz.t283 underlying283) (.n .l 284 (⟨1,8⟩,_) (ti Tryz.t284 underlying284) .l)))) 285 (⟨1,8⟩,_) (ti Tryz.t285 underlying285) (.n (.n (.n (.n (.n .l 286 (⟨1,8⟩,_) (ti Tryz.t286 underlying286) .l) 287 (⟨1,8⟩,_) (ti Tryz.t287 underlying287) .l) 288 (⟨1,8⟩,_) (ti Tryz.t288 underlying288) (.n .l 289 (⟨1,8⟩,_) (ti Tryz.t289 underlying289) .l)) 291 (⟨1,8⟩,_) (ti Tryz.t291 underlying291) (.n (.n (.n .l 292 (⟨1,8⟩,_) (ti Tryz.t292 underlying292) .l) 293 (⟨1,8⟩,_) (ti Tryz.t293 underlying293) .l) 294 (⟨1,8⟩,_) (ti Tryz.t294 underlying294) (.n .l 295 (⟨1,8⟩,_) (ti Tryz.t295 underlying295) .l))) 296 (⟨1,8⟩,_) (ti Tryz.t296 underlying296) (.n (.n (.n (.n .l 298 (⟨1,8⟩,_) (ti Tryz.t298 underlying298) .l) 299 (⟨1,8⟩,_) (ti Tryz.t299 underlying299) .l) 300 (⟨1,8⟩,_) (ti Tryz.t300 underlying300) (.n .l 301 (⟨1,8⟩,_) (ti Tryz.t301 underlying301) .l)) 302 (⟨1,8⟩,_) (ti Tryz.t302 underlying302) (.n (.n .l 303 (⟨1,4⟩,_) (ti Tryz.t303 underlying303) .l) 304 (⟨1,8⟩,_) (ti Tryz.t304 underlying304) (.n .l 305 (⟨1,8⟩,_) (ti Tryz.t305 underlying305) .l))))) 306 (⟨1,8⟩,_) (ti Tryz.t306 underlying306) (.n (.n (.n (.n (.n (.n .l 307 (⟨1,8⟩,_) (ti Tryz.t307 underlying307) .l) 308 (⟨1,8⟩,_) (ti Tryz.t308 underlying308) .l) 309 (⟨1,8⟩,_) (ti Tryz.t309 underlying309) (.n .l 310 (⟨1,8⟩,_) (ti Tryz.t310 underlying310) .l)) 311 (⟨1,8⟩,_) (ti Tryz.t311 underlying311) (.n (.n (.n .l 312 (⟨1,8⟩,_) (ti Tryz.t312 underlying312) .l) 313 (⟨1,8⟩,_) (ti Tryz.t313 underlying313) .l) 314 (⟨1,8⟩,_) (ti Tryz.t314 underlying314) (.n .l 315 (⟨1,8⟩,_) (ti Tryz.t315 underlying315) .l))) 316 (⟨1,8⟩,_) (ti Tryz.t316 underlying316) (.n (.n (.n (.n .l 317 (⟨1,8⟩,_) (ti Tryz.t317 underlying317) .l) 318 (⟨1,8⟩,_) (ti Tryz.t318 underlying318) .l) 319 (⟨1,8⟩,_) (ti Tryz.t319 underlying319) (.n .l 320 (⟨1,8⟩,_) (ti Tryz.t320 underlying320) .l)) 321 (⟨1,8⟩,_) (ti Tryz.t321 underlying321) (.n (.n (.n .l 322 (⟨1,8⟩,_) (ti Tryz.t322 underlying322) .l) 323 (⟨1,8⟩,_) (ti Tryz.t323 underlying323) .l) 324 (⟨1,8⟩,_) (ti Tryz.t324 underlying324) (.n .l 325 (⟨1,8⟩,_) (ti Tryz.t325 underlying325) .l)))) 326 (⟨1,8⟩,_) (ti Tryz.t326 underlying326) (.n (.n (.n (.n (.n .l 327 (⟨1,8⟩,_) (ti Tryz.t327 underlying327) .l) 328 (⟨1,8⟩,_) (ti Tryz.t328 underlying328) .l) 329 (⟨1,8⟩,_) (ti Tryz.t329 underlying329) (.n .l 330 (⟨1,8⟩,_) (ti Tryz.t330 underlying330) .l)) 331 (⟨1,8⟩,_) (ti Tryz.t331 underlying331) (.n (.n (.n .l 332 (⟨4,40⟩,_) (ti Tryz.t332 underlying332) .l) 333 (⟨4,40⟩,_) (ti Tryz.t333 underlying333) .l) 334 (⟨0,0⟩,_) (ti Tryz.t334 underlying334) (.n .l 335 (⟨0,0⟩,_) (ti Tryz.t335 underlying335) .l))) 336 (⟨0,0⟩,_) (ti Tryz.t336 underlying336) (.n (.n (.n (.n .l 337 (⟨1,1⟩,_) (ti Tryz.t337 underlying337) .l) 338 (⟨1,1⟩,_) (ti Tryz.t338 underlying338) .l) 339 (⟨1,8⟩,_) (ti Tryz.t339 underlying339) (.n .l 340 (⟨1,8⟩,_) (ti Tryz.t340 underlying340) .l)) 341 (⟨1,4⟩,_) (ti Tryz.t341 underlying341) (.n (.n .l 342 (⟨1,4⟩,_) (ti Tryz.t342 underlying342) .l) 343 (⟨11,48⟩,_) (ti Tryz.t343 underlying343) (.n .l 344 (⟨11,48⟩,_) (ti Tryz.t344 underlying344) .l))))))),
 .n (.n (.n (.n (.n (.n (.n (.n (.n .l 1 Z0 ⟨_,zeroValue1,rfl,rfl⟩ .l) 2 [.j 0] ⟨_,zeroValue2,rfl,rfl⟩ .l) 3 [.j 0] ⟨_,zeroValue3,rfl,rfl⟩ (.n .l 4 [.k false] ⟨_,zeroValue4,rfl,rfl⟩ .l)) 5 Z40 ⟨_,zeroValue5,rfl,rfl⟩ (.n (.n (.n .l 6 Z40 ⟨_,zeroValue6,rfl,rfl⟩ .l) 7 [.j 0,.j 0,.k false,.lit (.int .u8 0)] ⟨_,zeroValue7,rfl,rfl⟩ .l) 8 [.j 0,.j 0,.k false,.lit (.int .u8 0)] ⟨_,zeroValue8,rfl,rfl⟩ (.n .l 9 [.lit (.string ⟨#[]⟩)] ⟨_,zeroValue9,rfl,rfl⟩ .l))) 10 [.lit (.string ⟨#[]⟩)] ⟨_,zeroValue10,rfl,rfl⟩ (.n (.n (.n (.n .l 11 [.lit (.string ⟨#[]⟩)] ⟨_,zeroValue11,rfl,rfl⟩ .l) 12 Z36 ⟨_,zeroValue12,rfl,rfl⟩ .l) 13 [.lit (.string ⟨#[]⟩),.lit (.int .u64 0)] ⟨_,zeroValue13,rfl,rfl⟩ (.n .l 14 [.lit (.string ⟨#[]⟩),.lit (.int .u64 0)] ⟨_,zeroValue14,rfl,rfl⟩ .l)) 15 Z12 ⟨_,zeroValue15,rfl,rfl⟩ (.n (.n (.n .l 16 Z12 ⟨_,zeroValue16,rfl,rfl⟩ .l) 17 Z12 ⟨_,zeroValue17,rfl,rfl⟩ .l) 18 Z12 ⟨_,zeroValue18,rfl,rfl⟩ (.n .l 19 Z12 ⟨_,zeroValue19,rfl,rfl⟩ .l)))) 21 [.lit (.int .i32 0)] ⟨_,zeroValue21,rfl,rfl⟩ (.n (.n (.n (.n (.n .l 22 [.sl 3 []] ⟨_,zeroValue22,rfl,rfl⟩ .l) 23 [.sl 1 []] ⟨_,zeroValue23,rfl,rfl⟩ .l) 24 [.j 0,.j 0,.sl 3 [],.sl 1 []] ⟨_,zeroValue24,rfl,rfl⟩ (.n .l 25 [.j 0,.j 0,.sl 3 [],.sl 1 []] ⟨_,zeroValue25,rfl,rfl⟩ .l)) 26 [.sl 1 []] ⟨_,zeroValue26,rfl,rfl⟩ (.n (.n (.n .l 27 [.sl 3 []] ⟨_,zeroValue27,rfl,rfl⟩ .l) 28 [.sl 1 [],.j 0,.sl 3 []] ⟨_,zeroValue28,rfl,rfl⟩ .l) 29 [.sl 1 [],.j 0,.sl 3 []] ⟨_,zeroValue29,rfl,rfl⟩ (.n .l 30 Z0 ⟨_,zeroValue30,rfl,rfl⟩ .l))) 31 [.j 0] ⟨_,zeroValue31,rfl,rfl⟩ (.n (.n (.n (.n .l 32 Z0 ⟨_,zeroValue32,rfl,rfl⟩ .l) 33 Z0 ⟨_,zeroValue33,rfl,rfl⟩ .l) 35 Z0 ⟨_,zeroValue35,rfl,rfl⟩ (.n .l 36 Z0 ⟨_,zeroValue36,rfl,rfl⟩ .l)) 37 [.j 0,.sl 1 []] ⟨_,zeroValue37,rfl,rfl⟩ (.n (.n .l 38 [.j 0,.sl 1 []] ⟨_,zeroValue38,rfl,rfl⟩ .l) 39 Z0 ⟨_,zeroValue39,rfl,rfl⟩ (.n .l 41 Z0 ⟨_,zeroValue41,rfl,rfl⟩ .l))))) 42 [.j 0,.j 0,.k false] ⟨_,zeroValue42,rfl,rfl⟩ (.n (.n (.n (.n (.n (.n .l 43 [.j 0,.j 0,.k false] ⟨_,zeroValue43,rfl,rfl⟩ .l) 44 [.sl 6 []] ⟨_,zeroValue44,rfl,rfl⟩ .l) 45 [.sl 4 []] ⟨_,zeroValue45,rfl,rfl⟩ (.n .l 47 Z0 ⟨_,zeroValue47,rfl,rfl⟩ .l)) 48 [.j 0,.j 0,.j 0,.j 0] ⟨_,zeroValue48,rfl,rfl⟩ (.n (.n (.n .l 49 [.j 0,.j 0,.j 0,.j 0] ⟨_,zeroValue49,rfl,rfl⟩ .l) 50 [.sl 1 [],.j 0,.sl 6 []] ⟨_,zeroValue50,rfl,rfl⟩ .l) 51 [.sl 1 [],.j 0,.sl 6 []] ⟨_,zeroValue51,rfl,rfl⟩ (.n .l 52 Z0 ⟨_,zeroValue52,rfl,rfl⟩ .l))) 53 [.sl 3 []] ⟨_,zeroValue53,rfl,rfl⟩ (.n (.n (.n (.n .l 55 Z0 ⟨_,zeroValue55,rfl,rfl⟩ .l) 56 Z0 ⟨_,zeroValue56,rfl,rfl⟩ .l) 57 [.j 0,.j 0,.j 0] ⟨_,zeroValue57,rfl,rfl⟩ (.n .l 58 [.j 0,.j 0,.j 0] ⟨_,zeroValue58,rfl,rfl⟩ .l)) 59 [.sl 2 []] ⟨_,zeroValue59,rfl,rfl⟩ (.n (.n (.n .l 61 Z0 ⟨_,zeroValue61,rfl,rfl⟩ .l) 62 [.j 0,.j 0] ⟨_,zeroValue62,rfl,rfl⟩ .l) 63 [.j 0,.j 0] ⟨_,zeroValue63,rfl,rfl⟩ (.n .l 64 [.j 0,.j 0,.sl 1 [],.sl 1 [],.j 0,.j 0] ⟨_,zeroValue64,rfl,rfl⟩ .l)))) 65 [.j 0,.j 0,.sl 1 [],.sl 1 [],.j 0,.j 0] ⟨_,zeroValue65,rfl,rfl⟩ (.n (.n (.n (.n (.n .l 66 Z0 ⟨_,zeroValue66,rfl,rfl⟩ .l) 67 Z0 ⟨_,zeroValue67,rfl,rfl⟩ .l) 68 Z0 ⟨_,zeroValue68,rfl,rfl⟩ (.n .l 70 Z0 ⟨_,zeroValue70,rfl,rfl⟩ .l)) 71 [.j 0,.j 0,.k false,.j 0,.j 0,.j 0,.j 0,.j 0,.j 0,.k false] ⟨_,zeroValue71,rfl,rfl⟩ (.n (.n (.n .l 72 [.j 0,.j 0,.k false,.j 0,.j 0,.j 0,.j 0,.j 0,.j 0,.k false] ⟨_,zeroValue72,rfl,rfl⟩ .l) 73 [.sl 1 []] ⟨_,zeroValue73,rfl,rfl⟩ .l) 74 Z37 ⟨_,zeroValue74,rfl,rfl⟩ (.n .l 75 Z37 ⟨_,zeroValue75,rfl,rfl⟩ .l))) 76 [.sl 2 []] ⟨_,zeroValue76,rfl,rfl⟩ (.n (.n (.n (.n .l 77 [.j 0,.j 0] ⟨_,zeroValue77,rfl,rfl⟩ .l) 78 [.j 0,.j 0] ⟨_,zeroValue78,rfl,rfl⟩ .l) 79 [.sl 2 [],.j 0,.j 0,.j 0,.j 0] ⟨_,zeroValue79,rfl,rfl⟩ (.n .l 80 [.sl 2 [],.j 0,.j 0,.j 0,.j 0] ⟨_,zeroValue80,rfl,rfl⟩ .l)) 81 Z31 ⟨_,zeroValue81,rfl,rfl⟩ (.n (.n .l 82 Z31 ⟨_,zeroValue82,rfl,rfl⟩ .l) 83 [.sl 7 []] ⟨_,zeroValue83,rfl,rfl⟩ (.n .l 84 Z24 ⟨_,zeroValue84,rfl,rfl⟩ .l)))))) 85 Z24 ⟨_,zeroValue85,rfl,rfl⟩ (.n (.n (.n (.n (.n (.n (.n .l 87 Z0 ⟨_,zeroValue87,rfl,rfl⟩ .l) 88 [.sl 5 []] ⟨_,zeroValue88,rfl,rfl⟩ .l) 89 Z0 ⟨_,zeroValue89,rfl,rfl⟩ (.n .l 91 Z0 ⟨_,zeroValue91,rfl,rfl⟩ .l)) 93 Z0 ⟨_,zeroValue93,rfl,rfl⟩ (.n (.n (.n .l 94 [.j 0,.j 0,.j 0,.j 0,.j 0] ⟨_,zeroValue94,rfl,rfl⟩ .l) 95 [.j 0,.j 0,.j 0,.j 0,.j 0] ⟨_,zeroValue95,rfl,rfl⟩ .l) 96 Z0 ⟨_,zeroValue96,rfl,rfl⟩ (.n .l 97 Z0 ⟨_,zeroValue97,rfl,rfl⟩ .l))) 98 [.sl 1 [],.sl 1 [],.sl 1 []] ⟨_,zeroValue98,rfl,rfl⟩ (.n (.n (.n (.n .l 99 [.sl 1 [],.sl 1 [],.sl 1 []] ⟨_,zeroValue99,rfl,rfl⟩ .l) 100 Z0 ⟨_,zeroValue100,rfl,rfl⟩ .l) 101 Z0 ⟨_,zeroValue101,rfl,rfl⟩ (.n .l 102 Z0 ⟨_,zeroValue102,rfl,rfl⟩ .l)) 103 Z0 ⟨_,zeroValue103,rfl,rfl⟩ (.n (.n (.n .l 104 Z0 ⟨_,zeroValue104,rfl,rfl⟩ .l) 105 [.j 0,.j 0,.sl 1 []] ⟨_,zeroValue105,rfl,rfl⟩ .l) 106 [.j 0,.j 0,.sl 1 []] ⟨_,zeroValue106,rfl,rfl⟩ (.n .l 107 Z0 ⟨_,zeroValue107,rfl,rfl⟩ .l)))) 108 [.sl 3 []] ⟨_,zeroValue108,rfl,rfl⟩ (.n (.n (.n (.n (.n .l 109 [.sl 2 []] ⟨_,zeroValue109,rfl,rfl⟩ .l) 110 [.sl 3 []] ⟨_,zeroValue110,rfl,rfl⟩ .l) 111 [.sl 4 []] ⟨_,zeroValue111,rfl,rfl⟩ (.n .l 112 [.j 0,.sl 1 [],.sl 5 [],.sl 1 [],.j 0,.sl 3 [],.sl 2 [],.sl 3 [],.sl 4 []] ⟨_,zeroValue112,rfl,rfl⟩ .l)) 113 [.j 0,.sl 1 [],.sl 5 [],.sl 1 [],.j 0,.sl 3 [],.sl 2 [],.sl 3 [],.sl 4 []] ⟨_,zeroValue113,rfl,rfl⟩ (.n (.n (.n .l 114 Z0 ⟨_,zeroValue114,rfl,rfl⟩ .l) 115 Z0 ⟨_,zeroValue115,rfl,rfl⟩ .l) 116 Z0 ⟨_,zeroValue116,rfl,rfl⟩ (.n .l 117 Z0 ⟨_,zeroValue117,rfl,rfl⟩ .l))) 118 Z0 ⟨_,zeroValue118,rfl,rfl⟩ (.n (.n (.n (.n .l 119 Z0 ⟨_,zeroValue119,rfl,rfl⟩ .l) 120 Z0 ⟨_,zeroValue120,rfl,rfl⟩ .l) 121 Z0 ⟨_,zeroValue121,rfl,rfl⟩ (.n .l 123 Z0 ⟨_,zeroValue123,rfl,rfl⟩ .l)) 125 Z0 ⟨_,zeroValue125,rfl,rfl⟩ (.n (.n .l 127 Z0 ⟨_,zeroValue127,rfl,rfl⟩ .l) 129 Z0 ⟨_,zeroValue129,rfl,rfl⟩ (.n .l 130 Z0 ⟨_,zeroValue130,rfl,rfl⟩ .l))))) 132 Z0 ⟨_,zeroValue132,rfl,rfl⟩ (.n (.n (.n (.n (.n (.n .l 133 Z12 ⟨_,zeroValue133,rfl,rfl⟩ .l) 135 Z0 ⟨_,zeroValue135,rfl,rfl⟩ .l) 137 Z0 ⟨_,zeroValue137,rfl,rfl⟩ (.n .l 138 Z0 ⟨_,zeroValue138,rfl,rfl⟩ .l)) 139 Z33 ⟨_,zeroValue139,rfl,rfl⟩ (.n (.n (.n .l 140 [.j 0,.sl 1 [],.sl 1 [],.lit (.map none)] ⟨_,zeroValue140,rfl,rfl⟩ .l) 141 [.j 0,.sl 1 [],.sl 1 [],.lit (.map none)] ⟨_,zeroValue141,rfl,rfl⟩ .l) 142 [.j 0,.j 0] ⟨_,zeroValue142,rfl,rfl⟩ (.n .l 143 [.j 0,.j 0] ⟨_,zeroValue143,rfl,rfl⟩ .l))) 144 Z0 ⟨_,zeroValue144,rfl,rfl⟩ (.n (.n (.n (.n .l 145 Z0 ⟨_,zeroValue145,rfl,rfl⟩ .l) 146 [.j 0,.j 0,.j 0] ⟨_,zeroValue146,rfl,rfl⟩ .l) 147 [.j 0,.j 0,.j 0] ⟨_,zeroValue147,rfl,rfl⟩ (.n .l 148 Z0 ⟨_,zeroValue148,rfl,rfl⟩ .l)) 149 Z0 ⟨_,zeroValue149,rfl,rfl⟩ (.n (.n (.n .l 150 Z0 ⟨_,zeroValue150,rfl,rfl⟩ .l) 151 Z0 ⟨_,zeroValue151,rfl,rfl⟩ .l) 153 Z0 ⟨_,zeroValue153,rfl,rfl⟩ (.n .l 154 Z0 ⟨_,zeroValue154,rfl,rfl⟩ .l)))) 156 Z0 ⟨_,zeroValue156,rfl,rfl⟩ (.n (.n (.n (.n (.n .l 157 Z0 ⟨_,zeroValue157,rfl,rfl⟩ .l) 159 Z0 ⟨_,zeroValue159,rfl,rfl⟩ .l) 160 Z36 ⟨_,zeroValue160,rfl,rfl⟩ (.n .l 161 Z0 ⟨_,zeroValue161,rfl,rfl⟩ .l)) 162 Z0 ⟨_,zeroValue162,rfl,rfl⟩ (.n (.n (.n .l 163 Z0 ⟨_,zeroValue163,rfl,rfl⟩ .l) 164 Z0 ⟨_,zeroValue164,rfl,rfl⟩ .l) 165 Z0 ⟨_,zeroValue165,rfl,rfl⟩ (.n .l 167 Z12 ⟨_,zeroValue167,rfl,rfl⟩ .l))) 169 Z0 ⟨_,zeroValue169,rfl,rfl⟩ (.n (.n (.n (.n .l 170 [.j 0,.j 0,.k false,.j 0,.j 0,.j 0,.j 0,.j 0,.j 0,.k false] ⟨_,zeroValue170,rfl,rfl⟩ .l) 171 [.j 0,.j 0,.k false,.j 0,.j 0,.j 0,.j 0,.j 0,.j 0,.k false] ⟨_,zeroValue171,rfl,rfl⟩ .l) 172 [.sl 1 []] ⟨_,zeroValue172,rfl,rfl⟩ (.n .l 173 [.j 0,.j 0,.k false,.j 0,.j 0,.j 0,.j 0,.j 0,.j 0,.k false,.sl 2 [],.j 0,.j 0,.j 0,.j 0,.j 0,.j 0,.j 0,.j 0,.j 0,.j 0,.j 0,.sl 1 [],.sl 7 []] ⟨_,zeroValue173,rfl,rfl⟩ .l)) 174 [.j 0,.j 0,.k false,.j 0,.j 0,.j 0,.j 0,.j 0,.j 0,.k false,.sl 2 [],.j 0,.j 0,.j 0,.j 0,.j 0,.j 0,.j 0,.j 0,.j 0,.j 0,.j 0,.sl 1 [],.sl 7 []] ⟨_,zeroValue174,rfl,rfl⟩ (.n (.n .l 176 Z0 ⟨_,zeroValue176,rfl,rfl⟩ .l) 177 Z0 ⟨_,zeroValue177,rfl,rfl⟩ (.n .l 178 Z0 ⟨_,zeroValue178,rfl,rfl⟩ .l))))))) 179 Z0 ⟨_,zeroValue179,rfl,rfl⟩ (.n (.n (.n (.n (.n (.n (.n (.n .l 180 Z0 ⟨_,zeroValue180,rfl,rfl⟩ .l) 181 Z0 ⟨_,zeroValue181,rfl,rfl⟩ .l) 182 Z0 ⟨_,zeroValue182,rfl,rfl⟩ (.n .l 183 [.j 0,.j 0,.j 0] ⟨_,zeroValue183,rfl,rfl⟩ .l)) 184 [.j 0,.j 0,.j 0] ⟨_,zeroValue184,rfl,rfl⟩ (.n (.n (.n .l 185 Z0 ⟨_,zeroValue185,rfl,rfl⟩ .l) 186 Z0 ⟨_,zeroValue186,rfl,rfl⟩ .l) 188 Z0 ⟨_,zeroValue188,rfl,rfl⟩ (.n .l 189 Z0 ⟨_,zeroValue189,rfl,rfl⟩ .l))) 190 Z0 ⟨_,zeroValue190,rfl,rfl⟩ (.n (.n (.n (.n .l 191 Z0 ⟨_,zeroValue191,rfl,rfl⟩ .l) 192 Z0 ⟨_,zeroValue192,rfl,rfl⟩ .l) 193 Z0 ⟨_,zeroValue193,rfl,rfl⟩ (.n .l 194 Z0 ⟨_,zeroValue194,rfl,rfl⟩ .l)) 195 Z0 ⟨_,zeroValue195,rfl,rfl⟩ (.n (.n (.n .l 197 Z0 ⟨_,zeroValue197,rfl,rfl⟩ .l) 198 Z0 ⟨_,zeroValue198,rfl,rfl⟩ .l) 199 Z0 ⟨_,zeroValue199,rfl,rfl⟩ (.n .l 200 Z37 ⟨_,zeroValue200,rfl,rfl⟩ .l)))) 201 Z37 ⟨_,zeroValue201,rfl,rfl⟩ (.n (.n (.n (.n (.n .l 203 Z0 ⟨_,zeroValue203,rfl,rfl⟩ .l) 204 Z0 ⟨_,zeroValue204,rfl,rfl⟩ .l) 205 Z0 ⟨_,zeroValue205,rfl,rfl⟩ (.n .l 206 Z0 ⟨_,zeroValue206,rfl,rfl⟩ .l)) 208 Z0 ⟨_,zeroValue208,rfl,rfl⟩ (.n (.n (.n .l 209 Z0 ⟨_,zeroValue209,rfl,rfl⟩ .l) 210 Z0 ⟨_,zeroValue210,rfl,rfl⟩ .l) 211 Z0 ⟨_,zeroValue211,rfl,rfl⟩ (.n .l 212 [.j 0,.j 0,.j 0] ⟨_,zeroValue212,rfl,rfl⟩ .l))) 213 [.j 0,.j 0,.j 0,.j 0,.j 0,.j 0] ⟨_,zeroValue213,rfl,rfl⟩ (.n (.n (.n (.n .l 214 [.j 0,.j 0,.j 0,.j 0,.j 0,.j 0,.j 0,.j 0,.j 0,.j 0] ⟨_,zeroValue214,rfl,rfl⟩ .l) 215 [.j 0,.j 0,.j 0,.j 0,.j 0,.j 0,.j 0,.j 0,.j 0,.j 0] ⟨_,zeroValue215,rfl,rfl⟩ .l) 216 Z0 ⟨_,zeroValue216,rfl,rfl⟩ (.n .l 218 Z0 ⟨_,zeroValue218,rfl,rfl⟩ .l)) 219 Z0 ⟨_,zeroValue219,rfl,rfl⟩ (.n (.n .l 220 Z0 ⟨_,zeroValue220,rfl,rfl⟩ .l) 222 Z0 ⟨_,zeroValue222,rfl,rfl⟩ (.n .l 223 Z0 ⟨_,zeroValue223,rfl,rfl⟩ .l))))) 224 Z0 ⟨_,zeroValue224,rfl,rfl⟩ (.n (.n (.n (.n (.n (.n .l 225 Z0 ⟨_,zeroValue225,rfl,rfl⟩ .l) 226 Z0 ⟨_,zeroValue226,rfl,rfl⟩ .l) 227 [.j 0,.k false,.j 0,.j 0,.j 0,.j 0,.k false] ⟨_,zeroValue227,rfl,rfl⟩ (.n .l 228 [.j 0,.k false,.j 0,.j 0,.j 0,.j 0,.k false] ⟨_,zeroValue228,rfl,rfl⟩ .l)) 229 Z0 ⟨_,zeroValue229,rfl,rfl⟩ (.n (.n (.n .l 230 Z0 ⟨_,zeroValue230,rfl,rfl⟩ .l) 231 Z0 ⟨_,zeroValue231,rfl,rfl⟩ .l) 232 Z0 ⟨_,zeroValue232,rfl,rfl⟩ (.n .l 233 Z0 ⟨_,zeroValue233,rfl,rfl⟩ .l))) 234 Z0 ⟨_,zeroValue234,rfl,rfl⟩ (.n (.n (.n (.n .l 235 [.j 0,.j 0] ⟨_,zeroValue235,rfl,rfl⟩ .l) 236 [.j 0,.j 0] ⟨_,zeroValue236,rfl,rfl⟩ .l) 237 [.j 0,.j 0,.j 0] ⟨_,zeroValue237,rfl,rfl⟩ (.n .l 238 [.j 0,.j 0,.j 0] ⟨_,zeroValue238,rfl,rfl⟩ .l)) 239 [.j 0,.j 0,.j 0,.j 0] ⟨_,zeroValue239,rfl,rfl⟩ (.n (.n (.n .l 240 [.j 0,.j 0,.j 0,.j 0] ⟨_,zeroValue240,rfl,rfl⟩ .l) 241 Z0 ⟨_,zeroValue241,rfl,rfl⟩ .l) 242 Z0 ⟨_,zeroValue242,rfl,rfl⟩ (.n .l 243 Z0 ⟨_,zeroValue243,rfl,rfl⟩ .l)))) 244 Z0 ⟨_,zeroValue244,rfl,rfl⟩ (.n (.n (.n (.n (.n .l 245 Z0 ⟨_,zeroValue245,rfl,rfl⟩ .l) 246 Z0 ⟨_,zeroValue246,rfl,rfl⟩ .l) 247 Z0 ⟨_,zeroValue247,rfl,rfl⟩ (.n .l 248 Z0 ⟨_,zeroValue248,rfl,rfl⟩ .l)) 249 Z0 ⟨_,zeroValue249,rfl,rfl⟩ (.n (.n (.n .l 251 Z0 ⟨_,zeroValue251,rfl,rfl⟩ .l) 252 Z0 ⟨_,zeroValue252,rfl,rfl⟩ .l) 253 Z0 ⟨_,zeroValue253,rfl,rfl⟩ (.n .l 254 Z0 ⟨_,zeroValue254,rfl,rfl⟩ .l))) 255 Z0 ⟨_,zeroValue255,rfl,rfl⟩ (.n (.n (.n (.n .l 256 Z0 ⟨_,zeroValue256,rfl,rfl⟩ .l) 257 Z0 ⟨_,zeroValue257,rfl,rfl⟩ .l) 258 Z33 ⟨_,zeroValue258,rfl,rfl⟩ (.n .l 259 Z0 ⟨_,zeroValue259,rfl,rfl⟩ .l)) 260 Z33 ⟨_,zeroValue260,rfl,rfl⟩ (.n (.n .l 261 Z33 ⟨_,zeroValue261,rfl,rfl⟩ .l) 263 Z0 ⟨_,zeroValue263,rfl,rfl⟩ (.n .l 264 Z0 ⟨_,zeroValue264,rfl,rfl⟩ .l)))))) 265 Z0 ⟨_,zeroValue265,rfl,rfl⟩ (.n (.n (.n (.n (.n (.n (.n .l 266 Z0 ⟨_,zeroValue266,rfl,rfl⟩ .l) 267 Z0 ⟨_,zeroValue267,rfl,rfl⟩ .l) 268 Z0 ⟨_,zeroValue268,rfl,rfl⟩ (.n .l 269 Z0 ⟨_,zeroValue269,rfl,rfl⟩ .l)) 270 Z12 ⟨_,zeroValue270,rfl,rfl⟩ (.n (.n (.n .l 271 Z33 ⟨_,zeroValue271,rfl,rfl⟩ .l) 272 Z29 ⟨_,zeroValue272,rfl,rfl⟩ .l) 273 Z29 ⟨_,zeroValue273,rfl,rfl⟩ (.n .l 274 Z0 ⟨_,zeroValue274,rfl,rfl⟩ .l))) 275 [.j 0,.j 0,.j 0,.j 0,.j 0,.j 0,.j 0,.j 0,.j 0,.j 0,.j 0,.j 0] ⟨_,zeroValue275,rfl,rfl⟩ (.n (.n (.n (.n .l 276 [.j 0,.j 0,.j 0,.j 0,.j 0,.j 0,.j 0,.j 0,.j 0,.j 0,.j 0,.j 0] ⟨_,zeroValue276,rfl,rfl⟩ .l) 277 Z0 ⟨_,zeroValue277,rfl,rfl⟩ .l) 278 Z12 ⟨_,zeroValue278,rfl,rfl⟩ (.n .l 279 Z0 ⟨_,zeroValue279,rfl,rfl⟩ .l)) 280 Z0 ⟨_,zeroValue280,rfl,rfl⟩ (.n (.n (.n .l 281 Z0 ⟨_,zeroValue281,rfl,rfl⟩ .l) 282 [.j 0,.j 0] ⟨_,zeroValue282,rfl,rfl⟩ .l) 283 [.j 0,.j 0] ⟨_,zeroValue283,rfl,rfl⟩ (.n .l 284 Z0 ⟨_,zeroValue284,rfl,rfl⟩ .l)))) 285 Z0 ⟨_,zeroValue285,rfl,rfl⟩ (.n (.n (.n (.n (.n .l 286 Z0 ⟨_,zeroValue286,rfl,rfl⟩ .l) 287 Z0 ⟨_,zeroValue287,rfl,rfl⟩ .l) 288 Z0 ⟨_,zeroValue288,rfl,rfl⟩ (.n .l 289 Z0 ⟨_,zeroValue289,rfl,rfl⟩ .l)) 291 Z0 ⟨_,zeroValue291,rfl,rfl⟩ (.n (.n (.n .l 292 Z0 ⟨_,zeroValue292,rfl,rfl⟩ .l) 293 Z0 ⟨_,zeroValue293,rfl,rfl⟩ .l) 294 Z0 ⟨_,zeroValue294,rfl,rfl⟩ (.n .l 295 Z0 ⟨_,zeroValue295,rfl,rfl⟩ .l))) 296 [.j 0] ⟨_,zeroValue296,rfl,rfl⟩ (.n (.n (.n (.n .l 298 Z0 ⟨_,zeroValue298,rfl,rfl⟩ .l) 299 Z0 ⟨_,zeroValue299,rfl,rfl⟩ .l) 300 Z0 ⟨_,zeroValue300,rfl,rfl⟩ (.n .l 301 Z0 ⟨_,zeroValue301,rfl,rfl⟩ .l)) 302 Z0 ⟨_,zeroValue302,rfl,rfl⟩ (.n (.n .l 303 [.lit (.int .u32 0)] ⟨_,zeroValue303,rfl,rfl⟩ .l) 304 Z0 ⟨_,zeroValue304,rfl,rfl⟩ (.n .l 305 Z36 ⟨_,zeroValue305,rfl,rfl⟩ .l))))) 306 Z0 ⟨_,zeroValue306,rfl,rfl⟩ (.n (.n (.n (.n (.n (.n .l 307 Z0 ⟨_,zeroValue307,rfl,rfl⟩ .l) 308 Z0 ⟨_,zeroValue308,rfl,rfl⟩ .l) 309 Z0 ⟨_,zeroValue309,rfl,rfl⟩ (.n .l 310 Z0 ⟨_,zeroValue310,rfl,rfl⟩ .l)) 311 Z36 ⟨_,zeroValue311,rfl,rfl⟩ (.n (.n (.n .l 312 Z0 ⟨_,zeroValue312,rfl,rfl⟩ .l) 313 Z0 ⟨_,zeroValue313,rfl,rfl⟩ .l) 314 Z0 ⟨_,zeroValue314,rfl,rfl⟩ (.n .l 315 Z12 ⟨_,zeroValue315,rfl,rfl⟩ .l))) 316 Z0 ⟨_,zeroValue316,rfl,rfl⟩ (.n (.n (.n (.n .l 317 Z0 ⟨_,zeroValue317,rfl,rfl⟩ .l) 318 Z0 ⟨_,zeroValue318,rfl,rfl⟩ .l) 319 Z0 ⟨_,zeroValue319,rfl,rfl⟩ (.n .l 320 Z0 ⟨_,zeroValue320,rfl,rfl⟩ .l)) 321 Z0 ⟨_,zeroValue321,rfl,rfl⟩ (.n (.n (.n .l 322 Z0 ⟨_,zeroValue322,rfl,rfl⟩ .l) 323 Z0 ⟨_,zeroValue323,rfl,rfl⟩ .l) 324 Z0 ⟨_,zeroValue324,rfl,rfl⟩ (.n .l 325 Z12 ⟨_,zeroValue325,rfl,rfl⟩ .l)))) 326 Z0 ⟨_,zeroValue326,rfl,rfl⟩ (.n (.n (.n (.n (.n .l 327 Z0 ⟨_,zeroValue327,rfl,rfl⟩ .l) 328 Z0 ⟨_,zeroValue328,rfl,rfl⟩ .l) 329 Z0 ⟨_,zeroValue329,rfl,rfl⟩ (.n .l 330 Z0 ⟨_,zeroValue330,rfl,rfl⟩ .l)) 331 Z0 ⟨_,zeroValue331,rfl,rfl⟩ (.n (.n (.n .l 332 [.lit (.pointer none),.lit (.pointer none),.lit (.pointer none),.lit (.string ⟨#[]⟩)] ⟨_,zeroValue332,rfl,rfl⟩ .l) 333 [.lit (.pointer none),.lit (.pointer none),.lit (.pointer none),.lit (.string ⟨#[]⟩)] ⟨_,zeroValue333,rfl,rfl⟩ .l) 334 [] ⟨_,zeroValue334,rfl,rfl⟩ (.n .l 335 [] ⟨_,zeroValue335,rfl,rfl⟩ .l))) 336 [] ⟨_,zeroValue336,rfl,rfl⟩ (.n (.n (.n (.n .l 337 Z40 ⟨_,zeroValue337,rfl,rfl⟩ .l) 338 Z40 ⟨_,zeroValue338,rfl,rfl⟩ .l) 339 Z0 ⟨_,zeroValue339,rfl,rfl⟩ (.n .l 340 Z12 ⟨_,zeroValue340,rfl,rfl⟩ .l)) 341 [.lit (.int .i32 0)] ⟨_,zeroValue341,rfl,rfl⟩ (.n (.n .l 342 [.lit (.int .i32 0)] ⟨_,zeroValue342,rfl,rfl⟩ .l) 343 Z10 ⟨_,zeroValue343,rfl,rfl⟩ (.n .l 344 Z10 ⟨_,zeroValue344,rfl,rfl⟩ .l))))))),Checked.mixed Tryz.checked⟩
theorem vJ:kL Tryz.prog 25 4:=⟨isAgg25,sizeOf25⟩
theorem cR:SliceTy Tryz.prog 23 3 1 8 (.int .i64 0):=⟨underlying23,⟨Tryz.t3,by kernel_rfl,rfl,rfl,rfl⟩,rfl,by decide⟩
instance:SO Tryz.prog 23 3 1:=⟨cR.of⟩
theorem aTb:cK Tryz.prog 25 0 0:=cE runUnderlying25 rfl rfl sizeOf3
theorem dI:iF Tryz.prog 3:=⟨isAgg3,sizeOf3⟩
instance:I1 Tryz.prog 3:=⟨dI⟩
theorem tG:kL Tryz.prog 38 2:=⟨isAgg38,sizeOf38⟩
theorem bDu:cK Tryz.prog 25 2 2:=cE runUnderlying25 rfl rfl sizeOf22
instance:FA Tryz.prog 25 2 2:=⟨bDu⟩
theorem bOp:iF Tryz.prog 22:=⟨isAgg22,sizeOf22⟩
instance:I1 Tryz.prog 22:=⟨bOp⟩
theorem bMe:SliceTy Tryz.prog 22 43 3 24 (.agg #[.int .i64 0,.int .i64 0,.bool false]):=⟨underlying22,⟨Tryz.t43,by kernel_rfl,rfl,rfl,rfl⟩,rfl,by decide⟩
instance:SO Tryz.prog 22 43 3:=⟨bMe.of⟩
theorem xW:cK Tryz.prog 38 0 0:=cE runUnderlying38 rfl rfl sizeOf3
instance:FA Tryz.prog 38 0 0:=⟨xW⟩
theorem aFx:SliceTy Tryz.prog 44 65 6 80 (.agg #[.int .i64 0,.int .i64 0,.slice none 0 0,.slice none 0 0,.int .i64 0,.int .i64 0]):=⟨underlying44,⟨Tryz.t65,by kernel_rfl,rfl,rfl,rfl⟩,rfl,by decide⟩
instance:SO Tryz.prog 44 65 6:=⟨aFx.of⟩
theorem bUs:SliceTy Tryz.prog 45 49 4 32 (.agg #[.int .i64 0,.int .i64 0,.int .i64 0,.int .i64 0]):=⟨underlying45,⟨Tryz.t49,by kernel_rfl,rfl,rfl,rfl⟩,rfl,by decide⟩
theorem bYq:iF Tryz.prog 26:=⟨isAgg26,sizeOf26⟩
instance:I1 Tryz.prog 26:=⟨bYq⟩
theorem zF:kL Tryz.prog 51 3:=⟨isAgg51,sizeOf51⟩
theorem aRa:SliceTy Tryz.prog 53 58 3 24 (.agg #[.int .i64 0,.int .i64 0,.int .i64 0]):=⟨underlying53,⟨Tryz.t58,by kernel_rfl,rfl,rfl,rfl⟩,rfl,by decide⟩
instance:SO Tryz.prog 53 58 3:=⟨aRa.of⟩
theorem vE:cK Tryz.prog 58 0 0:=cE runUnderlying58 rfl rfl sizeOf3
instance:FA Tryz.prog 58 0 0:=⟨vE⟩
theorem aWz:SliceTy Tryz.prog 59 63 2 16 (.agg #[.int .i64 0,.int .i64 0]):=⟨underlying59,⟨Tryz.t63,by kernel_rfl,rfl,rfl,rfl⟩,rfl,by decide⟩
instance:SO Tryz.prog 59 63 2:=⟨aWz.of⟩
theorem bRh:cK Tryz.prog 58 1 1:=cE runUnderlying58 rfl rfl sizeOf3
instance:FA Tryz.prog 58 1 1:=⟨bRh⟩
theorem bRj:cK Tryz.prog 65 1 2:=cE runUnderlying65 rfl rfl sizeOf23
instance:FA Tryz.prog 65 1 2:=⟨bRj⟩
theorem rG:iF Tryz.prog 23:=⟨isAgg23,sizeOf23⟩
instance:I1 Tryz.prog 23:=⟨rG⟩
theorem bRi:cK Tryz.prog 63 0 0:=cE runUnderlying63 rfl rfl sizeOf3
instance:FA Tryz.prog 63 0 0:=⟨bRi⟩
theorem aTd:cK Tryz.prog 63 1 1:=cE runUnderlying63 rfl rfl sizeOf3
instance:FA Tryz.prog 63 1 1:=⟨aTd⟩
theorem aRb:SliceTy Tryz.prog 73 23 1 24 (.slice none 0 0):=⟨underlying73,⟨Tryz.t23,by kernel_rfl,rfl,rfl,rfl⟩,rfl,by decide⟩
theorem bXl:kL Tryz.prog 43 3:=⟨isAgg43,sizeOf43⟩
theorem bUl:iF Tryz.prog 4:=⟨isAgg4,sizeOf4⟩
theorem bMf:SliceTy Tryz.prog 26 59 1 24 (.slice none 0 0):=⟨underlying26,⟨Tryz.t59,by kernel_rfl,rfl,rfl,rfl⟩,rfl,by decide⟩
theorem bUr:SliceTy Tryz.prog 27 147 3 24 (.agg #[.int .i64 0,.int .i64 0,.int .i64 0]):=⟨underlying27,⟨Tryz.t147,by kernel_rfl,rfl,rfl,rfl⟩,rfl,by decide⟩
instance:SO Tryz.prog 27 147 3:=⟨bUr.of⟩
theorem bYs:iF Tryz.prog 59:=⟨isAgg59,sizeOf59⟩
instance:I1 Tryz.prog 59:=⟨bYs⟩
theorem aTc:cK Tryz.prog 51 0 0:=cE runUnderlying51 rfl rfl sizeOf26
instance:FA Tryz.prog 51 0 0:=⟨aTc⟩
theorem bRg:cK Tryz.prog 51 1 1:=cE runUnderlying51 rfl rfl sizeOf3
instance:FA Tryz.prog 51 1 1:=⟨bRg⟩
theorem xX:cK Tryz.prog 51 2 2:=cE runUnderlying51 rfl rfl sizeOf44
theorem aEf:iF Tryz.prog 44:=⟨isAgg44,sizeOf44⟩
instance:I1 Tryz.prog 44:=⟨aEf⟩
theorem aJu:kL Tryz.prog 63 2:=⟨isAgg63,sizeOf63⟩
theorem bXn:kL Tryz.prog 65 6:=⟨isAgg65,sizeOf65⟩
theorem aLx:cK Tryz.prog 65 0 0:=cE runUnderlying65 rfl rfl sizeOf63
theorem bRk:cK Tryz.prog 65 3 4:=cE runUnderlying65 rfl rfl sizeOf3
instance:FA Tryz.prog 65 3 4:=⟨bRk⟩
theorem bRl:cK Tryz.prog 65 4 5:=cE runUnderlying65 rfl rfl sizeOf3
theorem bIv:iF Tryz.prog 180:=⟨isAgg180,sizeOf180⟩
theorem bWb:iF Tryz.prog 244:=⟨isAgg244,sizeOf244⟩
theorem bZc:qW Tryz.prog 95 (.agg #[.int .i64 0,.int .i64 0,.int .i64 0,.int .i64 0,.int .i64 0]) [(0,1),(1,1),(2,1),(3,1),(4,1)]:=⟨zeroValue95,_,runUnderlying95,λw=>by simp[sizeOf3]⟩
theorem aXa:SliceTy Tryz.prog 88 95 5 40 (.agg #[.int .i64 0,.int .i64 0,.int .i64 0,.int .i64 0,.int .i64 0]):=⟨underlying88,⟨Tryz.t95,by kernel_rfl,rfl,rfl,rfl⟩,rfl,by decide⟩
instance:SO Tryz.prog 88 95 5:=⟨aXa.of⟩
theorem xU:cK Tryz.prog 141 0 0:=cE runUnderlying141 rfl rfl sizeOf38
instance:FA Tryz.prog 141 0 0:=⟨xU⟩
theorem aGs:cK Tryz.prog 38 1 1:=cE runUnderlying38 rfl rfl sizeOf23
instance:FA Tryz.prog 38 1 1:=⟨aGs⟩
theorem aAj:cK Tryz.prog 141 2 3:=cE runUnderlying141 rfl rfl sizeOf139
theorem aGc:iF Tryz.prog 139:=⟨isAgg139,sizeOf139⟩
theorem bKx:wP Tryz.prog 3 VI:=bNv underlying3
theorem tH:kL Tryz.prog 95 5:=⟨isAgg95,sizeOf95⟩
theorem aCs:cK Tryz.prog 95 3 3:=cE runUnderlying95 rfl rfl sizeOf3
instance:FA Tryz.prog 95 3 3:=⟨aCs⟩
theorem bRm:cK Tryz.prog 95 0 0:=cE runUnderlying95 rfl rfl sizeOf3
instance:FA Tryz.prog 95 0 0:=⟨bRm⟩
theorem bRn:cK Tryz.prog 95 1 1:=cE runUnderlying95 rfl rfl sizeOf3
instance:FA Tryz.prog 95 1 1:=⟨bRn⟩
theorem aTe:cK Tryz.prog 95 2 2:=cE runUnderlying95 rfl rfl sizeOf3
instance:FA Tryz.prog 95 2 2:=⟨aTe⟩
theorem bRo:cK Tryz.prog 95 4 4:=cE runUnderlying95 rfl rfl sizeOf3
theorem aRd:qW Tryz.prog 143 (.agg #[.int .i64 0,.int .i64 0]) [(0,1),(1,1)]:=⟨zeroValue143,_,runUnderlying143,λw=>by simp[sizeOf3]⟩
theorem oA:kL Tryz.prog 143 2:=⟨isAgg143,sizeOf143⟩
theorem aAk:cK Tryz.prog 143 0 0:=cE runUnderlying143 rfl rfl sizeOf3
instance:FA Tryz.prog 143 0 0:=⟨aAk⟩
theorem bNm:cK Tryz.prog 143 1 1:=cE runUnderlying143 rfl rfl sizeOf3
instance:FA Tryz.prog 143 1 1:=⟨bNm⟩
theorem bWt:qW Tryz.prog 141 (.agg #[.int .i64 0,.slice none 0 0,.slice none 0 0,.map none]) [(0,2),(2,1),(3,1)]:=⟨zeroValue141,_,runUnderlying141,λw=>by simp[sizeOf139,sizeOf23,sizeOf38]⟩
theorem bDo:aOc Tryz.prog 95 aK:=by
  rintro⟨a0,a1,a2,a3,a4⟩ ⟨b0,b1,b2,b3,b4⟩ w
  simp[aK,bA,go_sem,Op.eqFields,Program.fieldsOf]<;>(repeat' split)<;>simp_all
theorem bXs(b:Bool)(a:aB)(w:World):(Instr.checkKey b 10000 95 (.agg ((aK a).map bA).toArray)).run Tryz.prog w=.ok () w:=by
  obtain⟨a1,a2,a3,a4,a5⟩:=a;rw[show(10000:Nat)=9990+10 from rfl]
  generalize(9990:Nat)=m
  simp[Instr.checkKey,aK,bA,go_sem,Std.Legacy.Range.forIn_eq_forIn_range',Std.Legacy.Range.size]
theorem bEe:wP Tryz.prog 95 (λa:aB=>Value.agg ((aK a).map bA).toArray):=
  aGx underlying95 bDo bXs (λa w=>aTk _ rfl _ _) (by
    rintro⟨a1,a2,a3,a4,a5⟩ ⟨b1,b2,b3,b4,b5⟩ h
    simp[aK] at h|-
    simp_all) (λ_=>rfl)
theorem aQo:aOc Tryz.prog 143 aC:=by
  rintro⟨a0,a1⟩ ⟨b0,b1⟩ w
  simp[aC,bA,go_sem,Op.eqFields,Program.fieldsOf]<;>(repeat' split)<;>simp_all
theorem bVf(b:Bool)(a:aA)(w:World):(Instr.checkKey b 10000 143 (.agg ((aC a).map bA).toArray)).run Tryz.prog w=.ok () w:=by
  obtain⟨a1,a2⟩:=a;rw[show(10000:Nat)=9990+10 from rfl]
  generalize(9990:Nat)=m
  simp[Instr.checkKey,aC,bA,go_sem,Std.Legacy.Range.forIn_eq_forIn_range',Std.Legacy.Range.size]
theorem aCu:wP Tryz.prog 143 (λa:aA=>Value.agg ((aC a).map bA).toArray):=
  aGx underlying143 aQo bVf (λa w=>aTk _ rfl _ _) (by
    rintro⟨a1,a2⟩ ⟨b1,b2⟩ h
    simp[aC] at h|-
    simp_all) (λ_=>rfl)
theorem uI:cK Tryz.prog 141 1 2:=cE runUnderlying141 rfl rfl sizeOf23
instance:FA Tryz.prog 141 1 2:=⟨uI⟩
theorem bPq:qW Tryz.prog 58 (.agg #[.int .i64 0,.int .i64 0,.int .i64 0]) [(0,1),(1,1),(2,1)]:=⟨zeroValue58,_,runUnderlying58,λw=>by simp[sizeOf3]⟩
theorem zG:kL Tryz.prog 58 3:=⟨isAgg58,sizeOf58⟩
theorem bDv:cK Tryz.prog 58 2 2:=cE runUnderlying58 rfl rfl sizeOf3
theorem bNn:cK Tryz.prog 215 0 0:=cE runUnderlying215 rfl rfl sizeOf3
instance:FA Tryz.prog 215 0 0:=⟨bNn⟩
theorem bWu:qW Tryz.prog 215 (.agg #[.int .i64 0,.int .i64 0,.int .i64 0,.int .i64 0,.int .i64 0,.int .i64 0,.int .i64 0,.int .i64 0,.int .i64 0,.int .i64 0]) [(0,1),(1,3),(4,6)]:=⟨zeroValue215,_,runUnderlying215,λw=>by simp[sizeOf212,sizeOf213,sizeOf3]⟩
theorem aOv:cK Tryz.prog 215 1 1:=cE runUnderlying215 rfl rfl sizeOf212
instance:FA Tryz.prog 215 1 1:=⟨aOv⟩
theorem aXn:aUf Tryz.prog 212 3 3 1:=⟨runUnderlying212,sizeOf3⟩
theorem aJt:kL Tryz.prog 215 10:=⟨isAgg215,sizeOf215⟩
theorem bAe:cK Tryz.prog 215 2 4:=cE runUnderlying215 rfl rfl sizeOf213
theorem bUy:kL Tryz.prog 213 6:=⟨isAgg213,sizeOf213⟩
theorem bHw:aUf Tryz.prog 213 6 3 1:=⟨runUnderlying213,sizeOf3⟩
theorem bXm:kL Tryz.prog 49 4:=⟨isAgg49,sizeOf49⟩
theorem bYr:iF Tryz.prog 45:=⟨isAgg45,sizeOf45⟩
instance:I1 Tryz.prog 45:=⟨bYr⟩
theorem bZb:qW Tryz.prog 49 (.agg #[.int .i64 0,.int .i64 0,.int .i64 0,.int .i64 0]) [(0,1),(1,1),(2,1),(3,1)]:=⟨zeroValue49,_,runUnderlying49,λw=>by simp[sizeOf3]⟩
theorem bUx:kL Tryz.prog 147 3:=⟨isAgg147,sizeOf147⟩
theorem aFz:kL Tryz.prog 201 2:=⟨isAgg201,sizeOf201⟩
theorem aKv:qW Tryz.prog 201 (.agg #[.slice none 0 0,.slice none 0 0]) [(0,1),(1,1)]:=⟨zeroValue201,_,runUnderlying201,λw=>by simp[sizeOf23,sizeOf73]⟩
theorem aAl:cK Tryz.prog 201 1 1:=cE runUnderlying201 rfl rfl sizeOf73
instance:FA Tryz.prog 201 1 1:=⟨aAl⟩
theorem aPr:iF Tryz.prog 73:=⟨isAgg73,sizeOf73⟩
instance:I1 Tryz.prog 73:=⟨aPr⟩
theorem bWv:qW Tryz.prog 273 (.agg #[.slice none 0 0,.int .i64 0,.slice none 0 0,.int .i64 0,.slice none 0 0,.map none]) [(0,3),(3,1),(4,1),(5,1)]:=⟨zeroValue273,_,runUnderlying273,λw=>by simp[sizeOf271,sizeOf3,sizeOf51,sizeOf53]⟩
theorem aZa:qW Tryz.prog 276 (.agg #[.int .i64 0,.int .i64 0,.int .i64 0,.int .i64 0,.int .i64 0,.int .i64 0,.int .i64 0,.int .i64 0,.int .i64 0,.int .i64 0,.int .i64 0,.int .i64 0]) [(0,10),(10,1),(11,1)]:=⟨zeroValue276,_,runUnderlying276,λw=>by simp[sizeOf215,sizeOf3]⟩
theorem aOy:cK Tryz.prog 276 1 10:=cE runUnderlying276 rfl rfl sizeOf3
theorem xV:cK Tryz.prog 273 0 0:=cE runUnderlying273 rfl rfl sizeOf51
theorem bAf:cK Tryz.prog 273 3 5:=cE runUnderlying273 rfl rfl sizeOf271
theorem bIw:iF Tryz.prog 271:=⟨isAgg271,sizeOf271⟩
theorem aGa:kL Tryz.prog 276 12:=⟨isAgg276,sizeOf276⟩
theorem bVl(d:Nat)(xs ys:Array Value)(w:World):(Op.equalIn (d+1) 212 (.agg xs) (.agg ys)).run Tryz.prog w=(Op.eqItems d 3 1 xs ys [0,1,2]).run Tryz.prog w:=run_equalIn_array w d xs ys underlying212 (by kernel_rfl:Tryz.prog.info? 3=some Tryz.t3)
theorem bVm(d:Nat)(xs ys:Array Value)(w:World):(Op.equalIn (d+1) 213 (.agg xs) (.agg ys)).run Tryz.prog w=(Op.eqItems d 3 1 xs ys [0,1,2,3,4,5]).run Tryz.prog w:=run_equalIn_array w d xs ys underlying213 (by kernel_rfl:Tryz.prog.info? 3=some Tryz.t3)
theorem bVn:aOc Tryz.prog 276 aT:=by
  rintro⟨⟨a1,⟨a2,a3,a4⟩,⟨a5,a6,a7,a8,a9,a⟩⟩,b,c⟩ ⟨⟨b1,⟨b2,b3,b4⟩,⟨b5,b6,b7,b8,b9,d⟩⟩,e,f⟩ w;rw[show(10000:Nat)=9990+10 from rfl]
  generalize(9990:Nat)=m
  simp[aT,bA,go_sem,Op.eqFields,Program.fieldsOf,Op.eqItems,bVl,bVm]<;>(repeat' split)<;>simp_all
theorem bVg(b:Bool)(a:aH)(w:World):(Instr.checkKey b 10000 276 (.agg ((aT a).map bA).toArray)).run Tryz.prog w=.ok () w:=by
  obtain⟨⟨a1,⟨a2,a3,a4⟩,⟨a5,a6,a7,a8,a9,c⟩⟩,d,e⟩:=a;rw[show(10000:Nat)=9990+10 from rfl]
  generalize(9990:Nat)=m
  simp[Instr.checkKey,aT,bA,go_sem,Std.Legacy.Range.forIn_eq_forIn_range',Std.Legacy.Range.size,List.range']
theorem aYe:wP Tryz.prog 276 (λa:aH=>Value.agg ((aT a).map bA).toArray):=
  aGx underlying276 bVn bVg (λa w=>aTk _ rfl _ _) (by
    rintro⟨⟨a1,⟨a2,a3,a4⟩,⟨a5,a6,a7,a8,a9,b⟩⟩,c,d⟩ ⟨⟨b1,⟨b2,b3,b4⟩,⟨b5,b6,b7,b8,b9,e⟩⟩,f,g⟩ h
    simp[aT] at h|-
    simp_all) (λ_=>rfl)
theorem aOx:cK Tryz.prog 276 0 0:=cE runUnderlying276 rfl rfl sizeOf215
instance:FA Tryz.prog 276 0 0:=⟨aOx⟩
theorem bNo:cK Tryz.prog 273 1 3:=cE runUnderlying273 rfl rfl sizeOf3
theorem aOz:cK Tryz.prog 276 2 11:=cE runUnderlying276 rfl rfl sizeOf3
instance:FA Tryz.prog 276 2 11:=⟨aOz⟩
theorem aOw:cK Tryz.prog 273 2 4:=cE runUnderlying273 rfl rfl sizeOf53
theorem bEy:iF Tryz.prog 53:=⟨isAgg53,sizeOf53⟩
theorem bXy:aOc Tryz.prog 58 aM:=by
  rintro⟨a0,a1,a2⟩ ⟨b0,b1,b2⟩ w
  simp[aM,bA,go_sem,Op.eqFields,Program.fieldsOf]<;>(repeat' split)<;>simp_all

theorem nT(d:Int)(c:Int)(a:Int){r:Bool}(h:fM d c a=some r):Fn Tryz.prog 46 [.i d,.i c,.i a] (.b r):=by
 unfold fM at h;refine fnx xT {} [.tmp 6] func46 results46 ntmps46 ?_;refine jg h (λx h=>?_) λb1 h=>?_
 ·refine br h (λh=>?_) λh=>?_
  ·exact jt h
  ·exact jt h
 ·cases h;exact⟨rfl,rfl,rfl⟩

theorem aDy (d:aQ){r:Int}(h:oF d=some r):Fn Tryz.prog 9 [.agg (bM d)] (.i r):=by
 unfold oF at h;refine fnx xT {} [.tmp 2] func9 results9 ntmps9 ?_;refine ol ?_;refine jg h (λx h=>?_) λb2 h=>?_
 ·refine br h (λh=>?_) λh=>?_
  ·exact jt h
  ·exact jt h
 ·refine jg h (λx h=>?_) λb4 h=>?_
  ·refine br h (λh=>?_) λh=>?_
   ·exact jt h
   ·refine cl call46 (λ_=>nT _ _ _) h λr6 h=>?_;exact jt h
  ·refine jg h (λx h=>?_) λb8 h=>?_
   ·refine br h (λh=>?_) λh=>?_
    ·exact jt h
    ·refine⟨by decide,?_⟩;refine bLf ?_;refine cl call46 (λ_=>nT _ _ _) h λg h=>?_;exact jt h
   ·refine jg h (λx h=>?_) λj h=>?_
    ·refine br h (λh=>?_) λh=>?_
     ·exact jt h
     ·refine⟨by decide,?_⟩;exact jt h
    ·refine jg h (λx h=>?_) λl h=>?_
     ·refine br h (λh=>?_) λh=>?_
      ·exact jt h
      ·refine ol ?_;exact jt h
     ·refine br h (λh=>?_) λh=>?_
      ·cases h;exact⟨rfl,rfl,rfl⟩
      ·refine xlp [1,3] [1] (λ(a:Int)=>([(4,.i a)],[])) (λk (a:Int)=>fG (d.Persons.length:Int) d k a) (0) h (lev []) ?_;rintro e a h;simp only[fG] at h;refine br h (λh=>?_) λh=>?_
       ·refine oi h λf h=>?_;refine cl call46 (λ_=>nT _ _ _) h λm h=>?_;refine jg h (λx h=>?_) λn h=>?_
        ·refine br h (λh=>?_) λh=>?_
         ·exact jt h
         ·refine cl call46 (λ_=>nT _ _ _) h λo h=>?_;exact jt h
        ·refine jg h (λx h=>?_) λp h=>?_
         ·refine br h (λh=>?_) λh=>?_
          ·exact jt h
          ·refine jg h (λx h=>?_) λq h=>?_
           ·refine br h (λh=>?_) λh=>?_
            ·exact jt h
            ·exact jt h
           ·exact jt h
         ·refine br h (λh=>?_) λh=>?_
          ·cases h;exact⟨rfl,rfl,rfl⟩
          ·refine xlp [1,3,4,5] [1,5] (λ(b:Int)=>([(6,.i b)],[])) (λk (b:Int)=>jZ (fG (d.Persons.length:Int) d e) (d.Persons.length:Int) a d f k b) (0) h (lev []) ?_;rintro s b h;simp only[jZ] at h;refine br h (λh=>?_) λh=>?_
           ·refine⟨by kernel_rfl,?_⟩;refine oi h λt h=>?_;refine⟨by kernel_rfl,?_⟩;refine br h (λh=>?_) λh=>?_
            ·cases h;exact⟨rfl,rfl,rfl⟩
            ·exact⟨(w64 (b+1)),h,lev []⟩
           ·simp only[vZ] at h;simp only[vY] at h;exact⟨(w64 (a+1)),h,lev []⟩
       ·simp only[rO] at h;refine xlp [1] [1] (λ(c:Int)=>([(7,.i c)],[])) (λk (c:Int)=>kA d k c) (0) h (lev []) ?_;rintro u c h;simp only[kA] at h;refine ol ?_;refine br h (λh=>?_) λh=>?_
        ·refine oi h λv h=>?_;refine cl call46 (λ_=>nT _ _ _) h λw h=>?_;refine br h (λh=>?_) λh=>?_
         ·cases h;exact⟨rfl,rfl,rfl⟩
         ·exact⟨(w64 (c+1)),h,lev []⟩
        ·simp only[wA] at h;cases h;exact⟨rfl,rfl,rfl⟩

theorem aIg(c:List Int)(e:Int){r:Bool}(h:qA c e=some r):Fn Tryz.prog 107 [.d (Z15 c),.i e] (.b r):=by
 unfold qA at h;refine fnx xT {} [.tmp 4] func107 results107 ntmps107 ?_;refine xlp [0,1] [] (λ(a:Int)=>([(5,.i a)],[])) (λk (a:Int)=>lT c e k a) (0) h (lev []) ?_;rintro k2 a h;simp only[lT] at h;refine ol ?_;refine br h (λh=>?_) λh=>?_
 ·refine oi h λx3 h=>?_;refine br h (λh=>?_) λh=>?_
  ·cases h;exact⟨rfl,rfl,rfl⟩
  ·exact⟨(w64 (a+1)),h,lev []⟩
 ·simp only[zV] at h;cases h;exact⟨rfl,rfl,rfl⟩

theorem aNv(e:aQ)(c:List Int){r:Bool}(h:qH e c=some r):Fn Tryz.prog 86 [.agg (bM e),.d (Z15 c)] (.b r):=by
 unfold qH at h;refine fnx xT {} [.tmp 4] func86 results86 ntmps86 ?_;refine xlp [1,2] [2] (λ(a:Int)=>([(5,.i a)],[])) (λk (a:Int)=>jH c e k a) (0) h (lev []) ?_;rintro k3 a h;simp only[jH] at h;refine ol ?_;refine br h (λh=>?_) λh=>?_
 ·refine oi h λx4 h=>?_;refine cl call107 (λ_=>aIg _ _) h λr6 h=>?_;refine br h (λh=>?_) λh=>?_
  ·cases h;exact⟨rfl,rfl,rfl⟩
  ·exact⟨(w64 (a+1)),h,lev []⟩
 ·simp only[uY] at h;cases h;exact⟨rfl,rfl,rfl⟩

theorem aCk(c:aQ)(a:Int){r:Int}(h:nF c a=some r):Fn Tryz.prog 35 [.agg (bM c),.i a] (.i r):=by
 unfold nF at h;refine fnx xT {} [.tmp 4] func35 results35 ntmps35 ?_;refine xlp [1,2] [2] (λ(b:Int)=>([(5,.i b)],[])) (λk (b:Int)=>jG a c k b) (0) h (lev []) ?_;rintro k3 b h;simp only[jG] at h;refine ol ?_;refine br h (λh=>?_) λh=>?_
 ·refine oi h λx4 h=>?_;refine br h (λh=>?_) λh=>?_
  ·cases h;exact⟨rfl,rfl,rfl⟩
  ·exact⟨(w64 (b+1)),h,lev []⟩
 ·simp only[uW] at h;cases h;exact⟨rfl,rfl,rfl⟩

theorem aAy(a:aQ)(c:Int)(d:Int){r:Bool}(h:kO a c d=some r):Fn Tryz.prog 87 [.agg (bM a),.i c,.i d] (.b r):=by
 unfold kO at h;refine fnx xT {} [.tmp 6] func87 results87 ntmps87 ?_;refine jg h (λx h=>?_) λb2 h=>?_
 ·refine br h (λh=>?_) λh=>?_
  ·exact jt h
  ·exact jt h
 ·refine br h (λh=>?_) λh=>?_
  ·cases h;exact⟨rfl,rfl,rfl⟩
  ·refine⟨by kernel_rfl,?_⟩;refine cl call35 (λ_=>aCk _ _) h λr4 h=>?_;refine oi h λx6 h=>?_;refine cl call35 (λ_=>aCk _ _) h λr8 h=>?_;refine oi h λe h=>?_;refine⟨by kernel_rfl,?_⟩;refine jg h (λx h=>?_) λf h=>?_
   ·refine br h (λh=>?_) λh=>?_
    ·exact jt h
    ·exact jt h
   ·refine jg h (λx h=>?_) λg h=>?_
    ·refine br h (λh=>?_) λh=>?_
     ·refine jg h (λx h=>?_) λj h=>?_
      ·refine br h (λh=>?_) λh=>?_
       ·exact jt h
       ·exact jt h
      ·exact jt h
     ·exact jt h
    ·cases h;exact⟨rfl,rfl,rfl⟩

theorem aRl(c:List Int)(a:Int){r:Int}(h:sH c a=some r):Fn Tryz.prog 88 [.d (Z15 c),.i a] (.i r):=by
 unfold sH at h;refine fnx xT {} [.tmp 4] func88 results88 ntmps88 ?_;refine xlp [0,1] [] (λ(b:Int)=>([(5,.i b)],[])) (λk (b:Int)=>kP c a k b) (0) h (lev []) ?_;rintro k2 b h;simp only[kP] at h;refine ol ?_;refine br h (λh=>?_) λh=>?_
 ·refine oi h λx3 h=>?_;refine br h (λh=>?_) λh=>?_
  ·cases h;exact⟨rfl,rfl,rfl⟩
  ·exact⟨(w64 (b+1)),h,lev []⟩
 ·simp only[xH] at h;cases h;exact⟨rfl,rfl,rfl⟩

theorem aOp(a:Int){r:Int}(h:uX a=some r):Fn Tryz.prog 89 [.i a] (.i r):=by
 unfold uX at h;refine fnx xT {} [.tmp 2] func89 results89 ntmps89 ?_;refine cAa ?_;cases h;exact⟨rfl,rfl,rfl⟩

theorem aOo(f:aQ)(c:List Int){r:Bool}(h:qY f c=some r):Fn Tryz.prog 33 [.agg (bM f),.d (Z15 c)] (.b r):=by
 unfold qY at h;refine fnx xT {} [.tmp 4] func33 results33 ntmps33 ?_;refine cl call86 (λ_=>aNv _ _) h λr2 h=>?_;refine br h (λh=>?_) λh=>?_
 ·cases h;exact⟨rfl,rfl,rfl⟩
 ·refine xlp [1,2] [2] (λ(e:Int)=>([(5,.i e)],[])) (λk (e:Int)=>kB c f k e) (0) h (lev []) ?_;rintro k5 e h;simp only[kB] at h;refine br h (λh=>?_) λh=>?_
  ·refine⟨by kernel_rfl,?_⟩;refine oi h λx6 h=>?_;refine oi h λx8 h=>?_;refine cl call87 (λ_=>aAy _ _ _) h λg h=>?_;refine⟨by kernel_rfl,?_⟩;refine br h (λh=>?_) λh=>?_
   ·cases h;exact⟨rfl,rfl,rfl⟩
   ·exact⟨(w64 (e+2)),h,lev []⟩
  ·simp only[nS] at h;refine ol ?_;refine xlp [1,2,6] [2] (λ(a:Int)=>([(7,.i a)],[])) (λk (a:Int)=>kC c (Z21 f) f k a) (0) h (lev []) ?_;rintro j a h;simp only[kC] at h;refine br h (λh=>?_) λh=>?_
   ·refine oi h λl h=>?_;refine cl call88 (λ_=>aRl _ _) h λm h=>?_;refine⟨by kernel_rfl,?_⟩;refine⟨by decide,?_⟩;refine⟨by decide,?_⟩;refine⟨by kernel_rfl,?_⟩;refine jg h (λx h=>?_) λn h=>?_
    ·refine br h (λh=>?_) λh=>?_
     ·exact jt h
     ·exact jt h
    ·refine jg h (λx h=>?_) λo h=>?_
     ·refine br h (λh=>?_) λh=>?_
      ·exact jt h
      ·refine jg h (λx h=>?_) λp h=>?_
       ·refine br h (λh=>?_) λh=>?_
        ·exact jt h
        ·exact jt h
       ·exact jt h
     ·refine jg h (λx h=>?_) λq h=>?_
      ·refine br h (λh=>?_) λh=>?_
       ·exact jt h
       ·refine jg h (λx h=>?_) λs h=>?_
        ·refine br h (λh=>?_) λh=>?_
         ·exact jt h
         ·exact jt h
        ·refine jg h (λx h=>?_) λt h=>?_
         ·refine br h (λh=>?_) λh=>?_
          ·exact jt h
          ·exact jt h
         ·exact jt h
      ·refine br h (λh=>?_) λh=>?_
       ·cases h;exact⟨rfl,rfl,rfl⟩
       ·refine cl call89 (λ_=>aOp _) h λu h=>?_;refine oi h λv h=>?_;refine bSm underlying4 ?_;refine br h (λh=>?_) λh=>?_
        ·cases h;exact⟨rfl,rfl,rfl⟩
        ·exact⟨(w64 (a+1)),h,lev []⟩
   ·simp only[wB] at h;cases h;exact⟨rfl,rfl,rfl⟩

theorem aLo(e:aQ){r:(List Int)}(h:oY e=some r):Fn Tryz.prog 105 [.agg (bM e)] (.d (.sl 1 (r.map aD))):=by
 unfold oY at h;refine fnx xT {ow:=[41,20047,10036]} [.tmp 2] func105 results105 ntmps105 ?_;refine xlp [1] [1] (λ((a,c):Z14×Int)=>([(3,.d (.sl 1 (a.map aD))),(4,.i c)],[])) (λk ((a,c):Z14×Int)=>dY e k a c) (([]:List Int),0) h (lev []) ?_;rintro k3 ⟨a,c⟩ h;simp only[dY] at h;refine ol ?_;refine br h (λh=>?_) λh=>?_
 ·refine oi h λx4 h=>?_;refine xlp [1,3,4,5] [1] (λ(b:Int)=>([(6,.i b)],[])) (λk (b:Int)=>iI (dY e k3) a c x4.Player e k b) (0) h (lev []) ?_;rintro k7 b h;simp only[iI] at h;refine ol ?_;refine jg h (λx h=>?_) λb8 h=>?_
  ·refine br h (λh=>?_) λh=>?_
   ·refine oi h λg h=>?_;exact jt h
   ·exact jt h
  ·refine br h (λh=>?_) λh=>?_
   ·exact⟨(w64 (b+1)),h,lev []⟩
   ·simp only[kI] at h;refine ol ?_;refine osb h λj h=>?_;refine bYn aD h λl h=>?_;refine osb h λm h=>?_;refine oap h λn h=>?_;refine oap h λf h=>?_;simp only[pP] at h;exact⟨(f,w64 (c+1)),h,lev []⟩
 ·simp only[tQ] at h;cases h;exact⟨rfl,rfl,rfl⟩

theorem aRk(c:List Int)(e:Int){r:Int}(h:sG c e=some r):Fn Tryz.prog 106 [.d (Z15 c),.i e] (.i r):=by
 unfold sG at h;refine fnx xT {} [.tmp 4] func106 results106 ntmps106 ?_;refine xlp [0,1] [] (λ((a,b):Int×Int)=>([(5,.i a),(6,.i b)],[])) (λk ((a,b):Int×Int)=>iR c e k a b) (0,0) h (lev []) ?_;rintro k2 ⟨a,b⟩ h;simp only[iR] at h;refine ol ?_;refine br h (λh=>?_) λh=>?_
 ·refine oi h λx3 h=>?_;refine br h (λh=>?_) λh=>?_
  ·exact⟨(w64 (a+1),w64 (b+1)),h,lev []⟩
  ·exact⟨(a,w64 (b+1)),h,lev []⟩
 ·simp only[xG] at h;cases h;exact⟨rfl,rfl,rfl⟩

theorem aRj(e:aQ)(c:List Int){r:Bool}(h:sF e c=some r):Fn Tryz.prog 108 [.agg (bM e),.d (Z15 c)] (.b r):=by
 unfold sF at h;refine fnx xT {} [.tmp 4] func108 results108 ntmps108 ?_;refine ol ?_;refine⟨by kernel_rfl,?_⟩;refine⟨by decide,?_⟩;refine jo h (λx h=>?_) λb2 h=>?_
 ·refine br h (λh=>?_) λh=>?_
  ·refine oi h λx4 h=>?_;refine oi h λx6 h=>?_;refine cl call87 (λ_=>aAy _ _ _) h λr8 h=>?_;exact⟨by kernel_rfl,jt h⟩
  ·exact⟨by kernel_rfl,jt h⟩
 ·refine ⟨by kernel_rfl,?_⟩;refine br h (λh=>?_) λh=>?_
  ·cases h;exact⟨rfl,rfl,rfl⟩
  ·refine xlp [1,2,5] [2] (λ(a:Int)=>([(6,.i a)],[])) (λk (a:Int)=>fR c (w64 ((c.length:Int)-1)) e k a) (0) h (lev []) ?_;rintro f a h;simp only[fR] at h;refine br h (λh=>?_) λh=>?_
   ·refine⟨by kernel_rfl,?_⟩;refine oi h λg h=>?_;refine oi h λj h=>?_;refine⟨by kernel_rfl,?_⟩;refine br h (λh=>?_) λh=>?_
    ·refine bSm underlying4 ?_;refine br h (λh=>?_) λh=>?_
     ·cases h;exact⟨rfl,rfl,rfl⟩
     ·exact⟨(w64 (a+1)),h,lev []⟩
    ·refine br h (λh=>?_) λh=>?_
     ·refine bSm underlying4 ?_;refine br h (λh=>?_) λh=>?_
      ·cases h;exact⟨rfl,rfl,rfl⟩
      ·exact⟨(w64 (a+1)),h,lev []⟩
     ·refine jg h (λx h=>?_) λl h=>?_
      ·refine br h (λh=>?_) λh=>?_
       ·refine⟨by decide,?_⟩;exact jt h
       ·exact jt h
      ·refine jg h (λx h=>?_) λm h=>?_
       ·refine br h (λh=>?_) λh=>?_
        ·refine⟨by decide,?_⟩;exact jt h
        ·exact jt h
       ·refine br h (λh=>?_) λh=>?_
        ·cases h;exact⟨rfl,rfl,rfl⟩
        ·exact⟨(w64 (a+1)),h,lev []⟩
   ·simp only[xF] at h;cases h;exact⟨rfl,rfl,rfl⟩

theorem aLn (kr:Nat):∀(f:aQ) (c:List Int) (e:Int) {r:(List Z14)} (_h:gB kr f c e=some r),Fn Tryz.prog 45 [.agg (bM f),.d (.sl 1 (c.map aD)),.i e] (.d (.sl 1 (r.map oJ))):=by
  induction kr with
  |zero=>intros;rename_i h;cases h
  | succ kr ih=>
    intro f c e r h;simp only[gB] at h;refine fnx xT {ow:=[8,68,20076,10021]} [.tmp 6] func45 results45 ntmps45 ?_;refine ol ?_;refine br h (λh=>?_) λh=>?_
    ·refine cl call33 (λ_=>aOo _ _) h λr2 h=>?_;refine br h (λh=>?_) λh=>?_
     ·cases h;exact⟨rfl,rfl,rfl⟩
     ·cases h;exact⟨rfl,rfl,rfl⟩
    ·refine cd call105 (λ_=>aLo _) h λr4 h=>?_;refine bYn aD h λx6 h=>?_;refine xlp [1,2,3,7] [3] (λ((b,a):Int×(List Z14))=>([(8,.d (.hv 0 8 0)),(9,.i b)],[(8,.arr 23 1 (a.map oJ))])) (λk ((b,a):Int×(List Z14))=>fP (gB kr) c e x6 f k b a) (0,([]:List Z14)) h (lev []) ?_;rintro j ⟨b,a⟩ h;simp only[fP] at h;refine ol ?_;refine jg h (λx h=>?_) λl h=>?_
     ·refine br h (λh=>?_) λh=>?_
      ·refine ol ?_;exact jt h
      ·exact jt h
     ·refine br h (λh=>?_) λh=>?_
      ·refine⟨by kernel_rfl,?_⟩;refine oi h λm h=>?_;refine jo h (λx h=>?_) λn h=>?_
       ·refine br h (λh=>?_) λh=>?_
        ·refine cl call106 (λ_=>aRk _ _) h λo h=>?_;refine ol ?_;exact⟨by kernel_rfl,jt h⟩
        ·exact⟨by kernel_rfl,jt h⟩
       ·refine jo h (λx h=>?_) λp h=>?_
        ·refine br h (λh=>?_) λh=>?_
         ·exact⟨by kernel_rfl,jt h⟩
         ·refine oi h λq h=>?_;refine jo h (λx h=>?_) λs h=>?_
          ·refine br h (λh=>?_) λh=>?_
           ·refine oi h λt h=>?_;refine cl call107 (λ_=>aIg _ _) h λu h=>?_;exact⟨by kernel_rfl,jt h⟩
           ·exact⟨by kernel_rfl,jt h⟩
          ·exact⟨by kernel_rfl,jt h⟩
        ·refine⟨by kernel_rfl,?_⟩;refine br h (λh=>?_) λh=>?_
         ·exact⟨(w64 (b+1),a),h,lev []⟩
         ·refine⟨by kernel_rfl,?_⟩;refine oap h λv h=>?_;refine oi h λw h=>?_;refine oap h λy h=>?_;refine⟨by kernel_rfl,?_⟩;refine cl call108 (λ_=>aRj _ _) h λz h=>?_;refine br h (λh=>?_) λh=>?_
          ·refine ol ?_;refine cd call45 (λ_=>ih _ _ _) h λA h=>?_;refine oap h λg h=>?_;exact⟨(w64 (b+1),g),h,lev [(8,88)]⟩
          ·exact⟨(w64 (b+1),a),h,lev []⟩
      ·simp only[aAx] at h;cases h;exact⟨rfl,rfl,rfl⟩
theorem aNu(c:aQ)(a:List Int)(b:Int){r:(List (List Int))}(h:yY c a b=some r):Fn Tryz.prog 45 [.agg (bM c),.d (Z15 a),.i b] (.d (.sl 1 (r.map oJ))):=aLn BIG _ _ _ h

theorem aSy(a:aQ){r:Bool}(h:tP a=some r):Fn Tryz.prog 8 [.agg (bM a)] (.b r):=by
 unfold tP at h;refine fnx xT {} [.tmp 2] func8 results8 ntmps8 ?_;refine ol ?_;refine jg h (λx h=>?_) λb2 h=>?_
 ·refine br h (λh=>?_) λh=>?_
  ·exact jt h
  ·refine ol ?_;exact jt h
 ·refine jg h (λx h=>?_) λb4 h=>?_
  ·refine br h (λh=>?_) λh=>?_
   ·exact jt h
   ·refine cl call9 (λ_=>aDy _) h λr6 h=>?_;refine jg h (λx h=>?_) λb8 h=>?_
    ·refine br h (λh=>?_) λh=>?_
     ·refine cd call45 (λ_=>aNu _ _ _) h λc h=>?_;refine ol ?_;exact jt h
     ·exact jt h
    ·exact jt h
  ·cases h;exact⟨rfl,rfl,rfl⟩

theorem eQ(d:Int)(c:Int)(a:Int){r:Bool}(h:cU d c a=some r):Fn Tryz.prog 63 [.i d,.i c,.i a] (.b r):=by
 unfold cU at h;refine fnx xT {} [.tmp 6] func63 results63 ntmps63 ?_;refine jg h (λx h=>?_) λb1 h=>?_
 ·refine br h (λh=>?_) λh=>?_
  ·exact jt h
  ·exact jt h
 ·cases h;exact⟨rfl,rfl,rfl⟩

theorem aAg(a:aX){r:Bool}(h:gC a=some r):Fn Tryz.prog 62 [.agg (bX a)] (.b r):=by
 unfold gC at h;refine fnx xT {} [.tmp 2] func62 results62 ntmps62 ?_;refine jg h (λx h=>?_) λb2 h=>?_
 ·refine br h (λh=>?_) λh=>?_
  ·exact jt h
  ·exact jt h
 ·refine jg h (λx h=>?_) λb4 h=>?_
  ·refine br h (λh=>?_) λh=>?_
   ·exact jt h
   ·exact jt h
  ·cases h;exact⟨rfl,rfl,rfl⟩

theorem aOs(f:bE)(a:Int)(e:Int){r:Bool}(h:rA f a e=some r):Fn Tryz.prog 66 [.agg (bD f),.i a,.i e] (.b r):=by
 unfold rA at h;refine fnx xT {} [.tmp 6] func66 results66 ntmps66 ?_;refine cl call62 (λ_=>aAg _) h λr2 h=>?_;refine jg h (λx h=>?_) λb4 h=>?_
 ·refine br h (λh=>?_) λh=>?_
  ·exact jt h
  ·refine cl call63 (λ_=>eQ _ _ _) h λr6 h=>?_;exact jt h
 ·refine jg h (λx h=>?_) λb8 h=>?_
  ·refine br h (λh=>?_) λh=>?_
   ·exact jt h
   ·refine cl call63 (λ_=>eQ _ _ _) h λg h=>?_;exact jt h
  ·refine br h (λh=>?_) λh=>?_
   ·cases h;exact⟨rfl,rfl,rfl⟩
   ·refine xlp [1,2,3] [3] (λ(c:Int)=>([(7,.i c)],[])) (λk (c:Int)=>iD a e f k c) (0) h (lev []) ?_;rintro j c h;simp only[iD] at h;refine ol ?_;refine br h (λh=>?_) λh=>?_
    ·refine⟨by kernel_rfl,?_⟩;refine oi h λl h=>?_;refine cl call63 (λ_=>eQ _ _ _) h λm h=>?_;refine jo h (λx h=>?_) λn h=>?_
     ·refine br h (λh=>?_) λh=>?_
      ·exact⟨by kernel_rfl,jt h⟩
      ·refine jo h (λx h=>?_) λo h=>?_
       ·refine br h (λh=>?_) λh=>?_
        ·refine oi h λp h=>?_;refine oi h λq h=>?_;exact⟨by kernel_rfl,jt h⟩
        ·exact⟨by kernel_rfl,jt h⟩
       ·exact⟨by kernel_rfl,jt h⟩
     ·refine⟨by kernel_rfl,?_⟩;refine br h (λh=>?_) λh=>?_
      ·cases h;exact⟨rfl,rfl,rfl⟩
      ·exact⟨(w64 (c+1)),h,lev []⟩
    ·simp only[nW] at h;refine xlp [1,2,3] [3] (λ(d:Int)=>([(8,.i d)],[])) (λk (d:Int)=>kE a e f k d) (0) h (lev []) ?_;rintro s d h;simp only[kE] at h;refine ol ?_;refine br h (λh=>?_) λh=>?_
     ·refine⟨by kernel_rfl,?_⟩;refine oi h λt h=>?_;refine cl call63 (λ_=>eQ _ _ _) h λu h=>?_;refine jo h (λx h=>?_) λv h=>?_
      ·refine br h (λh=>?_) λh=>?_
       ·exact⟨by kernel_rfl,jt h⟩
       ·refine oi h λw h=>?_;exact⟨by kernel_rfl,jt h⟩
      ·refine jo h (λx h=>?_) λy h=>?_
       ·refine br h (λh=>?_) λh=>?_
        ·exact⟨by kernel_rfl,jt h⟩
        ·refine jo h (λx h=>?_) λz h=>?_
         ·refine br h (λh=>?_) λh=>?_
          ·refine oi h λA h=>?_;refine oi h λB h=>?_;exact⟨by kernel_rfl,jt h⟩
          ·exact⟨by kernel_rfl,jt h⟩
         ·exact⟨by kernel_rfl,jt h⟩
       ·refine⟨by kernel_rfl,?_⟩;refine br h (λh=>?_) λh=>?_
        ·cases h;exact⟨rfl,rfl,rfl⟩
        ·exact⟨(w64 (d+1)),h,lev []⟩
     ·simp only[wJ] at h;cases h;exact⟨rfl,rfl,rfl⟩

theorem xO (d:aI){r:Int}(h:jJ d=some r):Fn Tryz.prog 18 [.agg (bJ d)] (.i r):=by
 unfold jJ at h;refine fnx xT {} [.tmp 2] func18 results18 ntmps18 ?_;refine ol ?_;refine cl call63 (λ_=>eQ _ _ _) h λr2 h=>?_;refine jg h (λx h=>?_) λb4 h=>?_
 ·refine br h (λh=>?_) λh=>?_
  ·exact jt h
  ·refine oi h λx6 h=>?_;refine ol ?_;refine cl call63 (λ_=>eQ _ _ _) h λr8 h=>?_;exact jt h
 ·refine jg h (λx h=>?_) λf h=>?_
  ·refine br h (λh=>?_) λh=>?_
   ·exact jt h
   ·refine cl call63 (λ_=>eQ _ _ _) h λg h=>?_;exact jt h
  ·refine jg h (λx h=>?_) λj h=>?_
   ·refine br h (λh=>?_) λh=>?_
    ·exact jt h
    ·refine ol ?_;exact jt h
   ·refine br h (λh=>?_) λh=>?_
    ·cases h;exact⟨rfl,rfl,rfl⟩
    ·refine xlp [1] [1] (λ(a:Int)=>([(3,.i a)],[])) (λk (a:Int)=>dM d k a) (0) h (lev []) ?_;rintro e a h;simp only[dM] at h;refine ol ?_;refine br h (λh=>?_) λh=>?_
     ·refine⟨by kernel_rfl,?_⟩;refine oi h λl h=>?_;refine ol ?_;refine oi h λm h=>?_;refine ol ?_;refine⟨by kernel_rfl,?_⟩;refine br h (λh=>?_) λh=>?_
      ·cases h;exact⟨rfl,rfl,rfl⟩
      ·refine xlp [1,3] [1] (λ(b:Int)=>([(4,.i b)],[])) (λk (b:Int)=>iC (dM d e) a d k b) (0) h (lev []) ?_;rintro n b h;simp only[iC] at h;refine oi h λo h=>?_;refine ol ?_;refine br h (λh=>?_) λh=>?_
       ·refine oi h λp h=>?_;refine oi h λq h=>?_;refine jg h (λx h=>?_) λs h=>?_
        ·refine br h (λh=>?_) λh=>?_
         ·exact jt h
         ·exact jt h
        ·refine jg h (λx h=>?_) λt h=>?_
         ·refine br h (λh=>?_) λh=>?_
          ·exact jt h
          ·exact jt h
         ·refine br h (λh=>?_) λh=>?_
          ·cases h;exact⟨rfl,rfl,rfl⟩
          ·exact⟨(w64 (b+1)),h,lev []⟩
       ·simp only[wH] at h;simp only[wG] at h;exact⟨(w64 (a+1)),h,lev []⟩
     ·simp only[nV] at h;refine xlp [1] [1] (λ(c:Int)=>([(6,.i c)],[])) (λk (c:Int)=>kD d k c) (0) h (lev []) ?_;rintro u c h;simp only[kD] at h;refine ol ?_;refine br h (λh=>?_) λh=>?_
      ·refine⟨by kernel_rfl,?_⟩;refine oi h λv h=>?_;refine ol ?_;refine cl call66 (λ_=>aOs _ _ _) h λw h=>?_;refine⟨by kernel_rfl,?_⟩;refine br h (λh=>?_) λh=>?_
       ·cases h;exact⟨rfl,rfl,rfl⟩
       ·exact⟨(w64 (c+1)),h,lev []⟩
      ·simp only[wI] at h;cases h;exact⟨rfl,rfl,rfl⟩

theorem aJz(c:eP){r:Bool}(h:nX c=some r):Fn Tryz.prog 10 [.agg (aBd c)] (.b r):=by
 unfold nX at h;refine fnx xT {} [.tmp 2] func10 results10 ntmps10 ?_;refine ol ?_;refine jg h (λx h=>?_) λb2 h=>?_
 ·refine br h (λh=>?_) λh=>?_
  ·exact jt h
  ·refine ol ?_;exact jt h
 ·refine br h (λh=>?_) λh=>?_
  ·cases h;exact⟨rfl,rfl,rfl⟩
  ·refine xlp [1] [1] (λ(a:Int)=>([(3,.i a)],[])) (λk (a:Int)=>gT c k a) (0) h (lev []) ?_;rintro k5 a h;simp only[gT] at h;refine ol ?_;refine br h (λh=>?_) λh=>?_
   ·refine oi h λx6 h=>?_;refine ol ?_;refine br h (λh=>?_) λh=>?_
    ·cases h;exact⟨rfl,rfl,rfl⟩
    ·exact⟨(w64 (a+1)),h,lev []⟩
   ·simp only[oQ] at h;refine⟨by kernel_rfl,?_⟩;refine cl call18 (λ_=>xO _) h λr8 h=>?_;refine jo h (λx h=>?_) λd h=>?_
    ·refine br h (λh=>?_) λh=>?_
     ·refine ol ?_;refine oi h λe h=>?_;refine ol ?_;exact⟨by kernel_rfl,jt h⟩
     ·exact⟨by kernel_rfl,jt h⟩
    ·refine⟨by kernel_rfl,?_⟩;cases h;exact⟨rfl,rfl,rfl⟩

theorem aLk{r:aQ×aQ}(h:sE=some r):Fn Tryz.prog 47 [] (.tup [.agg (bM r.1),.agg (bM r.2)]):=by
 unfold sE at h;refine fnx xT {} [.cell 0 25,.cell 1 25] func47 results47 ntmps47 ?_;refine⟨by kernel_rfl,?_⟩;refine⟨by kernel_rfl,?_⟩;cases h;exact⟨rfl,_,_,rfl,rfl,rfl,rfl,rfl⟩

theorem tX(d:Int)(c:Int)(a:Int){r:Bool}(h:kR d c a=some r):Fn Tryz.prog 92 [.i d,.i c,.i a] (.b r):=by
 unfold kR at h;refine fnx xT {} [.tmp 6] func92 results92 ntmps92 ?_;refine jg h (λx h=>?_) λb1 h=>?_
 ·refine br h (λh=>?_) λh=>?_
  ·exact jt h
  ·exact jt h
 ·cases h;exact⟨rfl,rfl,rfl⟩

theorem aCf(e:List cJ)(f:cJ->Option Bool){r:Int}(a:Nat)(c:List AV)(j:∀args w,(callFunc a args).run Tryz.prog w=.ok (.enter a args) w)(l:∀(x0:cJ) r,f x0=some r->Fn Tryz.prog a ([.agg (bL x0)]++c) (.b r))(h:jA e f=some r):Fn Tryz.prog 199 [.d (.sl 3 (e.map bL)),.fn a c] (.i r):=by
 unfold jA at h;refine oT [.tmp 4] func199 results199 ntmps199 ?_;refine au 12 ?_;refine eV (S:=Int) [0,1,7] (λs1=>[(8,.i s1)]) (λs1=>[]) (λk s1=>eJ e f (e.length:Int) k s1) (λ_=>rfl) (0) h (aO [] rfl rfl (aL rfl (aR (ae rfl)))) ?_;rintro k2 g h;simp only[eJ] at h;refine au 5 ?_;refine tih h (λc3 h=>?_) (λc3 h=>?_)
 ·refine au 10 ?_;refine tm (.fn a c) (au 2 ?_);obtain⟨x4,h5,h⟩:=bns h;refine to (six rfl rfl bMe.of (cF bL h5)) (to (aDe (bL x4) rfl bXl) ?_);obtain⟨r6,h7,h⟩:=bns h;refine to (fZ (aE rfl) (.clo _ _ _ _ j rfl) (aLv rfl) rfl (BVs.refl _ _) (l _ _ h7) rfl) ?_;refine bN ?_;refine tih h (λc8 h=>?_) (λc8 h=>?_)
  ·refine au 5 ?_;obtain rfl:=sIn h;exact rt
  ·refine iO ?_;refine au 4 ?_;exact⟨(w64 (g+1)),h,aO [] rfl rfl (aL rfl (aR (ae rfl)))⟩
 ·refine cZ ?_;refine .inl ⟨rfl,?_⟩;simp only[nC] at h;refine au 4 ?_;obtain rfl:=sIn h;exact rt

theorem aAd(g:List cJ)(i:cJ->Option Bool){r:Bool}(a:Nat)(c:List AV)(e:∀args w,(callFunc a args).run Tryz.prog w=.ok (.enter a args) w)(f:∀(x0:cJ) r,i x0=some r->Fn Tryz.prog a ([.agg (bL x0)]++c) (.b r))(h:gQ g i=some r):Fn Tryz.prog 148 [.d (.sl 3 (g.map bL)),.fn a c] (.b r):=by
 unfold gQ at h;refine oT [.tmp 4] func148 results148 ntmps148 ?_;refine au 7 ?_;refine tm (.fn a c) ?_;obtain⟨r1,h2,h⟩:=bns h;refine to (scr call199 (aCf _ _ a c e f h2)) (au 3 ?_);obtain rfl:=sIn h;exact rt

theorem aUz(a:cJ)(c:cJ){r:Bool}(h:zP a c=some r):Fn Tryz.prog 149 [.agg (bL a),.cp (bL c)] (.b r):=by
 unfold zP at h;refine fnx xT {} [.tmp 3] func149 results149 ntmps149 ?_;cases h;exact⟨rfl,rfl,rfl⟩

theorem aJq(e:List Int)(f:Int->Option Bool){r:Int}(a:Nat)(c:List AV)(j:∀args w,(callFunc a args).run Tryz.prog w=.ok (.enter a args) w)(l:∀(x0:Int) r,f x0=some r->Fn Tryz.prog a ([.i x0]++c) (.b r))(h:jN e f=some r):Fn Tryz.prog 182 [.d (Z15 e),.fn a c] (.i r):=by
 unfold jN at h;refine oT [.tmp 4] func182 results182 ntmps182 ?_;refine au 12 ?_;refine eV (S:=Int) [0,1,7] (λs1=>[(8,.i s1)]) (λs1=>[]) (λk s1=>dW e f (e.length:Int) k s1) (λ_=>rfl) (0) h (aO [] rfl rfl (aL rfl (aR (ae rfl)))) ?_;rintro k2 g h;simp only[dW] at h;refine au 5 ?_;refine tih h (λc3 h=>?_) (λc3 h=>?_)
 ·refine au 10 ?_;refine tm (.fn a c) (au 2 ?_);obtain⟨x4,h5,h⟩:=bns h;refine to (six rfl rfl cR.of (cF aD h5)) (to (slc rfl dI) ?_);obtain⟨r6,h7,h⟩:=bns h;refine to (fZ (aE rfl) (.clo _ _ _ _ j rfl) (aLv rfl) rfl (BVs.refl _ _) (l _ _ h7) rfl) ?_;refine bN ?_;refine tih h (λc8 h=>?_) (λc8 h=>?_)
  ·refine au 5 ?_;obtain rfl:=sIn h;exact rt
  ·refine iO ?_;refine au 4 ?_;exact⟨(w64 (g+1)),h,aO [] rfl rfl (aL rfl (aR (ae rfl)))⟩
 ·refine cZ ?_;refine .inl ⟨rfl,?_⟩;simp only[nQ] at h;refine au 4 ?_;obtain rfl:=sIn h;exact rt

theorem wV(g:List Int)(j:Int->Option Bool){r:Bool}(a:Nat)(c:List AV)(e:∀args w,(callFunc a args).run Tryz.prog w=.ok (.enter a args) w)(f:∀(x0:Int) r,j x0=some r->Fn Tryz.prog a ([.i x0]++c) (.b r))(h:fL g j=some r):Fn Tryz.prog 130 [.d (Z15 g),.fn a c] (.b r):=by
 unfold fL at h;refine oT [.tmp 4] func130 results130 ntmps130 ?_;refine au 7 ?_;refine tm (.fn a c) ?_;obtain⟨r1,h2,h⟩:=bns h;refine to (scr call182 (aJq _ _ a c e f h2)) (au 3 ?_);obtain rfl:=sIn h;exact rt

theorem aVa(a:Int){r:Bool}(h:zQ a=some r):Fn Tryz.prog 150 [.i a] (.b r):=by
 unfold zQ at h;refine fnx xT {} [.tmp 2] func150 results150 ntmps150 ?_;refine cl call92 (λ_=>tX _ _ _) h λr1 h=>?_;cases h;exact⟨rfl,rfl,rfl⟩

theorem bBm (b:aQ){r:Int}(h:vR b=some r):Fn Tryz.prog 95 [.agg (bM b)] (.i r):=by
 unfold vR at h;refine fnx xT {} [.tmp 2] func95 results95 ntmps95 ?_;refine ol ?_;refine jg h (λx h=>?_) λb2 h=>?_
 ·refine br h (λh=>?_) λh=>?_
  ·exact jt h
  ·exact jt h
 ·refine jg h (λx h=>?_) λb4 h=>?_
  ·refine br h (λh=>?_) λh=>?_
   ·exact jt h
   ·refine cl call92 (λ_=>tX _ _ _) h λr6 h=>?_;exact jt h
  ·refine jg h (λx h=>?_) λb8 h=>?_
   ·refine br h (λh=>?_) λh=>?_
    ·exact jt h
    ·refine⟨by decide,?_⟩;exact jt h
   ·refine jg h (λx h=>?_) λd h=>?_
    ·refine br h (λh=>?_) λh=>?_
     ·exact jt h
     ·refine⟨by decide,?_⟩;refine bLf ?_;refine cl call92 (λ_=>tX _ _ _) h λe h=>?_;exact jt h
    ·refine jg h (λx h=>?_) λf h=>?_
     ·refine br h (λh=>?_) λh=>?_
      ·exact jt h
      ·refine ol ?_;exact jt h
     ·refine br h (λh=>?_) λh=>?_
      ·cases h;exact⟨rfl,rfl,rfl⟩
      ·refine ol ?_;refine xlp [1,53,54] [1] (λ(a:Int)=>([(55,.i a)],[])) (λk (a:Int)=>oG b.Persons (b.Persons.length:Int) b k a) (0) h (lev []) ?_;rintro g a h;simp only[oG] at h;refine br h (λh=>?_) λh=>?_
       ·refine oi h λc h=>?_;refine osb h λj h=>?_;refine cl call148 (λ_=>aAd _ _ 149 [.cp [.j c.Player,.j c.Nation,.k c.Qualified]] call149 (λ_ _ h=>aUz _ _ h)) h λl h=>?_;refine jg h (λx h=>?_) λm h=>?_
        ·refine br h (λh=>?_) λh=>?_
         ·exact jt h
         ·refine cl call92 (λ_=>tX _ _ _) h λn h=>?_;exact jt h
        ·refine jg h (λx h=>?_) λo h=>?_
         ·refine br h (λh=>?_) λh=>?_
          ·exact jt h
          ·refine cl call92 (λ_=>tX _ _ _) h λp h=>?_;exact jt h
         ·refine jg h (λx h=>?_) λq h=>?_
          ·refine br h (λh=>?_) λh=>?_
           ·exact jt h
           ·refine jg h (λx h=>?_) λs h=>?_
            ·refine br h (λh=>?_) λh=>?_
             ·exact jt h
             ·exact jt h
            ·exact jt h
          ·refine br h (λh=>?_) λh=>?_
           ·cases h;exact⟨rfl,rfl,rfl⟩
           ·exact⟨(w64 (a+1)),h,lev []⟩
       ·simp only[yQ] at h;refine cl call130 (λ_=>wV _ _ 150 [] call150 (λ_ _ h=>aVa _ h)) h λt h=>?_;refine br h (λh=>?_) λh=>?_
        ·cases h;exact⟨rfl,rfl,rfl⟩
        ·cases h;exact⟨rfl,rfl,rfl⟩

theorem aKu(x:List Int)(cmp:Int->Int->Option Int){r:List Int}{x_v:Value}{e:TypeId}(f:Nat)(v:List AV)(he:∀args w,(callFunc f args).run Tryz.prog w=.ok (.enter f args) w)(hh:∀x0 x1 r,cmp x0 x1=some r->Fn Tryz.prog f ([.i x0,.i x1]++v) (.i r))(h:rU x cmp=some r):dX Tryz.prog 167 [.d (.lit x_v),.fn f v] [.arr x_v e 1 (x.map aD)] (λr' o'=>r'=.tup []/\o'=[.arr x_v e 1 (r.map aD)]):=bPp (λenc h1 cf hO g cb blk off cap d w=>Tryz.slices_SortFunc_total enc h1 cf hO g cb blk off cap d w) (λp cap fv w=>Tryz.slices_SortFunc_none (α:=Int) p cap fv w) he hh h

theorem aVb(a:Int)(b:Int)(c:aQ){r:Int}(h:iH a b c=some r):Fn Tryz.prog 168 [.i a,.i b,.cp (bM c)] (.i r):=by
 unfold iH at h;refine fnx xT {} [.tmp 5] func168 results168 ntmps168 ?_;refine⟨by kernel_rfl,?_⟩;refine oi h λx1 h=>?_;refine oi h λx3 h=>?_;refine⟨by kernel_rfl,?_⟩;cases h;exact⟨rfl,rfl,rfl⟩

theorem aNk(a:aQ){r:List Int}(h:lP a=some r):Fn Tryz.prog 109 [.agg (bM a)] (.fn 169 [.cp [.j a.Size,.j a.Seeds,.sl 3 (Z13 a),.sl 1 (Z20 a)],.cp (Z19 r)]):=by
 unfold lP at h;refine vI func109 rfl (rs:=[.tmp 2]) results109 ntmps109 (Nat.le_of_ble_eq_true rfl) ?_;refine bT (bQ ?_);refine bO rfl (lC (v:=.agg (bM a)) (aE rfl) rfl rfl rfl) ?_;rintro _ ⟨b1,rfl⟩;refine au 4 ?_;refine bO rfl (dG (zs:=Z30) (aE rfl) zeroValue23 rfl rfl) ?_;rintro _ ⟨b2,rfl⟩;refine gW (aBf 3 1) ?_;refine au 10 ?_;refine eV (S:=Int×Z14×Value) [1,3,7] (λs3=>[(8,.i s3.1)]) (λs3=>[.box b1 0 (bM a),.arr s3.2.2 3 1 (s3.2.1.map aD),.box b2 0 [.lit s3.2.2]]) (λk s3=>oI (a.Persons.length:Int) a k s3.1 s3.2.1) (λ_=>rfl) (0,([]:List Int),(.slice none 0 0)) h (aO [0,2,1] rfl rfl (aL rfl (aR (ae rfl)))) ?_;rintro k5 ⟨c,b,w4⟩ h;simp only[oI] at h;refine au 5 ?_;refine tih h (λc6 h=>?_) (λc6 h=>?_)
 ·refine au 11 ?_;refine to (qG (aE rfl) cR rfl rfl (rows:=([c]).map aD) rfl (dT (f:=aD) λ_=>rfl) rfl (by decide)) ?_;obtain⟨x7,h8,h⟩:=bns h;refine bO rfl (pM (i:=1) (aE rfl) cR rfl rfl rfl (λ_=>rfl) h8 rfl) ?_;rintro _ ⟨v9,rfl⟩;refine to (sst 2 rfl rfl sizeOf23 [.lit v9]) ?_;refine kK ?_;refine au 4 ?_;exact⟨(w64 (c+1),x7,v9),h,aO [0,1,2] rfl rfl (aL rfl (aR (ae rfl)))⟩
 ·refine cZ ?_;refine .inl ⟨rfl,?_⟩;simp only[oH] at h;refine au 3 ?_;refine to (aQa (aE rfl) rfl rfl) ?_;refine gW (aO [1,2,0] rfl rfl (le_refl _)) ?_;apply aZc [.arr w4 3 1 (b.map aD),.box b2 0 [.lit w4]] [.box b1 0 (bM a)] rfl;exact tK (k:=17) (v:=.fn 168 [.cp [.j a.Size,.j a.Seeds,.sl 3 (Z13 a),.sl 1 (Z20 a)]]) (aQm (.cons (aDk 0 rfl rfl (dvc (.same _) (dvc (.same _) (dvc (.same _) (dvc (.same _) dvn))))) .nil)) (tK (k:=1) (v:=.cp [.j a.Size,.j a.Seeds,.sl 3 (Z13 a),.sl 1 (Z20 a)]) (aDk 0 rfl rfl (dvc (.same _) (dvc (.same _) (dvc (.same _) (dvc (.same _) dvn))))) (aGj _ _));obtain⟨e,g,h⟩:=bns h;refine bO rfl (oN (passed:=[.arr w4 3 1 (b.map aD)]) (aE rfl) rfl (.func _ _ call167) rfl rfl (aKu b (λj l=>iH j l a) 168 [.cp [.j a.Size,.j a.Seeds,.sl 3 (Z13 a),.sl 1 (Z20 a)]] call168 (λ_ _ _ h=>aVb _ _ _ h) g)) ?_;rintro _ ⟨_,_,⟨rfl,rfl⟩,rfl⟩;refine au 3 ?_;refine bO rfl (aQb (aE rfl) cR rfl rfl (rows:=([(-1)]).map aD) rfl (dT (f:=aD) λ_=>rfl) rfl (by decide)) ?_;rintro _ ⟨m,rfl⟩;refine gW (aO [1,2,0] rfl rfl (le_refl _)) ?_;refine gW (bKl (ds':=[.sl 1 (e.map aD)]) [.arr m 3 1 (([(-1)]).map aD)] [.arr w4 3 1 (e.map aD)] rfl (dvc (pE 0 rfl (dT (f:=aD) λ_=>rfl)) dvn) (tK (k:=16) (v:=.any) (.any _) (aGj _ _))) ?_;refine to (sl 0 rfl rfl rfl rG) ?_;obtain⟨n,o,h⟩:=bns h;refine bO rfl (pM (i:=1) (aE rfl) cR rfl rfl rfl (λ_=>rfl) o rfl) ?_;rintro _ ⟨d,rfl⟩;refine to (sst 0 rfl rfl sizeOf23 [.lit d]) (au 3 ?_);refine to (aQa (aE rfl) rfl rfl) ?_;refine ta (.fn 169 [.cp [.j a.Size,.j a.Seeds,.sl 3 (Z13 a),.sl 1 (Z20 a)],.bp b2 0 0]) (bN ?_);obtain rfl:=sIn h;exact cG ⟨rfl,_,[.box b2 0 [.lit d],.arr d 3 1 (n.map aD)],.one (.tmp 2 (v:=.fn 169 [.cp [.j a.Size,.j a.Seeds,.sl 3 (Z13 a),.sl 1 (Z20 a)],.bp b2 0 0]) rfl),.refl _,(aQm (.cons (.same _) (.cons (aDk 0 rfl rfl (dvc (pE 1 rfl (dT (f:=aD) λ_=>rfl)) dvn)) .nil)))⟩

theorem wO(a:List Int){r:(List Int)}(h:jM a=some r):dX Tryz.prog 93 [.d (Z15 a)] [] (λr' o'=>∃(w0:Value),r'=.d (.lit w0)/\o'=[.arr w0 3 1 (r.map aD)]):=by
 unfold jM at h;refine kF func93 rfl (rs:=[.tmp 2]) results93 ntmps93 (Nat.le_of_ble_eq_true rfl) ?_;refine bT (bQ (to (sR 3 1 (.inl rfl) (aE rfl)) ?_));refine au 5 ?_;refine bO rfl (bLv (aE rfl) rfl rfl underlying23) ?_;rintro _ ⟨b2,h3,rfl⟩;refine bN ?_;refine aDt rfl (λc4=>?_) (λc4=>?_)
 ·obtain rfl:=bLd (h3 c4)
  simp[app] at h
  subst h;refine bT (bQ (to (sR 3 1 (.inl rfl) (aE rfl)) ?_));refine bN ?_;refine eW (aO [1,0] rfl rfl (le_refl _)) ?_;exact cG ⟨rfl,_,Z32,Z32,_,.one (.tmp 2 (v:=.d Z43) rfl),.refl _,.same _,(.slice none 0 0),rfl,rfl⟩
 ·refine au 3 ?_;refine bO rfl (aQb (aE rfl) cR rfl rfl (rows:=(([]:List Int)).map aD) rfl (dT (f:=aD) λ_=>rfl) rfl (by decide)) ?_;rintro _ ⟨v5,rfl⟩;refine tm (.d (Z15 a)) ?_;obtain⟨x6,h7,h⟩:=bns h;refine bO rfl (pM (i:=1) (aE rfl) cR rfl rfl rfl (λ_=>rfl) h7 rfl) ?_;rintro _ ⟨v8,rfl⟩;refine au 2 ?_;obtain rfl:=sIn h;refine eW (aO [1,0] rfl rfl (le_refl _)) ?_;exact cG ⟨rfl,_,[.arr v8 3 1 (x6.map aD)],Z32,_,.one (.tmp 2 (v:=.d (.lit v8)) rfl),.refl _,.same _,v8,rfl,rfl⟩

theorem yJ(b:List Int)(c:Int){r:Int}(h:fJ b c=some r):Fn Tryz.prog 117 [.d (Z15 b),.i c] (.i r):=by
 unfold fJ at h;refine fnx xT {} [.tmp 4] func117 results117 ntmps117 ?_;refine ol ?_;refine xlp [0,1,7] [] (λ(a:Int)=>([(8,.i a)],[])) (λk (a:Int)=>fH b c (b.length:Int) k a) (0) h (lev []) ?_;rintro k2 a h;simp only[fH] at h;refine br h (λh=>?_) λh=>?_
 ·refine oi h λx3 h=>?_;refine br h (λh=>?_) λh=>?_
  ·cases h;exact⟨rfl,rfl,rfl⟩
  ·exact⟨(w64 (a+1)),h,lev []⟩
 ·simp only[rT] at h;cases h;exact⟨rfl,rfl,rfl⟩

theorem dK(a:List Int)(c:Int){r:Bool}(h:cN a c=some r):Fn Tryz.prog 91 [.d (Z15 a),.i c] (.b r):=by
 unfold cN at h;refine fnx xT {} [.tmp 4] func91 results91 ntmps91 ?_;refine cl call117 (λ_=>yJ _ _) h λr1 h=>?_;cases h;exact⟨rfl,rfl,rfl⟩

theorem tW(c:aQ)(a:Int)(d:Int){r:Bool}(h:aBc c a d=some r):Fn Tryz.prog 171 [.agg (bM c),.i a,.i d] (.b r):=by
 unfold aBc at h;refine fnx xT {} [.tmp 6] func171 results171 ntmps171 ?_;refine⟨by decide,?_⟩;refine⟨by decide,?_⟩;refine jg h (λx h=>?_) λb2 h=>?_
 ·refine br h (λh=>?_) λh=>?_
  ·exact jt h
  ·exact jt h
 ·refine br h (λh=>?_) λh=>?_
  ·cases h;exact⟨rfl,rfl,rfl⟩
  ·refine jg h (λx h=>?_) λb4 h=>?_
   ·refine br h (λh=>?_) λh=>?_
    ·exact jt h
    ·exact jt h
   ·refine br h (λh=>?_) λh=>?_
    ·cases h;exact⟨rfl,rfl,rfl⟩
    ·refine jg h (λx h=>?_) λb6 h=>?_
     ·refine br h (λh=>?_) λh=>?_
      ·exact jt h
      ·exact jt h
     ·refine br h (λh=>?_) λh=>?_
      ·cases h;exact⟨rfl,rfl,rfl⟩
      ·refine jg h (λx h=>?_) λb8 h=>?_
       ·refine br h (λh=>?_) λh=>?_
        ·refine cl call91 (λ_=>dK _ _) h λe h=>?_;exact jt h
        ·exact jt h
       ·cases h;exact⟨rfl,rfl,rfl⟩

theorem bBo(a:aQ)(c:Int)(d:Int){r:Bool}(h:zK a c d=some r):Fn Tryz.prog 219 [.agg (bM a),.i c,.i d] (.b r):=by
 unfold zK at h;refine fnx xT {} [.tmp 6] func219 results219 ntmps219 ?_;refine jg h (λx h=>?_) λb2 h=>?_
 ·refine br h (λh=>?_) λh=>?_
  ·exact jt h
  ·exact jt h
 ·refine br h (λh=>?_) λh=>?_
  ·cases h;exact⟨rfl,rfl,rfl⟩
  ·refine⟨by kernel_rfl,?_⟩;refine oi h λx4 h=>?_;refine oi h λx6 h=>?_;refine⟨by kernel_rfl,?_⟩;refine jg h (λx h=>?_) λe h=>?_
   ·refine br h (λh=>?_) λh=>?_
    ·exact jt h
    ·exact jt h
   ·refine jg h (λx h=>?_) λf h=>?_
    ·refine br h (λh=>?_) λh=>?_
     ·refine jg h (λx h=>?_) λg h=>?_
      ·refine br h (λh=>?_) λh=>?_
       ·exact jt h
       ·exact jt h
      ·exact jt h
     ·exact jt h
    ·cases h;exact⟨rfl,rfl,rfl⟩

theorem aIj(c:Int)(a:Int)(d:aQ)(e:Int){r:Bool}(h:sB c a d e=some r):Fn Tryz.prog 218 [.i c,.i a,.cp (bM d),.cp [.j e]] (.b r):=by
 unfold sB at h;refine fnx xT {} [.tmp 6] func218 results218 ntmps218 ?_;refine jg h (λx h=>?_) λb1 h=>?_
 ·refine br h (λh=>?_) λh=>?_
  ·exact jt h
  ·exact jt h
 ·refine jg h (λx h=>?_) λb3 h=>?_
  ·refine br h (λh=>?_) λh=>?_
   ·exact jt h
   ·refine cAq underlying4 ?_;exact jt h
  ·cases h;exact⟨rfl,rfl,rfl⟩

theorem aNl(a:aQ)(c:Int)(d:Int){r:Bool}(h:vS a c d=some r):Fn Tryz.prog 172 [.agg (bM a),.i c,.i d] (.b r):=by
 unfold vS at h;refine fnx xT {} [.tmp 6] func172 results172 ntmps172 ?_;refine ol ?_;refine jg h (λx h=>?_) λb3 h=>?_
 ·refine br h (λh=>?_) λh=>?_
  ·refine jg h (λx h=>?_) λb5 h=>?_
   ·refine br h (λh=>?_) λh=>?_
    ·exact jt h
    ·exact jt h
   ·refine jg h (λx h=>?_) λb7 h=>?_
    ·refine br h (λh=>?_) λh=>?_
     ·exact jt h
     ·refine jg h (λx h=>?_) λb9 h=>?_
      ·refine br h (λh=>?_) λh=>?_
       ·exact jt h
       ·exact jt h
      ·exact jt h
    ·exact jt h
  ·exact jt h
 ·refine br h (λh=>?_) λh=>?_
  ·cases h;exact⟨rfl,rfl,rfl⟩
  ·refine cl call219 (λ_=>bBo _ _ _) h λe h=>?_;refine jg h (λx h=>?_) λf h=>?_
   ·refine br h (λh=>?_) λh=>?_
    ·refine cl call218 (λ_=>aIj _ _ _ _) h λg h=>?_;exact jt h
    ·exact jt h
   ·refine jg h (λx h=>?_) λj h=>?_
    ·refine br h (λh=>?_) λh=>?_
     ·refine cl call218 (λ_=>aIj _ _ _ _) h λk h=>?_;exact jt h
     ·exact jt h
    ·cases h;exact⟨rfl,rfl,rfl⟩

theorem aOu {S:Type}(J K:S->MO->Prop)(ly:Nat)(V:S->(List Int)->Option (S×Bool))(hy:∀(s:S) (m:MO) (x0:List Int) (s':S×Bool),J s m->V s x0=some s'->aCn Tryz.prog ly [.d (.sl 1 (x0.map aD))] m (λb m'=>b=s'.2/\JK J K s' m'))(kr:Nat):∀(a:List Int) (I:Int) (e:aQ) (B:List Int) (sy:S) {r:S×Bool} {o j c:Nat} (m0:MO) (_hj:J sy m0) (_hcap:a.length<=c) (_hsz:(c:Int)=e.Size) (_h:iG V kr a I e B sy=some r),dX Tryz.prog 170 [.d (.lit (vw j a.length c)),.i I,.cp [.j e.Size,.j e.Seeds,.sl 3 (e.Persons.map bL),.sl 1 (e.Lots.map aD)],.cp (Z16 ly),.cp [.sl 1 (B.map aD)],.bp o 0 0] [m0,rC o 170 [.cp [.j e.Size,.j e.Seeds,.sl 3 (e.Persons.map bL),.sl 1 (e.Lots.map aD)],.cp (Z16 ly),.cp [.sl 1 (B.map aD)],.bp o 0 0],.arr (vw j a.length c) 3 1 (a.map aD)] (λr' o'=>∃m',r'=.b r.2/\JK J K r m'/\o'=[m',rC o 170 [.cp [.j e.Size,.j e.Seeds,.sl 3 (e.Persons.map bL),.sl 1 (e.Lots.map aD)],.cp (Z16 ly),.cp [.sl 1 (B.map aD)],.bp o 0 0],.arr (vw j a.length c) 3 1 (a.map aD)]):=by
  induction kr with
  |zero=>intros;rename_i h;cases h
  | succ kr ih=>
    intro a I e B sy r o j c m0 hj hcap hsz h;simp only[iG] at h;refine aJa func170 rfl (rs:=[.tmp 8]) results170 ntmps170 (Nat.le_of_ble_eq_true rfl) ?_;refine au 7 ?_;refine to (aMw (m:=2) (aE rfl) rfl rfl cR.of) ?_;refine au 6 ?_;refine to (sfc [.j e.Size] rfl aTb) (au 3 ?_);refine tih h (λc1 h=>?_) (λc1 h=>?_)
    ·refine bT ?_;obtain⟨r3,h4,h⟩:=bns h;refine jX mix 3 [] (λX2=>[(19,.d (.lit (yv ly))),(21,.d (.lit (X2 2).v))]) (λX2=>[m0,rC o 170 [.cp [.j e.Size,.j e.Seeds,.sl 3 (e.Persons.map bL),.sl 1 (e.Lots.map aD)],.cp (Z16 ly),.cp [.sl 1 (B.map aD)],.bp o 0 0],.arr (vw j a.length c) 3 1 (a.map aD),.arr (X2 2).v 3 1 (r3.map aD)]) ?_ ?_
     ·refine⟨1,λX2=>[(19,0,.d (.lit (yv ly))),(20,1,.d (.lit (vw j a.length c))),(21,2,.d (.lit (X2 2).v))],λX2=>[([],m0),([],rC o 170 [.cp [.j e.Size,.j e.Seeds,.sl 3 (e.Persons.map bL),.sl 1 (e.Lots.map aD)],.cp (Z16 ly),.cp [.sl 1 (B.map aD)],.bp o 0 0]),([],.arr (vw j a.length c) 3 1 (a.map aD)),([(2,.arr (X2 2).v 3 1 (r3.map aD))],nob)],?_,?_⟩
      · exact xok [(0,0),(0,3),(2,0)] ⟨λ_ _ w _ k=>xp w (ylc k rfl bWb),
 λ_ _ w _ k=>xp w (ym k (.d (.lit (vw j a.length c)))),
 fun X2 S hw hi hS=>aEr (X:=X2) (p:=3) (v:=λx=>.d (.lit x.v)) (mo:=λx=>.arr x.v 3 1 (r3.map aD)) hS hi rfl rfl (λ_=>rfl) hw (λ_=>rfl) (λ_=>rfl) (λ_=>rfl) (λ_=>⟨rfl,rfl,.inr rfl,⟨rfl,rfl,.inr rfl,⟨rfl,rfl,.inl rfl,trivial⟩⟩⟩) (λ_=>⟨trivial,rfl,⟨trivial,rfl,⟨trivial,rfl,⟨⟨rfl,.inl rfl,trivial⟩,rfl,trivial⟩⟩⟩⟩) (kW (bHn (aE rfl) (.func _ _ call93) (ev2 (aU hS rfl) evn) rfl (.cons (.d (pE 2 (og hS rfl rfl) (dT (f:=aD) λ_=>rfl))) .nil) (wO _ h4) (bAn (λ_=>rfl) _)) (by rintro _ ⟨w,rfl⟩;exact⟨⟨0,w⟩,aO [0,1,2,4] rfl rfl (le_refl _)⟩)),trivial⟩
      · exactλX2=>cP (aL rfl (aL rfl (aR trivial)))
     ·intro X2;refine gW (bId [m0,rC o 170 [.cp [.j e.Size,.j e.Seeds,.sl 3 (e.Persons.map bL),.sl 1 (e.Lots.map aD)],.cp (Z16 ly),.cp [.sl 1 (B.map aD)],.bp o 0 0],.arr (vw j a.length c) 3 1 (a.map aD)] [.arr (X2 2).v 3 1 (r3.map aD)] rfl (tK (k:=21) (v:=.d (.sl 1 (r3.map aD))) (.d (pE 0 rfl (dT (f:=aD) λ_=>rfl))) (aGj _ _))) ?_;obtain⟨y5,h6,h⟩:=bns h;refine bGh rfl (bTa (aE rfl) rfl rfl rfl rfl (hy _ _ _ _ hj h6)) ?_;rintro _ ⟨_,m7,⟨rfl,a6⟩,rfl⟩;refine au 2 ?_;obtain rfl:=sIn h;exact cG ⟨rfl,_,[m7,rC o 170 [.cp [.j e.Size,.j e.Seeds,.sl 3 (e.Persons.map bL),.sl 1 (e.Lots.map aD)],.cp (Z16 ly),.cp [.sl 1 (B.map aD)],.bp o 0 0],.arr (vw j a.length c) 3 1 (a.map aD)],[],_,.one (.tmp 8 (v:=.b y5.2) rfl),.refl _,.same _,m7,rfl,a6,rfl⟩
    ·refine au 9 ?_;refine eV (S:=Int×({x:S×MO // J x.1 x.2})) [0,1,2,5,9,23,24] (λs9=>[(25,.i s9.1)]) (λs9=>[.arr (vw j a.length c) 3 1 (a.map aD),s9.2.1.2,rC o 170 [.cp [.j e.Size,.j e.Seeds,.sl 3 (e.Persons.map bL),.sl 1 (e.Lots.map aD)],.cp (Z16 ly),.cp [.sl 1 (B.map aD)],.bp o 0 0]]) (λk s9=>iY V (iG V kr) I e (a.length:Int) B (B.length:Int) a e B k s9.1 s9.2.1.1) (λ_=>rfl) (0,⟨(sy,m0),hj⟩) h (aO [2,0,1] rfl rfl (aL rfl (aR (ae rfl)))) ?_;rintro b5 ⟨Q,H⟩ h;simp only[iY] at h;refine au 5 ?_;refine tih h (λa7 h=>?_) (λa7 h=>?_)
     ·refine au 5 ?_;obtain⟨g,a8,h⟩:=bns h;refine to (six rfl rfl cR.of (cF aD a8)) (au 14 ?_);obtain⟨q,T,h⟩:=bns h;refine bWy [0,1,2,5,9,11,23,24,25] [(12,.i q)] [.arr (vw j a.length c) 3 1 (a.map aD),H.1.2,rC o 170 [.cp [.j e.Size,.j e.Seeds,.sl 3 (e.Persons.map bL),.sl 1 (e.Lots.map aD)],.cp (Z16 ly),.cp [.sl 1 (B.map aD)],.bp o 0 0]] ?_ ?_
      ·refine tih T (λa9 T=>?_) (λa9 T=>?_)
       ·refine au 5 ?_;obtain rfl:=sIn T;exact aO [0,1,2] rfl rfl (aL rfl (aR (ae rfl)))
       ·refine sD ?_;obtain rfl:=sIn T;exact aO [0,1,2] rfl rfl (aL rfl (aR (ae rfl)))
      ·refine bT (bT ?_);obtain⟨b6,M,h⟩:=bns h;obtain⟨b7,F,h⟩:=bns h;obtain⟨b0,C,h⟩:=bns h;refine fQ mix 34 [0,1,2,5,9,11,12,23,24,25] [(67,.b b0)] ?_ ?_
       ·refine bch M (λu M=>?_) (λu M=>?_)
        ·obtain rfl:=sIn M;have n:true=true:=rfl;have F:=aCq n F;obtain rfl:=sIn F;have l:true=true:=rfl;have C:=aCq l C;obtain rfl:=sIn C;refine⟨[(34,0,.i q),(35,1,.b (decide (q<0))),(36,2,.b (decide (q<0))),(37,3,.tup []),(38,4,.tup []),(39,5,.tup []),(40,6,.tup []),(41,7,.tup []),(42,8,.tup []),(43,9,.tup []),(44,10,.b true),(45,11,.b (true)),(46,12,.tup []),(47,13,.tup []),(48,14,.tup []),(49,15,.tup []),(50,16,.tup []),(51,17,.b true),(52,18,.b (true)),(53,19,.tup []),(54,20,.tup []),(55,21,.tup []),(56,22,.tup []),(57,23,.tup []),(58,24,.tup []),(59,25,.tup []),(60,26,.tup []),(61,27,.tup []),(62,28,.tup []),(63,29,.tup []),(64,30,.tup []),(65,31,.tup []),(66,32,.tup []),(67,33,.b true)],?_,?_⟩
         · exact dk [0,1,2,3,304,305,6,6,60708,30609,310,11,12,12,12,12131415,1216,1217,18,19,1920,1921,1922,23,23,23,2326,232527,2328,23,23242930,2331,192332,1933] ⟨go (zm (.i q)),
 go (zcm rfl rfl rfl),
 go (zm (.b (decide (q<0)))),
 gp u,
 gp u,
 gp u,
 gq,
 gq,
 gq,
 gp u,
 go (zpt (.b true) u),
 go (zm (.b (true))),
 gp n,
 gp n,
 gp n,
 gp n,
 gp n,
 go (zpt (.b true) n),
 go (zm (.b (true))),
 gp l,
 gp l,
 gp l,
 gp l,
 gq,
 gq,
 gq,
 gq,
 gq,
 gq,
 gq,
 gq,
 gq,
 gp l,
 go (zpt (.b true) l),trivial⟩
         · exact cP (aL rfl (aR (ae rfl)))
        ·obtain⟨b8,O,M⟩:=bns M;refine bch O (λz O=>?_) (λz O=>?_)
         ·obtain⟨A,W,O⟩:=bns O;obtain rfl:=sIn O;obtain rfl:=sIn M;refine bch F (λn F=>?_) (λn F=>?_)
          ·obtain rfl:=sIn F;have l:true=true:=rfl;have C:=aCq l C;obtain rfl:=sIn C;refine⟨[(34,0,.i q),(35,1,.b (decide (q<0))),(36,2,.b (decide (q<0))),(37,3,.i g),(38,4,.b (!decide (g=(-1)))),(39,5,.b (!decide (g=(-1)))),(40,6,.d (.lit (vw j a.length c))),(41,7,.i g),(42,8,.b A),(43,9,.b A),(44,10,.b (A)),(45,11,.b (A)),(46,12,.tup []),(47,13,.tup []),(48,14,.tup []),(49,15,.tup []),(50,16,.tup []),(51,17,.b true),(52,18,.b (true)),(53,19,.tup []),(54,20,.tup []),(55,21,.tup []),(56,22,.tup []),(57,23,.tup []),(58,24,.tup []),(59,25,.tup []),(60,26,.tup []),(61,27,.tup []),(62,28,.tup []),(63,29,.tup []),(64,30,.tup []),(65,31,.tup []),(66,32,.tup []),(67,33,.b true)],?_,?_⟩
           · exact dk [0,1,2,3,304,305,6,6,60708,30609,310,11,12,12,12,12131415,1216,1217,18,19,1920,1921,1922,23,23,23,2326,232527,2328,23,23242930,2331,192332,1933] ⟨go (zm (.i q)),
 go (zcm rfl rfl rfl),
 go (zm (.b (decide (q<0)))),
 gt u (zm (.i g)),
 gt u (zcm rfl rfl rfl),
 gt u (zm (.b (!decide (g=(-1))))),
 gt z (zm (.d (.lit (vw j a.length c)))),
 gt z (zm (.i g)),
 gt z λS hS=>fZ (aE rfl) (.func _ _ call91) (ev2 (aU hS rfl) (ev2 (aU hS rfl) evn)) rfl (.cons (.d (pE 0 rfl (dT (f:=aD) λ_=>rfl))) (.cons (.same _) .nil)) (dK _ _ W) rfl,
 gt u (zpt (.b A) z),
 go (zpf (.b (A)) u),
 go (zm (.b (A))),
 gp n,
 gp n,
 gp n,
 gp n,
 gp n,
 go (zpt (.b true) n),
 go (zm (.b (true))),
 gp l,
 gp l,
 gp l,
 gp l,
 gq,
 gq,
 gq,
 gq,
 gq,
 gq,
 gq,
 gq,
 gq,
 gp l,
 go (zpt (.b true) l),trivial⟩
           · exact cP (aL rfl (aR (ae rfl)))
          ·obtain⟨y,P,F⟩:=bns F;obtain rfl:=sIn F;refine bch C (λl C=>?_) (λl C=>?_)
           ·obtain rfl:=sIn C;refine⟨[(34,0,.i q),(35,1,.b (decide (q<0))),(36,2,.b (decide (q<0))),(37,3,.i g),(38,4,.b (!decide (g=(-1)))),(39,5,.b (!decide (g=(-1)))),(40,6,.d (.lit (vw j a.length c))),(41,7,.i g),(42,8,.b A),(43,9,.b A),(44,10,.b (A)),(45,11,.b (A)),(46,12,.agg (bM e)),(47,13,.i (a.length:Int)),(48,14,.i g),(49,15,.b y),(50,16,.b (!y)),(51,17,.b (!y)),(52,18,.b (!y)),(53,19,.tup []),(54,20,.tup []),(55,21,.tup []),(56,22,.tup []),(57,23,.tup []),(58,24,.tup []),(59,25,.tup []),(60,26,.tup []),(61,27,.tup []),(62,28,.tup []),(63,29,.tup []),(64,30,.tup []),(65,31,.tup []),(66,32,.tup []),(67,33,.b true)],?_,?_⟩
            · exact dk [0,1,2,3,304,305,6,6,60708,30609,310,11,12,12,12,12131415,1216,1217,18,19,1920,1921,1922,23,23,23,2326,232527,2328,23,23242930,2331,192332,1933] ⟨go (zm (.i q)),
 go (zcm rfl rfl rfl),
 go (zm (.b (decide (q<0)))),
 gt u (zm (.i g)),
 gt u (zcm rfl rfl rfl),
 gt u (zm (.b (!decide (g=(-1))))),
 gt z (zm (.d (.lit (vw j a.length c)))),
 gt z (zm (.i g)),
 gt z λS hS=>fZ (aE rfl) (.func _ _ call91) (ev2 (aU hS rfl) (ev2 (aU hS rfl) evn)) rfl (.cons (.d (pE 0 rfl (dT (f:=aD) λ_=>rfl))) (.cons (.same _) .nil)) (dK _ _ W) rfl,
 gt u (zpt (.b A) z),
 go (zpf (.b (A)) u),
 go (zm (.b (A))),
 gt n (aQk (bM e) rfl vJ),
 gt n (zm (.i (a.length:Int))),
 gt n (zm (.i g)),
 gt n λS hS=>fZ (aE rfl) (.func _ _ call171) (ev2 (aU hS rfl) (ev2 (aU hS rfl) (ev2 (aU hS rfl) evn))) rfl (BVs.refl _ _) (tW _ _ _ P) rfl,
 gt n (zn rfl),
 go (zpf (.b (!y)) n),
 go (zm (.b (!y))),
 gp l,
 gp l,
 gp l,
 gp l,
 gq,
 gq,
 gq,
 gq,
 gq,
 gq,
 gq,
 gq,
 gq,
 gp l,
 go (zpt (.b true) l),trivial⟩
            · exact cP (aL rfl (aR (ae rfl)))
           ·obtain⟨b1,E,C⟩:=bns C;refine bch E (λt E=>?_) (λt E=>?_)
            ·obtain⟨Y,U,E⟩:=bns E;obtain⟨G,Z,E⟩:=bns E;obtain rfl:=sIn E;obtain rfl:=sIn C;refine⟨[(34,0,.i q),(35,1,.b (decide (q<0))),(36,2,.b (decide (q<0))),(37,3,.i g),(38,4,.b (!decide (g=(-1)))),(39,5,.b (!decide (g=(-1)))),(40,6,.d (.lit (vw j a.length c))),(41,7,.i g),(42,8,.b A),(43,9,.b A),(44,10,.b (A)),(45,11,.b (A)),(46,12,.agg (bM e)),(47,13,.i (a.length:Int)),(48,14,.i g),(49,15,.b y),(50,16,.b (!y)),(51,17,.b (!y)),(52,18,.b (!y)),(53,19,.i (a.length:Int)),(54,20,.i ((a.length:Int).tmod 2)),(55,21,.b (decide (((a.length:Int).tmod 2)=1))),(56,22,.b (decide (((a.length:Int).tmod 2)=1))),(57,23,.agg (bM e)),(58,24,.d (.lit (vw j a.length c))),(59,25,.i (a.length:Int)),(60,26,.i (w64 ((a.length:Int)-1))),(61,27,.ep (vw j a.length c) 1 (w64 ((a.length:Int)-1)).toNat 0),(62,28,.i Y),(63,29,.i g),(64,30,.b G),(65,31,.b (!G)),(66,32,.b (!G)),(67,33,.b (!G))],?_,?_⟩
             · exact dk [0,1,2,3,304,305,6,6,60708,30609,310,11,12,12,12,12131415,1216,1217,18,19,1920,1921,1922,23,23,23,2326,232527,2328,23,23242930,2331,192332,1933] ⟨go (zm (.i q)),
 go (zcm rfl rfl rfl),
 go (zm (.b (decide (q<0)))),
 gt u (zm (.i g)),
 gt u (zcm rfl rfl rfl),
 gt u (zm (.b (!decide (g=(-1))))),
 gt z (zm (.d (.lit (vw j a.length c)))),
 gt z (zm (.i g)),
 gt z λS hS=>fZ (aE rfl) (.func _ _ call91) (ev2 (aU hS rfl) (ev2 (aU hS rfl) evn)) rfl (.cons (.d (pE 0 rfl (dT (f:=aD) λ_=>rfl))) (.cons (.same _) .nil)) (dK _ _ W) rfl,
 gt u (zpt (.b A) z),
 go (zpf (.b (A)) u),
 go (zm (.b (A))),
 gt n (aQk (bM e) rfl vJ),
 gt n (zm (.i (a.length:Int))),
 gt n (zm (.i g)),
 gt n λS hS=>fZ (aE rfl) (.func _ _ call171) (ev2 (aU hS rfl) (ev2 (aU hS rfl) (ev2 (aU hS rfl) evn))) rfl (BVs.refl _ _) (tW _ _ _ P) rfl,
 gt n (zn rfl),
 go (zpf (.b (!y)) n),
 go (zm (.b (!y))),
 gt l (zm (.i (a.length:Int))),
 gt l λS hS=>aWx (aE rfl) (aU hS rfl) rfl (by decide),
 gt l (zcm rfl rfl rfl),
 gt l (zm (.b (decide (((a.length:Int).tmod 2)=1)))),
 gt t (aQk (bM e) rfl vJ),
 gt t (zm (.d (.lit (vw j a.length c)))),
 gt t (zm (.i (a.length:Int))),
 gt t (zar rfl rfl rfl),
 gt t (zia 0 rfl rfl rfl cR.of (cF aD U)),
 gt t λS hS=>sQ (aE rfl) (aU hS rfl) (m:=0) rfl (fY aD U) rfl dI,
 gt t (zm (.i g)),
 gt t λS hS=>fZ (aE rfl) (.func _ _ call172) (ev2 (aU hS rfl) (ev2 (aU hS rfl) (ev2 (aU hS rfl) evn))) rfl (BVs.refl _ _) (aNl _ _ _ Z) rfl,
 gt t (zn rfl),
 gt l (zpt (.b (!G)) t),
 go (zpf (.b (!G)) l),trivial⟩
             · exact cP (aL rfl (aR (ae rfl)))
            ·obtain rfl:=sIn E;obtain rfl:=sIn C;refine⟨[(34,0,.i q),(35,1,.b (decide (q<0))),(36,2,.b (decide (q<0))),(37,3,.i g),(38,4,.b (!decide (g=(-1)))),(39,5,.b (!decide (g=(-1)))),(40,6,.d (.lit (vw j a.length c))),(41,7,.i g),(42,8,.b A),(43,9,.b A),(44,10,.b (A)),(45,11,.b (A)),(46,12,.agg (bM e)),(47,13,.i (a.length:Int)),(48,14,.i g),(49,15,.b y),(50,16,.b (!y)),(51,17,.b (!y)),(52,18,.b (!y)),(53,19,.i (a.length:Int)),(54,20,.i ((a.length:Int).tmod 2)),(55,21,.b (decide (((a.length:Int).tmod 2)=1))),(56,22,.b (decide (((a.length:Int).tmod 2)=1))),(57,23,.tup []),(58,24,.tup []),(59,25,.tup []),(60,26,.tup []),(61,27,.tup []),(62,28,.tup []),(63,29,.tup []),(64,30,.tup []),(65,31,.tup []),(66,32,.b false),(67,33,.b (false))],?_,?_⟩
             · exact dk [0,1,2,3,304,305,6,6,60708,30609,310,11,12,12,12,12131415,1216,1217,18,19,1920,1921,1922,23,23,23,2326,232527,2328,23,23242930,2331,192332,1933] ⟨go (zm (.i q)),
 go (zcm rfl rfl rfl),
 go (zm (.b (decide (q<0)))),
 gt u (zm (.i g)),
 gt u (zcm rfl rfl rfl),
 gt u (zm (.b (!decide (g=(-1))))),
 gt z (zm (.d (.lit (vw j a.length c)))),
 gt z (zm (.i g)),
 gt z λS hS=>fZ (aE rfl) (.func _ _ call91) (ev2 (aU hS rfl) (ev2 (aU hS rfl) evn)) rfl (.cons (.d (pE 0 rfl (dT (f:=aD) λ_=>rfl))) (.cons (.same _) .nil)) (dK _ _ W) rfl,
 gt u (zpt (.b A) z),
 go (zpf (.b (A)) u),
 go (zm (.b (A))),
 gt n (aQk (bM e) rfl vJ),
 gt n (zm (.i (a.length:Int))),
 gt n (zm (.i g)),
 gt n λS hS=>fZ (aE rfl) (.func _ _ call171) (ev2 (aU hS rfl) (ev2 (aU hS rfl) (ev2 (aU hS rfl) evn))) rfl (BVs.refl _ _) (tW _ _ _ P) rfl,
 gt n (zn rfl),
 go (zpf (.b (!y)) n),
 go (zm (.b (!y))),
 gt l (zm (.i (a.length:Int))),
 gt l λS hS=>aWx (aE rfl) (aU hS rfl) rfl (by decide),
 gt l (zcm rfl rfl rfl),
 gt l (zm (.b (decide (((a.length:Int).tmod 2)=1)))),
 gp t,
 gp t,
 gp t,
 gp t,
 gp t,
 gp t,
 gp t,
 gp t,
 gp t,
 gt l (zpf (.b false) t),
 go (zpf Z38 l),trivial⟩
             · exact cP (aL rfl (aR (ae rfl)))
         ·obtain rfl:=sIn O;obtain rfl:=sIn M;have n:false=false:=rfl;have F:=aJy n F;obtain⟨y,P,F⟩:=bns F;obtain rfl:=sIn F;refine bch C (λl C=>?_) (λl C=>?_)
          ·obtain rfl:=sIn C;refine⟨[(34,0,.i q),(35,1,.b (decide (q<0))),(36,2,.b (decide (q<0))),(37,3,.i g),(38,4,.b (!decide (g=(-1)))),(39,5,.b (!decide (g=(-1)))),(40,6,.tup []),(41,7,.tup []),(42,8,.tup []),(43,9,.b false),(44,10,.b (false)),(45,11,.b (false)),(46,12,.agg (bM e)),(47,13,.i (a.length:Int)),(48,14,.i g),(49,15,.b y),(50,16,.b (!y)),(51,17,.b (!y)),(52,18,.b (!y)),(53,19,.tup []),(54,20,.tup []),(55,21,.tup []),(56,22,.tup []),(57,23,.tup []),(58,24,.tup []),(59,25,.tup []),(60,26,.tup []),(61,27,.tup []),(62,28,.tup []),(63,29,.tup []),(64,30,.tup []),(65,31,.tup []),(66,32,.tup []),(67,33,.b true)],?_,?_⟩
           · exact dk [0,1,2,3,304,305,6,6,60708,30609,310,11,12,12,12,12131415,1216,1217,18,19,1920,1921,1922,23,23,23,2326,232527,2328,23,23242930,2331,192332,1933] ⟨go (zm (.i q)),
 go (zcm rfl rfl rfl),
 go (zm (.b (decide (q<0)))),
 gt u (zm (.i g)),
 gt u (zcm rfl rfl rfl),
 gt u (zm (.b (!decide (g=(-1))))),
 gp z,
 gp z,
 gp z,
 gt u (zpf (.b false) z),
 go (zpf Z38 u),
 go (zm Z38),
 gt n (aQk (bM e) rfl vJ),
 gt n (zm (.i (a.length:Int))),
 gt n (zm (.i g)),
 gt n λS hS=>fZ (aE rfl) (.func _ _ call171) (ev2 (aU hS rfl) (ev2 (aU hS rfl) (ev2 (aU hS rfl) evn))) rfl (BVs.refl _ _) (tW _ _ _ P) rfl,
 gt n (zn rfl),
 go (zpf (.b (!y)) n),
 go (zm (.b (!y))),
 gp l,
 gp l,
 gp l,
 gp l,
 gq,
 gq,
 gq,
 gq,
 gq,
 gq,
 gq,
 gq,
 gq,
 gp l,
 go (zpt (.b true) l),trivial⟩
           · exact cP (aL rfl (aR (ae rfl)))
          ·obtain⟨b1,E,C⟩:=bns C;refine bch E (λt E=>?_) (λt E=>?_)
           ·obtain⟨Y,U,E⟩:=bns E;obtain⟨G,Z,E⟩:=bns E;obtain rfl:=sIn E;obtain rfl:=sIn C;refine⟨[(34,0,.i q),(35,1,.b (decide (q<0))),(36,2,.b (decide (q<0))),(37,3,.i g),(38,4,.b (!decide (g=(-1)))),(39,5,.b (!decide (g=(-1)))),(40,6,.tup []),(41,7,.tup []),(42,8,.tup []),(43,9,.b false),(44,10,.b (false)),(45,11,.b (false)),(46,12,.agg (bM e)),(47,13,.i (a.length:Int)),(48,14,.i g),(49,15,.b y),(50,16,.b (!y)),(51,17,.b (!y)),(52,18,.b (!y)),(53,19,.i (a.length:Int)),(54,20,.i ((a.length:Int).tmod 2)),(55,21,.b (decide (((a.length:Int).tmod 2)=1))),(56,22,.b (decide (((a.length:Int).tmod 2)=1))),(57,23,.agg (bM e)),(58,24,.d (.lit (vw j a.length c))),(59,25,.i (a.length:Int)),(60,26,.i (w64 ((a.length:Int)-1))),(61,27,.ep (vw j a.length c) 1 (w64 ((a.length:Int)-1)).toNat 0),(62,28,.i Y),(63,29,.i g),(64,30,.b G),(65,31,.b (!G)),(66,32,.b (!G)),(67,33,.b (!G))],?_,?_⟩
            · exact dk [0,1,2,3,304,305,6,6,60708,30609,310,11,12,12,12,12131415,1216,1217,18,19,1920,1921,1922,23,23,23,2326,232527,2328,23,23242930,2331,192332,1933] ⟨go (zm (.i q)),
 go (zcm rfl rfl rfl),
 go (zm (.b (decide (q<0)))),
 gt u (zm (.i g)),
 gt u (zcm rfl rfl rfl),
 gt u (zm (.b (!decide (g=(-1))))),
 gp z,
 gp z,
 gp z,
 gt u (zpf (.b false) z),
 go (zpf Z38 u),
 go (zm Z38),
 gt n (aQk (bM e) rfl vJ),
 gt n (zm (.i (a.length:Int))),
 gt n (zm (.i g)),
 gt n λS hS=>fZ (aE rfl) (.func _ _ call171) (ev2 (aU hS rfl) (ev2 (aU hS rfl) (ev2 (aU hS rfl) evn))) rfl (BVs.refl _ _) (tW _ _ _ P) rfl,
 gt n (zn rfl),
 go (zpf (.b (!y)) n),
 go (zm (.b (!y))),
 gt l (zm (.i (a.length:Int))),
 gt l λS hS=>aWx (aE rfl) (aU hS rfl) rfl (by decide),
 gt l (zcm rfl rfl rfl),
 gt l (zm (.b (decide (((a.length:Int).tmod 2)=1)))),
 gt t (aQk (bM e) rfl vJ),
 gt t (zm (.d (.lit (vw j a.length c)))),
 gt t (zm (.i (a.length:Int))),
 gt t (zar rfl rfl rfl),
 gt t (zia 0 rfl rfl rfl cR.of (cF aD U)),
 gt t λS hS=>sQ (aE rfl) (aU hS rfl) (m:=0) rfl (fY aD U) rfl dI,
 gt t (zm (.i g)),
 gt t λS hS=>fZ (aE rfl) (.func _ _ call172) (ev2 (aU hS rfl) (ev2 (aU hS rfl) (ev2 (aU hS rfl) evn))) rfl (BVs.refl _ _) (aNl _ _ _ Z) rfl,
 gt t (zn rfl),
 gt l (zpt (.b (!G)) t),
 go (zpf (.b (!G)) l),trivial⟩
            · exact cP (aL rfl (aR (ae rfl)))
           ·obtain rfl:=sIn E;obtain rfl:=sIn C;refine⟨[(34,0,.i q),(35,1,.b (decide (q<0))),(36,2,.b (decide (q<0))),(37,3,.i g),(38,4,.b (!decide (g=(-1)))),(39,5,.b (!decide (g=(-1)))),(40,6,.tup []),(41,7,.tup []),(42,8,.tup []),(43,9,.b false),(44,10,.b (false)),(45,11,.b (false)),(46,12,.agg (bM e)),(47,13,.i (a.length:Int)),(48,14,.i g),(49,15,.b y),(50,16,.b (!y)),(51,17,.b (!y)),(52,18,.b (!y)),(53,19,.i (a.length:Int)),(54,20,.i ((a.length:Int).tmod 2)),(55,21,.b (decide (((a.length:Int).tmod 2)=1))),(56,22,.b (decide (((a.length:Int).tmod 2)=1))),(57,23,.tup []),(58,24,.tup []),(59,25,.tup []),(60,26,.tup []),(61,27,.tup []),(62,28,.tup []),(63,29,.tup []),(64,30,.tup []),(65,31,.tup []),(66,32,.b false),(67,33,.b (false))],?_,?_⟩
            · exact dk [0,1,2,3,304,305,6,6,60708,30609,310,11,12,12,12,12131415,1216,1217,18,19,1920,1921,1922,23,23,23,2326,232527,2328,23,23242930,2331,192332,1933] ⟨go (zm (.i q)),
 go (zcm rfl rfl rfl),
 go (zm (.b (decide (q<0)))),
 gt u (zm (.i g)),
 gt u (zcm rfl rfl rfl),
 gt u (zm (.b (!decide (g=(-1))))),
 gp z,
 gp z,
 gp z,
 gt u (zpf (.b false) z),
 go (zpf Z38 u),
 go (zm Z38),
 gt n (aQk (bM e) rfl vJ),
 gt n (zm (.i (a.length:Int))),
 gt n (zm (.i g)),
 gt n λS hS=>fZ (aE rfl) (.func _ _ call171) (ev2 (aU hS rfl) (ev2 (aU hS rfl) (ev2 (aU hS rfl) evn))) rfl (BVs.refl _ _) (tW _ _ _ P) rfl,
 gt n (zn rfl),
 go (zpf (.b (!y)) n),
 go (zm (.b (!y))),
 gt l (zm (.i (a.length:Int))),
 gt l λS hS=>aWx (aE rfl) (aU hS rfl) rfl (by decide),
 gt l (zcm rfl rfl rfl),
 gt l (zm (.b (decide (((a.length:Int).tmod 2)=1)))),
 gp t,
 gp t,
 gp t,
 gp t,
 gp t,
 gp t,
 gp t,
 gp t,
 gp t,
 gt l (zpf (.b false) t),
 go (zpf Z38 l),trivial⟩
            · exact cP (aL rfl (aR (ae rfl)))
       ·refine bN ?_;refine tih h (λb2 h=>?_) (λb2 h=>?_)
        ·refine cZ ?_;refine .inl ⟨rfl,?_⟩;refine au 4 ?_;exact⟨(w64 (Q+1),⟨(H.1.1,H.1.2),H.2⟩),h,aO [0,1,2] rfl rfl (aL rfl (aR (ae rfl)))⟩
        ·refine sD (bT ?_);obtain⟨L,a2,h⟩:=bns h;refine jX mix 6 [0,1,2,5,9,23,24,25] (λN=>[(68,.fn 170 [.cp [.j e.Size,.j e.Seeds,.sl 3 (e.Persons.map bL),.sl 1 (e.Lots.map aD)],.cp (Z16 ly),.cp [.sl 1 (B.map aD)],.bp o 0 0]),(72,.d (.lit (vw j L.length c))),(73,.i q)]) (λN=>[.arr (vw j L.length c) 3 1 (L.map aD),H.1.2,rC o 170 [.cp [.j e.Size,.j e.Seeds,.sl 3 (e.Persons.map bL),.sl 1 (e.Lots.map aD)],.cp (Z16 ly),.cp [.sl 1 (B.map aD)],.bp o 0 0]]) ?_ ?_
         ·refine⟨0,λN=>[(68,0,.fn 170 [.cp [.j e.Size,.j e.Seeds,.sl 3 (e.Persons.map bL),.sl 1 (e.Lots.map aD)],.cp (Z16 ly),.cp [.sl 1 (B.map aD)],.bp o 0 0]),(69,1,.d (.lit (vw j a.length c))),(70,2,.i g),(71,3,.d (.sl 1 (([g]).map aD))),(72,4,.d (.lit (vw j L.length c))),(73,5,.i q)],λN=>[([(4,.arr (vw j L.length c) 3 1 (L.map aD))],.arr (vw j a.length c) 3 1 (a.map aD)),([],H.1.2),([],rC o 170 [.cp [.j e.Size,.j e.Seeds,.sl 3 (e.Persons.map bL),.sl 1 (e.Lots.map aD)],.cp (Z16 ly),.cp [.sl 1 (B.map aD)],.bp o 0 0])],?_,?_⟩
          · exact xok [(0,0),(0,5),(0,5),(3,5),(204,0),(0,0)] ⟨λ_ _ w _ k=>xp w (aSf (i:=2) (aE rfl) (aU k rfl) (og k rfl rfl) bIv),
 λ_ _ w _ k=>xp w (ym k (.d (.lit (vw j a.length c)))),
 λ_ _ w _ k=>xp w (ym k (.i g)),
 λ_ _ w _ k=>xp w (qG (aE rfl) cR rfl (pa2 (aU k rfl) pan) (rows:=([g]).map aD) rfl (dT (f:=aD) λ_=>rfl) rfl (by decide)),
 λN S hw hi hS=>aHw (X:=N) (p:=0) hS rfl rfl rfl (hw N) rfl rfl rfl (kW (bPg (i:=0) (f:=aD) (aE rfl) cR (aU hS rfl) (og hS rfl rfl) (aU hS rfl) (λ_=>rfl) hsz a2 (List.cons_ne_nil _ _)) (by rintro _ rfl;exact Ent.refl _)),
 fun _ _ w _ k=>xp w (ym k (.i q)),trivial⟩
          · exactλN=>cP (aL rfl (aL rfl (aL rfl (aR (ae rfl)))))
         ·intro N;obtain⟨b3,b4,h⟩:=bns h;refine gW (aO [1,2,0] rfl rfl (le_refl _)) ?_;refine bO rfl (oN (passed:=[H.1.2,rC o 170 [.cp [.j e.Size,.j e.Seeds,.sl 3 (e.Persons.map bL),.sl 1 (e.Lots.map aD)],.cp (Z16 ly),.cp [.sl 1 (B.map aD)],.bp o 0 0],.arr (vw j L.length c) 3 1 (L.map aD)]) (aE rfl) rfl (.clo _ _ _ _ call170 rfl) (aLv rfl) rfl (ih L q e B H.1.1 _ H.2 (bPz hsz a2) hsz b4)) ?_;rintro _ ⟨_,_,⟨a3,rfl,a4,rfl⟩,rfl⟩;refine gW (bGx 2 a2 rfl) ?_;refine to (sn rfl) (bN ?_);refine tih h (λa5 h=>?_) (λa5 h=>?_)
          ·refine au 4 ?_;obtain rfl:=sIn h;exact cG ⟨rfl,_,[a3,rC o 170 [.cp [.j e.Size,.j e.Seeds,.sl 3 (e.Persons.map bL),.sl 1 (e.Lots.map aD)],.cp (Z16 ly),.cp [.sl 1 (B.map aD)],.bp o 0 0],.arr (vw j a.length c) 3 1 (a.map aD)],[],_,.one (.tmp 8 (v:=.b false) rfl),.refl _,.same _,a3,rfl,(bZw a4 a5),rfl⟩
          ·refine iO ?_;refine au 4 ?_;exact⟨(w64 (Q+1),⟨(b3.1,a3),(cAp a4 (bnf a5))⟩),h,aO [2,0,1] rfl rfl (aL rfl (aR (ae rfl)))⟩
     ·refine cZ ?_;refine .inl ⟨rfl,?_⟩;simp only[xR] at h;refine au 4 ?_;obtain rfl:=sIn h;refine eW (aO [1,2,0] rfl rfl (le_refl _)) ?_;exact cG ⟨rfl,_,[H.1.2,rC o 170 [.cp [.j e.Size,.j e.Seeds,.sl 3 (e.Persons.map bL),.sl 1 (e.Lots.map aD)],.cp (Z16 ly),.cp [.sl 1 (B.map aD)],.bp o 0 0],.arr (vw j a.length c) 3 1 (a.map aD)],[],_,.one (.tmp 8 (v:=.b true) rfl),.refl _,.same _,H.1.2,rfl,H.2,rfl⟩
theorem aRm{S:Type}(J K:S->MO->Prop)(ly:Nat)(l:S->(List Int)->Option (S×Bool))(hy:∀(s:S) (m:MO) (x0:List Int) (s':S×Bool),J s m->l s x0=some s'->aCn Tryz.prog ly [.d (.sl 1 (x0.map aD))] m (λb m'=>b=s'.2/\JK J K s' m'))(f:List Int)(g:Int)(a:aQ)(k:List Int)(sy:S){r:S×Bool}{e j c:Nat}(m0:MO)(hj:J sy m0)(hcap:f.length<=c)(hsz:(c:Int)=a.Size)(h:aBb l f g a k sy=some r):dX Tryz.prog 170 [.d (.lit (vw j f.length c)),.i g,.cp [.j a.Size,.j a.Seeds,.sl 3 (Z13 a),.sl 1 (Z20 a)],.cp (Z16 ly),.cp (Z19 k),.bp e 0 0] [m0,rC e 170 [.cp [.j a.Size,.j a.Seeds,.sl 3 (Z13 a),.sl 1 (Z20 a)],.cp (Z16 ly),.cp (Z19 k),.bp e 0 0],.arr (vw j f.length c) 3 1 (f.map aD)] (λr' o'=>∃m',r'=.b r.2/\JK J K r m'/\o'=[m',rC e 170 [.cp [.j a.Size,.j a.Seeds,.sl 3 (Z13 a),.sl 1 (Z20 a)],.cp (Z16 ly),.cp (Z19 k),.bp e 0 0],.arr (vw j f.length c) 3 1 (f.map aD)]):=aOu J K ly l hy BIG f g a k sy m0 hj hcap hsz h

theorem aIi{S:Type}(J K:S->MO->Prop)(ly:Nat)(e:S->(List Int)->Option (S×Bool))(hy:∀(s:S) (m:MO) (x0:List Int) (s':S×Bool),J s m->e s x0=some s'->aCn Tryz.prog ly [.d (.sl 1 (x0.map aD))] m (λb m'=>b=s'.2/\JK J K s' m'))(a:aQ)(c:List Int)(sy:S)(m0:MO)(hj:J sy m0){r:S×Bool}(h:sA e a c sy=some r):dX Tryz.prog 169 [.d (.lit (yv ly)),.cp (bM a),.cp (Z19 c)] [m0] (λ_ o'=>∃m',JK J K r m'/\o'=[m']):=by
 unfold sA at h;refine aJa func169 rfl (rs:=[]) results169 ntmps169 (Nat.le_of_ble_eq_true rfl) ?_;refine bT (bQ ?_);refine bO rfl (lC (v:=.d (.lit (yv ly))) (aE rfl) rfl rfl rfl) ?_;rintro _ ⟨b1,rfl⟩;refine au 3 ?_;refine bO rfl (dG (zs:=Z0) (aE rfl) zeroValue180 rfl rfl) ?_;rintro _ ⟨b2,rfl⟩;refine au 3 ?_;refine to (aQa (aE rfl) rfl rfl) ?_;refine gW (aO [0,2,1] rfl rfl (le_refl _)) ?_;apply aZc [m0,.box b2 0 Z0] [.box b1 0 (Z16 ly)] rfl;exact tK (k:=5) (v:=.fn 170 [.cp [.j a.Size,.j a.Seeds,.sl 3 (Z13 a),.sl 1 (Z20 a)],.cp (Z16 ly),.cp (Z19 c),.bp b2 0 0]) (aQm (.cons (.same _) (.cons (aDk 0 rfl rfl (dvc (.same _) dvn)) (.cons (.same _) (.cons (.same _) .nil))))) (tK (k:=3) (v:=.cp (Z16 ly)) (aDk 0 rfl rfl (dvc (.same _) dvn)) (aGj _ _));refine to (bFx (i:=1) rfl rfl rfl rfl sizeOf180) ?_;refine bN ?_;obtain⟨x4,h5,h⟩:=bns h;refine jX mix 10 [] (λX3=>[(6,.fn 170 [.cp [.j a.Size,.j a.Seeds,.sl 3 (Z13 a),.sl 1 (Z20 a)],.cp (Z16 ly),.cp (Z19 c),.bp b2 0 0]),(9,.d (.lit (vw (X3 3).b ([]:List Int).length x4))),(15,.i (Z21 a))]) (λX3=>[m0,rC b2 170 [.cp [.j a.Size,.j a.Seeds,.sl 3 (Z13 a),.sl 1 (Z20 a)],.cp (Z16 ly),.cp (Z19 c),.bp b2 0 0],.arr (vw (X3 3).b ([]:List Int).length x4) 3 1 Z11]) ?_ ?_
 ·refine⟨1,λX3=>[(6,0,.fn 170 [.cp [.j a.Size,.j a.Seeds,.sl 3 (Z13 a),.sl 1 (Z20 a)],.cp (Z16 ly),.cp (Z19 c),.bp b2 0 0]),(7,1,.cp [.j a.Size]),(8,2,.i a.Size),(9,3,.d (.lit (vw (X3 3).b ([]:List Int).length x4))),(10,4,.cp [.j a.Size]),(11,5,.i a.Size),(12,6,.cp [.sl 3 (Z13 a)]),(13,7,.d (.sl 3 (Z13 a))),(14,8,.i (a.Persons.length:Int)),(15,9,.i (Z21 a))],λX3=>[([],m0),([],rC b2 170 [.cp [.j a.Size,.j a.Seeds,.sl 3 (Z13 a),.sl 1 (Z20 a)],.cp (Z16 ly),.cp (Z19 c),.bp b2 0 0]),([(3,.arr (vw (X3 3).b ([]:List Int).length x4) 3 1 Z11)],nob)],?_,?_⟩
  · exact xok [(0,0),(0,4),(2,4),(3,0),(0,0),(5,0),(0,0),(7,0),(8,0),(609,0)] ⟨λ_ _ w _ k=>xp w (aSf (i:=1) (aE rfl) (aU k rfl) (og k rfl rfl) bIv),
 λ_ _ w _ k=>xp w (yfc k [.j a.Size] rfl aTb),
 λ_ _ w _ k=>xp w (ylc k rfl dI),
 λX3 S hw hi hS=>aEr (X:=X3) (p:=2) (v:=λx=>.d (.lit (vw x.b ([]:List Int).length x4))) (mo:=λx=>.arr (vw x.b ([]:List Int).length x4) 3 1 Z11) hS hi rfl rfl (λ_=>rfl) hw (λ_=>rfl) (λ_=>rfl) (λ_=>rfl) (λ_=>⟨rfl,rfl,.inr rfl,⟨rfl,rfl,.inr rfl,⟨rfl,rfl,.inr rfl,⟨rfl,rfl,.inl rfl,⟨rfl,rfl,.inr rfl,⟨rfl,rfl,.inr rfl,⟨rfl,rfl,.inr rfl,⟨rfl,rfl,.inr rfl,⟨rfl,rfl,.inr rfl,⟨rfl,rfl,.inr rfl,trivial⟩⟩⟩⟩⟩⟩⟩⟩⟩⟩) (λ_=>⟨trivial,rfl,⟨trivial,rfl,⟨⟨rfl,.inl rfl,trivial⟩,rfl,trivial⟩⟩⟩) (kW (bWj aD (aE rfl) cR rfl (aU hS rfl) h5 (aE rfl)) (by rintro _ ⟨w,rfl⟩;exact⟨⟨w,undef⟩,aO [0,1,3] rfl rfl (le_refl _)⟩)),
 λ_ _ w _ k=>xp w (yfc k [.j a.Size] rfl aTb),
 λ_ _ w _ k=>xp w (ylc k rfl dI),
 λ_ _ w _ k=>xp w (yfc k [.sl 3 (Z13 a)] rfl bDu),
 λ_ _ w _ k=>xp w (ylc k rfl bOp),
 λ_ _ w _ k=>xp w (yle k rfl bMe.of),
 λ_ _ w _ k=>xp w (yar k rfl rfl rfl),trivial⟩
  · exactλX3=>cP (aL rfl (aL rfl (aL rfl (aR trivial))))
 ·intro X3;obtain⟨y6,h7,h⟩:=bns h;refine bO rfl (oN (passed:=[m0,rC b2 170 [.cp [.j a.Size,.j a.Seeds,.sl 3 (Z13 a),.sl 1 (Z20 a)],.cp (Z16 ly),.cp (Z19 c),.bp b2 0 0],.arr (vw (X3 3).b ([]:List Int).length x4) 3 1 Z11]) (aE rfl) rfl (.clo _ _ _ _ call170 rfl) (aLv rfl) rfl (aRm J K ly e hy ([]:List Int) (Z21 a) a c sy _ hj (Nat.zero_le _) (bVv h5) h7)) ?_;rintro _ ⟨_,_,⟨m8,rfl,f,rfl⟩,rfl⟩;refine bN ?_;obtain rfl:=sIn h;exact⟨_,[m8],[rC b2 170 [.cp [.j a.Size,.j a.Seeds,.sl 3 (Z13 a),.sl 1 (Z20 a)],.cp (Z16 ly),.cp (Z19 c),.bp b2 0 0],.arr (vw (X3 3).b ([]:List Int).length x4) 3 1 Z11],_,.none,.refl _,.same _,m8,f,rfl⟩

theorem bBn(a:aQ){r:Int×Int}(h:sX a=some r):Fn Tryz.prog 51 [.agg (bM a)] (.tup [.i r.1,.i r.2]):=by
 unfold sX at h;refine oT [.tmp 2,.tmp 3] func51 results51 ntmps51 ?_;refine bT (bQ ?_);refine bO rfl (lC (v:=.agg (bM a)) (aE rfl) rfl rfl rfl) ?_;rintro _ ⟨b1,rfl⟩;refine au 6 ?_;refine to (sla 0 (bM a) rfl rfl vJ) ?_;obtain⟨r2,h3,h⟩:=bns h;refine to (scr call95 (bBm _ h3)) (au 7 ?_);refine tih h (λc4 h=>?_) (λc4 h=>?_)
 ·refine au 6 ?_;obtain rfl:=sIn h;refine eW (mS (oB (l:=[2,3]) (ae rfl))) ?_;exact cG ⟨rfl,_,.two _ _,rfl,rfl⟩
 ·refine au 3 ?_;refine bO rfl (dG (zs:=[.j 0]) (aE rfl) zeroValue3 rfl rfl) ?_;rintro _ ⟨b5,rfl⟩;refine to (sst 1 rfl rfl sizeOf3 [.j 0]) (au 4 ?_);refine to (sla 0 (bM a) rfl rfl vJ) ?_;obtain⟨x6,h7,h⟩:=bns h;refine to (nH (aE rfl) (.func _ _ call109) rfl rfl (aNk _ h7)) ?_;refine bN (aKw ?_);obtain⟨⟨s8,k⟩,h9,h⟩:=bns h;refine bBi (S:=Int) (S0:=Int) (f:=169) (ps:=[13]) (λc=>c) (λc=>[.box b1 0 (bM a),.box b5 0 [.j c]]) (bQe (λj:List Int=>.d (.sl 1 (j.map aD))) _) 0 0 (s8,k) (aO [0,1] rfl rfl (le_refl _)) rfl call169 rfl (by decide) rfl rfl (λl J K hy m0 h0=>aIi (S:=Int) J K l _ (λ_ _ _ _ hJ hq=>hy _ _ _ _ hJ ⟨_,rfl,hq⟩) a x6 _ m0 h0 h9) ?_ ?_ ?_
  ·rintro b _ _ ⟨j,rfl,h⟩;refine⟨rfl,?_⟩;refine au 5 ?_;refine to (sst 1 rfl rfl sizeOf3 [.j (w64 (b+1))]) ?_;refine kK ?_;obtain rfl:=sIn h;exact⟨rfl,(w64 (b+1)),rfl,aO [0,1] rfl rfl aVu⟩
  ·rintro b e g;subst g;have h:=aCq e h;refine bUd ?_;refine au 6 ?_;obtain rfl:=sIn h;refine eW (mS (oB (l:=[2,3]) (ae rfl))) ?_;exact cG ⟨rfl,_,.two _ _,rfl,rfl⟩
  ·rintro b e g;subst g;have h:=aJy e h;cases h

theorem bBp(e:aQ)(c:List Int){r:(List Int)}(h:sY e c=some r):Fn Tryz.prog 110 [.agg (bM e),.d (Z15 c)] (.d (.sl 1 (r.map aD))):=by
 unfold sY at h;refine fnx xT {ow:=[5]} [.tmp 4] func110 results110 ntmps110 ?_;refine ol ?_;refine xlp [2,8,9] [2] (λ((a,b):Int×Z14)=>([(5,.d (.hv 0 5 0)),(10,.i a)],[(5,.arr 3 1 (b.map aD))])) (λk ((a,b):Int×Z14)=>mE c (c.length:Int) e k a b) (0,([]:List Int)) h (lev []) ?_;rintro k4 ⟨a,b⟩ h;simp only[mE] at h;refine br h (λh=>?_) λh=>?_
 ·refine oi h λx5 h=>?_;refine br h (λh=>?_) λh=>?_
  ·refine oap h λx7 h=>?_;exact⟨(w64 (a+1),x7),h,lev [(5,18)]⟩
  ·refine oi h λg h=>?_;refine oap h λf h=>?_;exact⟨(w64 (a+1),f),h,lev [(5,27)]⟩
 ·simp only[aCr] at h;cases h;exact⟨rfl,rfl,rfl⟩

theorem bDj(a:aQ)(e:Int){r:(List Int)×Bool}(h:vD a e=some r):Fn Tryz.prog 52 [.agg (bM a),.i e] (.tup [.d (.sl 1 (r.1.map aD)),.b r.2]):=by
 unfold vD at h;refine vI func52 rfl (rs:=[.cell 4 23,.cell 5 4]) results52 ntmps52 (Nat.le_of_ble_eq_true rfl) ?_;refine bT (bQ ?_);refine bO rfl (lC (v:=.agg (bM a)) (aE rfl) rfl rfl rfl) ?_;rintro _ ⟨b1,rfl⟩;refine bO rfl (lC (v:=.i e) (aE rfl) rfl rfl rfl) ?_;rintro _ ⟨b2,rfl⟩;refine bO rfl (dG (zs:=[.sl 1 Z22]) (aE rfl) zeroValue23 rfl rfl) ?_;rintro _ ⟨b3,rfl⟩;refine bO rfl (dG (zs:=[.k false]) (aE rfl) zeroValue4 rfl rfl) ?_;rintro _ ⟨b4,rfl⟩;refine au 4 ?_;refine to (sla 0 (bM a) rfl rfl vJ) ?_;obtain⟨x5,h6,h⟩:=bns h;refine to (nH (aE rfl) (.func _ _ call109) rfl rfl (aNk _ h6)) ?_;refine bN (aKw ?_);obtain⟨⟨s7,p⟩,h8,h⟩:=bns h;refine bBi (S:=Int×Z14×Bool) (S0:=Int×Z14×Bool) (f:=169) (ps:=[9]) (λc=>(c.1,c.2.1,c.2.2)) (λc=>[.box b1 0 (bM a),.box b2 0 [.j c.1],.box b3 0 [.sl 1 (c.2.1.map aD)],.box b4 0 [.k c.2.2]]) (bQe (λk:List Int=>.d (.sl 1 (k.map aD))) _) (e,([]:List Int),false) (e,([]:List Int),false) (s7,p) (aO [0,1,2,3] rfl rfl (le_refl _)) rfl call169 rfl (by decide) rfl rfl (λl J K hy m0 h0=>aIi (S:=Int×Z14×Bool) J K l _ (λ_ _ _ _ hJ hq=>hy _ _ _ _ hJ ⟨_,rfl,hq⟩) a x5 _ m0 h0 h8) ?_ ?_ ?_
 ·rintro⟨e9,g,j⟩ _ _ ⟨k,rfl,h⟩;refine⟨rfl,?_⟩;refine au 10 ?_;refine tih h (λq h=>?_) (λq h=>?_)
  ·refine bT (bQ (to (sla 0 (bM a) rfl rfl vJ) (tm (.d (.sl 1 (k.map aD))) ?_)));obtain⟨o,s,h⟩:=bns h;refine to (nH (aE rfl) (.func _ _ call110) rfl rfl (bBp _ _ s)) ?_;refine to (sst 2 rfl rfl sizeOf23 [.sl 1 (o.map aD)]) (to (sst 3 rfl rfl sizeOf4 [.k true]) (bN ?_));obtain rfl:=sIn h;exact cG ⟨rfl,rfl,(e9,o,true),rfl,aO [0,1,2,3] rfl rfl aVu⟩
  ·refine au 4 ?_;refine to (sst 1 rfl rfl sizeOf3 [.j (w64 (e9-1))]) ?_;refine kK ?_;obtain rfl:=sIn h;exact⟨rfl,(w64 (e9-1),g,j),rfl,aO [0,1,2,3] rfl rfl aVu⟩
 ·rintro⟨e9,g,j⟩ m n;subst n;have h:=aCq m h;refine bUd ?_;refine bT (bQ (to (sst 2 rfl rfl sizeOf23 Z30) (to (sst 3 rfl rfl sizeOf4 [.k false]) (bN ?_))));obtain rfl:=sIn h;exact cG ⟨rfl,_,[.box b1 0 (bM a),.box b2 0 [.j e9],.box b3 0 Z30,.box b4 0 [.k false]],.two (.cell1 4 23 rfl (i:=2) rfl rG rfl) (.cell1 5 4 rfl (i:=3) rfl bUl rfl),.refl _,xE (.cons (.d (.nil 1)) (.cons (.same _) .nil))⟩
 ·rintro⟨e9,g,j⟩ m n;subst n;have h:=aJy m h;obtain rfl:=sIn h;exact cG ⟨rfl,_,[.box b1 0 (bM a),.box b2 0 [.j e9],.box b3 0 [.sl 1 (g.map aD)],.box b4 0 [.k j]],.two (.cell1 4 23 rfl (i:=2) rfl rG rfl) (.cell1 5 4 rfl (i:=3) rfl bUl rfl),.refl _,.same _⟩

theorem aOt(c:aQ){r:(List Int)×Int}(h:oR c=some r):Fn Tryz.prog 12 [.agg (bM c)] (.tup [.d (.sl 1 (r.1.map aD)),.i r.2]):=by
 unfold oR at h;refine fnx xT {} [.tmp 2,.tmp 3] func12 results12 ntmps12 ?_;refine cl call51 (λ_=>bBn _) h λr2 h=>?_;refine br h (λh=>?_) λh=>?_
 ·cases h;exact⟨rfl,_,_,rfl,rfl,rfl,rfl,rfl⟩
 ·refine br h (λh=>?_) λh=>?_
  ·cases h;exact⟨rfl,_,_,rfl,rfl,rfl,rfl,rfl⟩
  ·refine ol ?_;refine xlp [1,4,22,23] [1] (λ((a,b):Int×Int)=>([(6,.i a),(24,.i b)],[])) (λk ((a,b):Int×Int)=>kY r2.1 c.Lots (c.Lots.length:Int) c k a b) (0,0) h (lev []) ?_;rintro k5 ⟨a,b⟩ h;simp only[kY] at h;refine br h (λh=>?_) λh=>?_
   ·refine oi h λx6 h=>?_;exact⟨(w64 (a+x6),w64 (b+1)),h,lev []⟩
   ·simp only[qB] at h;refine⟨by kernel_rfl,?_⟩;refine onz h λh=>?_;refine cd call52 (λ_=>bDj _ _) h λe h=>?_;refine⟨by kernel_rfl,?_⟩;cases h;exact⟨rfl,_,_,rfl,rfl,rfl,rfl,rfl⟩

theorem aLl{r:aF×(List aB)}(h:oW=some r):Fn Tryz.prog 48 [] (.tup [.agg (aV r.1),.d (.sl 5 (r.2.map aK))]):=by
 unfold oW at h;refine fnx xT {} [.cell 0 38,.tmp 1] func48 results48 ntmps48 ?_;cases h;exact⟨rfl,_,_,rfl,rfl,rfl,rfl,rfl⟩

theorem gS(d:Int)(c:Int)(a:Int){r:Bool}(h:fU d c a=some r):Fn Tryz.prog 116 [.i d,.i c,.i a] (.b r):=by
 unfold fU at h;refine fnx xT {} [.tmp 6] func116 results116 ntmps116 ?_;refine jg h (λx h=>?_) λb1 h=>?_
 ·refine br h (λh=>?_) λh=>?_
  ·exact jt h
  ·exact jt h
 ·cases h;exact⟨rfl,rfl,rfl⟩

theorem aSu(e:aF){r:Bool}(h:qR e=some r):Fn Tryz.prog 111 [.agg (aV e)] (.b r):=by
 unfold qR at h;refine oT [.tmp 2] func111 results111 ntmps111 ?_;refine bT (bQ ?_);refine bO rfl (lC (v:=.agg (aV e)) (aE rfl) rfl rfl rfl) ?_;rintro _ ⟨b1,rfl⟩;refine au 4 ?_;obtain⟨r2,h3,h⟩:=bns h;obtain⟨b4,h5,h⟩:=bns h;refine fQ mix 13 [1] [(18,.b b4)] ?_ ?_
 ·refine bch h5 (λc6 h5=>?_) (λc6 h5=>?_)
  ·obtain rfl:=sIn h5;refine⟨[(6,0,.bp b1 0 0),(7,1,.i e.Rounds),(8,2,.b r2),(9,3,.b (!r2)),(10,4,.b (!r2)),(11,5,.tup []),(12,6,.tup []),(13,7,.tup []),(14,8,.tup []),(15,9,.tup []),(16,10,.tup []),(17,11,.tup []),(18,12,.b true)],?_,?_⟩
   · exact dk [0,1,2,3,4,5,506,507,5,509,510,50811,512] ⟨go (zf rfl xW),
 go (zl 0 rfl rfl rfl dI),
 go λS hS=>fZ (aE rfl) (.func _ _ call116) (ev2 (aU hS rfl) (ev2 rfl (ev2 rfl evn))) rfl (BVs.refl _ _) (gS _ _ _ h3) rfl,
 go (zn rfl),
 go (zm (.b (!r2))),
 gp c6,
 gp c6,
 gp c6,
 gp c6,
 gp c6,
 gp c6,
 gp c6,
 go (zpt (.b true) c6),trivial⟩
   · exact cP (aL rfl (aR (ae rfl)))
  ·obtain⟨u7,h8,h5⟩:=bns h5;obtain rfl:=sIn h5;refine⟨[(6,0,.bp b1 0 0),(7,1,.i e.Rounds),(8,2,.b r2),(9,3,.b (!r2)),(10,4,.b (!r2)),(11,5,.bp b1 0 1),(12,6,.d (.sl 1 (Z9 e))),(13,7,.i (e.Slots.length:Int)),(14,8,.bp b1 0 0),(15,9,.i e.Rounds),(16,10,.i (Z23 e)),(17,11,.b (!decide ((e.Slots.length:Int)=(Z23 e)))),(18,12,.b (!decide ((e.Slots.length:Int)=(Z23 e))))],?_,?_⟩
   · exact dk [0,1,2,3,4,5,506,507,5,509,510,50811,512] ⟨go (zf rfl xW),
 go (zl 0 rfl rfl rfl dI),
 go λS hS=>fZ (aE rfl) (.func _ _ call116) (ev2 (aU hS rfl) (ev2 rfl (ev2 rfl evn))) rfl (BVs.refl _ _) (gS _ _ _ h3) rfl,
 go (zn rfl),
 go (zm (.b (!r2))),
 gt c6 (zf rfl aGs),
 gt c6 (zl 0 rfl rfl rfl rG),
 gt c6 (zle rfl cR.of),
 gt c6 (zf rfl xW),
 gt c6 (zl 0 rfl rfl rfl dI),
 gt c6 λS hS=>aWy (aE rfl) rfl (aU hS rfl) (aIm h8),
 gt c6 (zcm rfl rfl rfl),
 go (zpf (.b (!decide ((e.Slots.length:Int)=(Z23 e)))) c6),trivial⟩
   · exact cP (aL rfl (aR (ae rfl)))
 ·refine bN ?_;refine tih h (λc9 h=>?_) (λc9 h=>?_)
  ·refine au 4 ?_;obtain rfl:=sIn h;refine eW (mS (oB (l:=[2]) (ae rfl))) ?_;exact rt
  ·refine au 3 ?_;refine bO rfl (aEm (aE rfl)) ?_;rintro _ ⟨u,rfl⟩;refine au 11 ?_;refine eV (S:=Int×(List (Int×Int))×(List Nat)×Nat) [1,3,21,22] (λg=>[(23,.i g.1)]) (λg=>[.box b1 0 (aV e),.map u (g.2.1.map λp:Int×Int=>(VI p.1,(λv:Int=>AV.i v) p.2)) g.2.2.1 g.2.2.2]) (λk g=>jV e.Slots (e.Slots.length:Int) e k g.1 g.2.1) (λ_=>rfl) (0,([]:List (Int×Int)),[],0) h (aO [0,1] rfl rfl (aL rfl (aR (ae rfl)))) ?_;rintro G ⟨j,c,s,q⟩ h;simp only[jV] at h;refine au 5 ?_;refine tih h (λw h=>?_) (λw h=>?_)
   ·refine au 6 ?_;obtain⟨f,x,h⟩:=bns h;refine to (six rfl rfl cR.of (cF aD x)) (au 10 ?_);refine tih h (λy h=>?_) (λy h=>?_)
    ·refine au 6 ?_;refine to (aKq (aE rfl) rfl rfl (.inr (.inr ⟨rfl,rfl⟩))) ?_;obtain⟨H,A,h⟩:=bns h;refine to (six rfl rfl cR.of (cF aD A)) (au 3 ?_);refine tih h (λB h=>?_) (λB h=>?_)
     ·refine au 4 ?_;obtain rfl:=sIn h;refine eW (mS (oB (l:=[2]) (ae rfl))) ?_;exact rt
     ·refine sD ?_;refine cZ ?_;refine .inl ⟨rfl,?_⟩;refine au 4 ?_;exact⟨(w64 (j+1),c,s,q),h,aO [0,1] rfl rfl (aL rfl (aR (ae rfl)))⟩
    ·refine au 5 ?_;refine to (aHt (av:=(λv:Int=>AV.i v)) (l:=c) (z:=0) (a:=f) (m:=1) (aE rfl) bKx underlying258 zeroValue3 (λ_ _=>.d (.lit _ rfl)) rfl rfl rfl rfl (aPf (kv:=VI) f)) ?_;refine to (sar rfl rfl rfl) (to (aJp (av:=(λv:Int=>AV.i v)) (l:=c) (v:=w64 ((bR f 0 c)+1)) (a:=f) (m:=1) bKx underlying258 rfl rfl rfl rfl (aPf (kv:=VI) f) rfl rfl) ?_);refine au 5 ?_;refine to (aHt (av:=(λv:Int=>AV.i v)) (l:=(eK f (w64 ((bR f 0 c)+1)) c)) (z:=0) (a:=f) (m:=1) (aE rfl) bKx underlying258 zeroValue3 (λ_ _=>.d (.lit _ rfl)) rfl rfl rfl rfl (aPf (kv:=VI) f)) ?_;refine au 2 ?_;obtain⟨C,o,h⟩:=bns h;refine lJ 4 [1,3,21,22,23] 49 C ?_ ?_
     ·refine bch o (λt o=>?_) (λt o=>?_)
      ·refine au 4 ?_;obtain rfl:=sIn o;refine bN (dQ rfl (ae rfl) rfl)
      ·refine tk t (sm (.i f)) ?_;obtain⟨I,E,o⟩:=bns o;refine tk t (scr call116 (gS _ _ _ E)) (au 2 ?_);obtain rfl:=sIn o;refine bN (dQ rfl (ae rfl) rfl)
     ·refine bN ?_;refine tih h (λF h=>?_) (λF h=>?_)
      ·refine au 4 ?_;obtain rfl:=sIn h;refine eW (mS (oB (l:=[2]) (ae rfl))) ?_;exact rt
      ·refine iO ?_;refine au 4 ?_;exact⟨(w64 (j+1),(eK f (w64 ((bR f 0 c)+1)) c),(mbs f c s q),(mck f c q)),h,aO [0,1] rfl rfl (aL rfl (aR (ae rfl)))⟩
   ·refine cZ ?_;refine .inl ⟨rfl,?_⟩;simp only[yX] at h;refine au 4 ?_;obtain rfl:=sIn h;refine eW (mS (oB (l:=[2]) (ae rfl))) ?_;exact rt

theorem aEo(e:List aB)(f:aB->Option Bool){r:Int}(a:Nat)(c:List AV)(j:∀args w,(callFunc a args).run Tryz.prog w=.ok (.enter a args) w)(l:∀(x0:aB) r,f x0=some r->Fn Tryz.prog a ([.agg (aK x0)]++c) (.b r))(h:kG e f=some r):Fn Tryz.prog 173 [.d (Z7 e),.fn a c] (.i r):=by
 unfold kG at h;refine oT [.tmp 4] func173 results173 ntmps173 ?_;refine au 12 ?_;refine eV (S:=Int) [0,1,7] (λs1=>[(8,.i s1)]) (λs1=>[]) (λk s1=>eT e f (e.length:Int) k s1) (λ_=>rfl) (0) h (aO [] rfl rfl (aL rfl (aR (ae rfl)))) ?_;rintro k2 g h;simp only[eT] at h;refine au 5 ?_;refine tih h (λc3 h=>?_) (λc3 h=>?_)
 ·refine au 10 ?_;refine tm (.fn a c) (au 2 ?_);obtain⟨x4,h5,h⟩:=bns h;refine to (six rfl rfl aXa.of (cF aK h5)) (to (aDe (aK x4) rfl tH) ?_);obtain⟨r6,h7,h⟩:=bns h;refine to (fZ (aE rfl) (.clo _ _ _ _ j rfl) (aLv rfl) rfl (BVs.refl _ _) (l _ _ h7) rfl) ?_;refine bN ?_;refine tih h (λc8 h=>?_) (λc8 h=>?_)
  ·refine au 5 ?_;obtain rfl:=sIn h;exact rt
  ·refine iO ?_;refine au 4 ?_;exact⟨(w64 (g+1)),h,aO [] rfl rfl (aL rfl (aR (ae rfl)))⟩
 ·refine cZ ?_;refine .inl ⟨rfl,?_⟩;simp only[oO] at h;refine au 4 ?_;obtain rfl:=sIn h;exact rt

theorem aCb(g:List aB)(i:aB->Option Bool){r:Bool}(a:Nat)(c:List AV)(e:∀args w,(callFunc a args).run Tryz.prog w=.ok (.enter a args) w)(f:∀(x0:aB) r,i x0=some r->Fn Tryz.prog a ([.agg (aK x0)]++c) (.b r))(h:iM g i=some r):Fn Tryz.prog 112 [.d (Z7 g),.fn a c] (.b r):=by
 unfold iM at h;refine oT [.tmp 4] func112 results112 ntmps112 ?_;refine au 7 ?_;refine tm (.fn a c) ?_;obtain⟨r1,h2,h⟩:=bns h;refine to (scr call173 (aEo _ _ a c e f h2)) (au 3 ?_);obtain rfl:=sIn h;exact rt

theorem aDx(a:aA)(c:aF){r:Bool}(h:oD a c=some r):Fn Tryz.prog 146 [.agg (aC a),.agg (aV c)] (.b r):=by
 unfold oD at h;refine fnx xT {} [.tmp 4] func146 results146 ntmps146 ?_;refine⟨by kernel_rfl,?_⟩;refine cl call116 (λ_=>gS _ _ _) h λr3 h=>?_;refine jo h (λx h=>?_) λb5 h=>?_
 ·refine br h (λh=>?_) λh=>?_
  ·refine ol ?_;refine oge h λh=>?_;refine cl call116 (λ_=>gS _ _ _) h λr9 h=>?_;exact⟨by kernel_rfl,jt h⟩
  ·exact⟨by kernel_rfl,jt h⟩
 ·refine⟨by kernel_rfl,?_⟩;cases h;exact⟨rfl,rfl,rfl⟩

theorem aSt(a:aF)(c:aB){r:Bool}(h:tM a c=some r):Fn Tryz.prog 114 [.agg (aV a),.agg (aK c)] (.b r):=by
 unfold tM at h;refine fnx xT {} [.tmp 4] func114 results114 ntmps114 ?_;refine cl call116 (λ_=>gS _ _ _) h λr3 h=>?_;refine br h (λh=>?_) λh=>?_
 ·cases h;exact⟨rfl,rfl,rfl⟩
 ·refine br h (λh=>?_) λh=>?_
  ·refine jg h (λx h=>?_) λb5 h=>?_
   ·refine br h (λh=>?_) λh=>?_
    ·refine ol ?_;refine cl call116 (λ_=>gS _ _ _) h λr7 h=>?_;exact jt h
    ·exact jt h
   ·refine jg h (λx h=>?_) λb9 h=>?_
    ·refine br h (λh=>?_) λh=>?_
     ·refine cl call116 (λ_=>gS _ _ _) h λd h=>?_;exact jt h
     ·exact jt h
    ·cases h;exact⟨rfl,rfl,rfl⟩
  ·refine cl call116 (λ_=>gS _ _ _) h λe h=>?_;refine jg h (λx h=>?_) λf h=>?_
   ·refine br h (λh=>?_) λh=>?_
    ·exact jt h
    ·exact jt h
   ·refine jg h (λx h=>?_) λg h=>?_
    ·refine br h (λh=>?_) λh=>?_
     ·exact jt h
     ·refine cl call146 (λ_=>aDx _ _) h λi h=>?_;exact jt h
    ·refine br h (λh=>?_) λh=>?_
     ·cases h;exact⟨rfl,rfl,rfl⟩
     ·refine jg h (λx h=>?_) λj h=>?_
      ·refine br h (λh=>?_) λh=>?_
       ·exact jt h
       ·refine osb h λk h=>?_;refine cl call91 (λ_=>dK _ _) h λl h=>?_;exact jt h
      ·cases h;exact⟨rfl,rfl,rfl⟩

theorem aSv(a:aB)(c:aF){r:Bool}(h:qS a c=some r):Fn Tryz.prog 113 [.agg (aK a),.cp (aV c)] (.b r):=by
 unfold qS at h;refine fnx xT {} [.tmp 3] func113 results113 ntmps113 ?_;refine cl call114 (λ_=>aSt _ _) h λr2 h=>?_;cases h;exact⟨rfl,rfl,rfl⟩

theorem aCh(f:aF)(n:List Int)(o:List (aB×Int))(g:Int){Q:(aB×Bool)->Prop}{t u:Nat}{c:Value}{w:Nat}{j:Nat}{s:List Nat}{e:Nat}(h:jU f n o g Q):dX Tryz.prog 220 [.bp t u 0,.d (Z39 j),.i g] (Z6 t u f c w n j o s e) (λr' o'=>∃(r:aB×Bool),Q r/\r'=.tup [.agg (aK r.1),.b r.2]/\o'=(Z6 t u f c w n j o s e)):=by
 unfold jU at h;refine kF func220 rfl (rs:=[.cell 6 95,.tmp 7]) results220 ntmps220 (Nat.le_of_ble_eq_true rfl) ?_;refine bT (bQ ?_);refine bO rfl (dG (zs:=[.j 0,.j 0,.j 0,.j 0,.j 0]) (aE rfl) zeroValue95 rfl rfl) ?_;rintro _ ⟨b1,rfl⟩;refine au 6 ?_;refine bO rfl (bJc (m:=2) (aE rfl) underlying260 rfl rfl) ?_;rintro _ ⟨q2,h4,rfl⟩;have h:=aPl h h4;refine bN (aKw ?_);refine yK [0,2,6,10] (λ(s5:aB×(List Nat))=>[]) (λ(s5:aB×(List Nat))=>[.arr c 3 1 (n.map aD),.box t u [.j f.Rounds,.sl 1 (Z9 f),.lit c,.lit (.map (some w))],.map j (o.map λp:aB×Int=>((λa:aB=>Value.agg ((aK a).map bA).toArray) p.1,(λv:Int=>AV.i v) p.2)) s e,.box b1 0 (aK s5.1),.iter q2 j e s5.2 e]) (λ(k:Nat) (s5:aB×(List Nat))=>jD Q g n f o k s5.1 (pX o s s5.2)) (λ_ h=>h) (Z34,[]) h (aO [1,0,2,3,4] rfl rfl (aR (ae rfl))) ?_;rintro k7 ⟨B,y⟩ h;simp only[jD] at h;refine bT (bQ ?_);refine bO rfl (bPi (kv:=(λa:aB=>Value.agg ((aK a).map bA).toArray)) (av:=(λv:Int=>AV.i v)) (l:=o) (mi:=4) (mm:=2) (aE rfl) rfl rfl rfl) ?_;rintro _ (⟨I,rfl⟩|⟨j9,C,p8,E,rfl⟩)
 ·have h:=h.1 I;refine au 3 ?_;refine aDt rfl (λF=>?_) (λF=>?_)
  ·exact absurd F (by decide)
  ·refine cZ ?_;refine .inl ⟨rfl,?_⟩;simp only[qJ] at h;refine bT (bQ (to (jT (aE rfl) bZc (zs:=[.j 0,.j 0,.j 0,.j 0,.j 0]) rfl rfl rfl rfl (es:=[.j 0,.j 0,.j 0,.j 0,.j 0]) rfl) ?_));refine to (sst 3 rfl rfl sizeOf95 (aK Z34)) (au 2 ?_);refine eW (aO [1,0,2,3,4] rfl rfl (le_refl _)) ?_;exact cG ⟨rfl,_,(Z6 t u f c w n j o s e),[.box b1 0 (aK Z34),.iter q2 j e y e],_,.two (.cell 6 95 rfl (i:=3) rfl tH (es:=(aK Z34)) rfl rfl) (.tmp 7 (v:=.b false) rfl),.refl _,.same _,(Z34,false),h,rfl,rfl⟩
 ·have h:=aRv h E;refine au 3 ?_;refine aDt rfl (λG=>?_) (λG=>?_)
  ·refine au 4 ?_;refine to (bJa (kv:=(λa:aB=>Value.agg ((aK a).map bA).toArray)) (av:=(λv:Int=>AV.i v)) (l:=o) (mi:=4) (mm:=2) (ka:=.agg (aK p8.1)) (aE rfl) rfl rfl rfl E (λ_ _=>.agg (aPh rfl))) ?_;refine to (sex rfl rfl) ?_;refine bO rfl (dG (zs:=[.j 0,.j 0,.j 0,.j 0,.j 0]) (aE rfl) zeroValue95 rfl rfl) ?_;rintro _ ⟨z,rfl⟩;refine to (sst 5 rfl rfl sizeOf95 (aK p8.1)) (bN (bT ?_));obtain⟨K,x,h⟩:=dN h;refine fQ mix 16 [0,2,6,8,10] [(30,.b K)] ?_ ?_
   ·refine bch x (λq x=>?_) (λq x=>?_)
    ·obtain⟨A,H,x⟩:=bns x;obtain rfl:=sIn x;refine⟨[(15,0,.bp z 0 2),(16,1,.i p8.1.Place),(17,2,.i g),(18,3,.b (decide (p8.1.Place=g))),(19,4,.b (decide (p8.1.Place=g))),(20,5,.bp z 0 4),(21,6,.i p8.1.Old),(22,7,.bp t u 0),(23,8,.bp t u 0),(24,9,.bp t u 2),(25,10,.d (.lit c)),(26,11,.i g),(27,12,.ep c 1 g.toNat 0),(28,13,.i A),(29,14,.b (decide (p8.1.Old=A))),(30,15,.b (decide (p8.1.Old=A)))],?_,?_⟩
     · exact dk [0,1,0,203,4,5,506,5,508,509,510,5,51112,513,50714,515] ⟨go (zf rfl aTe),
 go (zl 5 rfl rfl rfl dI),
 go (zm (.i g)),
 go (zcm rfl rfl rfl),
 go (zm (.b (decide (p8.1.Place=g)))),
 gt q (zf rfl bRo),
 gt q (zl 5 rfl rfl rfl dI),
 gt q (zm (.bp t u 0)),
 gt q λS hS=>jL (aE rfl) (aU hS rfl),
 gt q (zf rfl uI),
 gt q (zl 1 rfl rfl rfl rG),
 gt q (zm (.i g)),
 gt q (zia 0 rfl rfl rfl cR.of (cF aD H)),
 gt q λS hS=>sQ (aE rfl) (aU hS rfl) (m:=0) rfl (fY aD H) rfl dI,
 gt q (zcm rfl rfl rfl),
 go (zpt (.b (decide (p8.1.Old=A))) q),trivial⟩
     · exact cP (aL rfl (aR (ae rfl)))
    ·obtain rfl:=sIn x;refine⟨[(15,0,.bp z 0 2),(16,1,.i p8.1.Place),(17,2,.i g),(18,3,.b (decide (p8.1.Place=g))),(19,4,.b (decide (p8.1.Place=g))),(20,5,.tup []),(21,6,.tup []),(22,7,.tup []),(23,8,.tup []),(24,9,.tup []),(25,10,.tup []),(26,11,.tup []),(27,12,.tup []),(28,13,.tup []),(29,14,.tup []),(30,15,.b false)],?_,?_⟩
     · exact dk [0,1,0,203,4,5,506,5,508,509,510,5,51112,513,50714,515] ⟨go (zf rfl aTe),
 go (zl 5 rfl rfl rfl dI),
 go (zm (.i g)),
 go (zcm rfl rfl rfl),
 go (zm (.b (decide (p8.1.Place=g)))),
 gp q,
 gp q,
 gp q,
 gp q,
 gp q,
 gp q,
 gp q,
 gp q,
 gp q,
 gp q,
 go (zpf (.b false) q),trivial⟩
     · exact cP (aL rfl (aR (ae rfl)))
   ·refine bN ?_;refine tip h (λL h=>?_) (λL h=>?_)
    ·refine bT (bQ (to (sla 5 (aK p8.1) rfl rfl tH) (to (sst 3 rfl rfl sizeOf95 (aK p8.1)) (au 2 ?_))));refine eW (aO [1,0,2,3,4,5] rfl rfl (le_refl _)) ?_;exact cG ⟨rfl,_,(Z6 t u f c w n j o s e),[.box b1 0 (aK p8.1),.iter q2 j e (y++[C]) e,.box z 0 (aK p8.1)],_,.two (.cell 6 95 rfl (i:=3) rfl tH (es:=(aK p8.1)) rfl rfl) (.tmp 7 (v:=.b true) rfl),.refl _,.same _,(p8.1,true),h,rfl,rfl⟩
    ·refine iO ?_;exact⟨(B,(y++[C])),h,aO [0,1,2,3,4] rfl rfl (aR (ae rfl))⟩
  ·exact absurd G (by decide)

theorem aJd(e:aF)(s:List Int)(C:List (aB×Int)){Q:(Bool×(List Int)×(List (aB×Int)))->Prop}{u w:Nat}{c:Value}{q:Nat}{o:Nat}{z:List Nat}{A:Nat}(h:mN e s C Q):dX Tryz.prog 174 [.bp u w 0,.d (Z39 o)] [.box u w [.j e.Rounds,.sl 1 (Z9 e),.lit c,.lit (.map (some q))],.arr c 3 1 (s.map aD),.map o (C.map λp:aB×Int=>((λa:aB=>Value.agg ((aK a).map bA).toArray) p.1,(λv:Int=>AV.i v) p.2)) z A] (λr' o'=>∃(r:Bool×(List Int)×(List (aB×Int))) (U:List Nat) (V:Nat),Q r/\r'=.b r.1/\o'=[.box u w [.j e.Rounds,.sl 1 (Z9 e),.lit c,.lit (.map (some q))],.arr c 3 1 (r.2.1.map aD),.map o (r.2.2.map λp:aB×Int=>((λa:aB=>Value.agg ((aK a).map bA).toArray) p.1,(λv:Int=>AV.i v) p.2)) U V]):=by
 unfold mN at h;refine kF func174 rfl (rs:=[.tmp 4]) results174 ntmps174 (Nat.le_of_ble_eq_true rfl) ?_;refine au 7 ?_;refine to (jL (aE rfl) rfl) ?_;refine au 3 ?_;obtain⟨r1,h2,h⟩:=dN h;refine bO rfl (aWu (aE rfl) (.func _ _ call93) rfl rfl (wO _ h2)) ?_;rintro _ ⟨v3,rfl⟩;refine au 6 ?_;refine to (jL (aE rfl) rfl) ?_;refine au 2 ?_;refine to (aMw (m:=1) (aE rfl) rfl rfl cR.of) ?_;refine au 3 ?_;refine yK [0,1,19] (λ(s4:Int×(List Int)×(List (aB×Int))×(List Int)×(List Nat)×Nat×Value)=>[(5,.d (.lit s4.2.2.2.2.2.2)),(20,.i s4.1)]) (λ(s4:Int×(List Int)×(List (aB×Int))×(List Int)×(List Nat)×Nat×Value)=>[.arr c 3 1 (s4.2.1.map aD),.box u w [.j e.Rounds,.sl 1 (Z9 e),.lit c,.lit (.map (some q))],.map o (s4.2.2.1.map λp:aB×Int=>((λa:aB=>Value.agg ((aK a).map bA).toArray) p.1,(λv:Int=>AV.i v) p.2)) s4.2.2.2.2.1 s4.2.2.2.2.2.1,.arr s4.2.2.2.2.2.2 3 1 (s4.2.2.2.1.map aD)]) (λ(k:Nat) (s4:Int×(List Int)×(List (aB×Int))×(List Int)×(List Nat)×Nat×Value)=>cV Q (s.length:Int) e k s4.1 s4.2.1 s4.2.2.1 s4.2.2.2.1) (λ_ h=>h) (0,s,C,r1,z,A,v3) h (aO [1,0,2,3] rfl rfl (aL rfl (aL rfl (aR (ae rfl))))) ?_;rintro k8 ⟨n,B,t,H,I,K,w7⟩ h;simp only[cV] at h;refine au 5 ?_;refine tip h (λc9 h=>?_) (λc9 h=>?_)
 ·refine au 13 ?_;refine gW (aO [1,0,2,3] rfl rfl (le_refl _)) ?_;refine bO rfl (oN (passed:=[.box u w [.j e.Rounds,.sl 1 (Z9 e),.lit c,.lit (.map (some q))],.arr c 3 1 (B.map aD),.map o (t.map λp:aB×Int=>((λa:aB=>Value.agg ((aK a).map bA).toArray) p.1,(λv:Int=>AV.i v) p.2)) I K]) (aE rfl) rfl (.func _ _ call220) rfl rfl (aCh e B t n h)) ?_;rintro _ ⟨_,_,⟨L,h,rfl,rfl⟩,rfl⟩;refine au 3 ?_;refine bO rfl (dG (zs:=[.j 0,.j 0,.j 0,.j 0,.j 0]) (aE rfl) zeroValue95 rfl rfl) ?_;rintro _ ⟨W,rfl⟩;refine to (sst 4 rfl rfl sizeOf95 (aK L.1)) (au 2 ?_);refine aGe ?_;refine yK [0,1,6,19,20] (λ(x:Bool×(List Int)×(List (aB×Int))×aB×(List Int)×(List Nat)×Nat×Nat×Value)=>[(5,.d (.lit x.2.2.2.2.2.2.2.2)),(7,.bp x.2.2.2.2.2.2.2.1 0 0),(8,.b x.1)]) (λ(x:Bool×(List Int)×(List (aB×Int))×aB×(List Int)×(List Nat)×Nat×Nat×Value)=>[.arr c 3 1 (x.2.1.map aD),.box u w [.j e.Rounds,.sl 1 (Z9 e),.lit c,.lit (.map (some q))],.map o (x.2.2.1.map λp:aB×Int=>((λa:aB=>Value.agg ((aK a).map bA).toArray) p.1,(λv:Int=>AV.i v) p.2)) x.2.2.2.2.2.1 x.2.2.2.2.2.2.1,.box x.2.2.2.2.2.2.2.1 0 (aK x.2.2.2.1),.arr x.2.2.2.2.2.2.2.2 3 1 (x.2.2.2.2.1.map aD)]) (λ(k:Nat) (x:Bool×(List Int)×(List (aB×Int))×aB×(List Int)×(List Nat)×Nat×Nat×Value)=>dV Q (cV Q (s.length:Int) e k8) n (s.length:Int) n e k x.1 x.2.1 x.2.2.1 x.2.2.2.1 x.2.2.2.2.1) (λ_ h=>h) (L.2,B,t,L.1,H,I,K,W,w7) h (aO [1,0,2,4,3] rfl rfl (aL rfl (aL rfl (aL rfl (aR (ae rfl)))))) ?_;rintro a6 ⟨T,y,j,g,E,F,G,N,O⟩ h;simp only[dV] at h;refine au 5 ?_;refine tip h (λX h=>?_) (λX h=>?_)
  ·refine au 9 ?_;obtain⟨a7,Y,h⟩:=dN h;refine to (sc call91 (dK _ _ Y) (.cons (.d (pE 4 rfl (dT (f:=aD) λ_=>rfl))) (.cons (.same _) .nil))) (bN ?_);refine tip h (λZ h=>?_) (λZ h=>?_)
   ·refine au 4 ?_;refine eW (aO [1,0,2,3,4] rfl rfl (le_refl _)) ?_;exact cG ⟨rfl,_,[.box u w [.j e.Rounds,.sl 1 (Z9 e),.lit c,.lit (.map (some q))],.arr c 3 1 (y.map aD),.map o (j.map λp:aB×Int=>((λa:aB=>Value.agg ((aK a).map bA).toArray) p.1,(λv:Int=>AV.i v) p.2)) F G],[.box N 0 (aK g),.arr O 3 1 (E.map aD)],_,.one (.tmp 4 (v:=.b false) rfl),.refl _,.same _,(false,y,j),F,G,h,rfl,rfl⟩
   ·refine sD (bT ?_);refine fQ mix 7 [0,1,5,6,7,19,20] [(45,.d (.lit c)),(46,.i n),(48,.i g.Player)] ?_ ?_
    ·refine⟨[(42,0,.bp u w 0),(43,1,.bp u w 0),(44,2,.bp u w 2),(45,3,.d (.lit c)),(46,4,.i n),(47,5,.bp N 0 3),(48,6,.i g.Player)],?_,?_⟩
     · exact dk [0,1,2,3,0,0,6] ⟨go (zm (.bp u w 0)),
 go λS hS=>jL (aE rfl) (aU hS rfl),
 go (zf rfl uI),
 go (zl 1 rfl rfl rfl rG),
 go (zm (.i n)),
 go (zf rfl aCs),
 go (zl 3 rfl rfl rfl dI),trivial⟩
     · exact cP (aL rfl (aL rfl (aL rfl (aR (ae rfl)))))
    ·obtain⟨a8,P,h⟩:=dN h;refine to (mK (m:=0) (aE rfl) rfl rfl rfl cR.of (cF aD P)) ?_;refine to (vH (l:=0) rfl rfl (fY aD P) rfl rfl rfl sizeOf3 rfl (aE rfl) (Nat.le_of_ble_eq_true rfl) (rows':=((y.set n.toNat g.Player)).map aD) (aDd _ _ _ _ rfl)) ?_;refine au 6 ?_;refine to (qG (aE rfl) cR rfl rfl (rows:=([g.Player]).map aD) rfl (dT (f:=aD) λ_=>rfl) rfl (by decide)) ?_;obtain⟨a2,a3,h⟩:=dN h;refine bO rfl (pM (i:=4) (aE rfl) cR rfl rfl rfl (λ_=>rfl) a3 rfl) ?_;rintro _ ⟨a4,rfl⟩;refine au 4 ?_;refine to (sla 3 (aK g) rfl rfl tH) (to (bSy (av:=(λv:Int=>AV.i v)) (l:=j) (a:=g) (m:=2) bEe underlying260 rfl rfl rfl rfl (mF (enc:=aK) g rfl)) ?_);refine kK ?_;refine au 3 ?_;refine to (sla 3 (aK g) rfl rfl tH) (bN (bQ ?_));refine bO rfl (dG (zs:=[.j 0,.j 0,.j 0,.j 0,.j 0]) (aE rfl) zeroValue95 rfl rfl) ?_;rintro _ ⟨a5,rfl⟩;refine to (sst 5 rfl rfl sizeOf95 (aK g)) (au 5 ?_);refine gW (aO [1,0,2,3,4,5] rfl rfl (le_refl _)) ?_;refine bO rfl (oN (passed:=[.box u w [.j e.Rounds,.sl 1 (Z9 e),.lit c,.lit (.map (some q))],.arr c 3 1 ((y.set n.toNat g.Player).map aD),.map o ((tA g j).map λp:aB×Int=>((λa:aB=>Value.agg ((aK a).map bA).toArray) p.1,(λv:Int=>AV.i v) p.2)) (aJh g j F) G]) (aE rfl) rfl (.func _ _ call220) rfl rfl (aCh e (y.set n.toNat g.Player) (tA g j) n h)) ?_;rintro _ ⟨_,_,⟨M,h,rfl,rfl⟩,rfl⟩;refine au 3 ?_;refine to (sst 5 rfl rfl sizeOf95 (aK M.1)) (au 2 ?_);exact⟨(M.2,(y.set n.toNat g.Player),(tA g j),M.1,a2,(aJh g j F),G,a5,a4),h,aO [1,0,2,5,4] rfl rfl (aL rfl (aL rfl (aL rfl (aR (ae rfl)))))⟩
  ·refine cZ ?_;refine .inl ⟨rfl,?_⟩;simp only[nO] at h;simp only[nN] at h;refine au 4 ?_;exact⟨(w64 (n+1),y,j,E,F,G,O),h,aO [0,1,2,4] rfl rfl (aL rfl (aL rfl (aR (ae rfl))))⟩
 ·refine cZ ?_;refine .inl ⟨rfl,?_⟩;simp only[nM] at h;refine au 3 ?_;refine to (bSz (m:=2) (aE rfl) underlying260 rfl rfl) ?_;refine au 3 ?_;refine eW (aO [1,0,2,3] rfl rfl (le_refl _)) ?_;exact cG ⟨rfl,_,[.box u w [.j e.Rounds,.sl 1 (Z9 e),.lit c,.lit (.map (some q))],.arr c 3 1 (B.map aD),.map o (t.map λp:aB×Int=>((λa:aB=>Value.agg ((aK a).map bA).toArray) p.1,(λv:Int=>AV.i v) p.2)) I K],[.arr w7 3 1 (H.map aD)],_,.one (.tmp 4 (v:=.b (decide ((t.length:Int)=0))) rfl),.refl _,.same _,(decide ((t.length:Int)=0),B,t),I,K,h,rfl,rfl⟩

theorem tN(a:Int)(b:Int){r:aA}(h:mO a b=some r):Fn Tryz.prog 56 [.i a,.i b] (.agg (aC r)):=by
 unfold mO at h;refine fnx xT {} [.cell 4 143] func56 results56 ntmps56 ?_;refine oge h λh=>?_;cases h;exact⟨rfl,rfl,rfl⟩

theorem aCj(g:aF)(o:List Int)(u:List (aA×Int))(q:Int)(w:Int){r:Bool×(List (aA×Int))}{j n:Nat}{c:Value}{f:Nat}{s:List Nat}{t:Nat}(h:nE g o u q w=some r):dX Tryz.prog 175 [.bp j n 0,.i q,.i w] [.box j n [.j g.Rounds,.sl 1 (Z9 g),.lit c,.lit (.map (some f))],.arr c 3 1 (o.map aD),.map f (u.map λp:aA×Int=>((λa:aA=>Value.agg ((aC a).map bA).toArray) p.1,(λv:Int=>AV.i v) p.2)) s t] (λr' o'=>∃(x:List Nat) (H:Nat),r'=.b r.1/\o'=[.box j n [.j g.Rounds,.sl 1 (Z9 g),.lit c,.lit (.map (some f))],.arr c 3 1 (o.map aD),.map f (r.2.map λp:aA×Int=>((λa:aA=>Value.agg ((aC a).map bA).toArray) p.1,(λv:Int=>AV.i v) p.2)) x H]):=by
 unfold nE at h;refine kF func175 rfl (rs:=[.tmp 6]) results175 ntmps175 (Nat.le_of_ble_eq_true rfl) ?_;refine au 12 ?_;refine eV (S:=Int×(List (aA×Int))×(List Nat)×Nat) [0,1,12] (λs1=>[(13,.i s1.1)]) (λs1=>[.arr c 3 1 (o.map aD),.map f (s1.2.1.map λp:aA×Int=>((λa:aA=>Value.agg ((aC a).map bA).toArray) p.1,(λv:Int=>AV.i v) p.2)) s1.2.2.1 s1.2.2.2,.box j n [.j g.Rounds,.sl 1 (Z9 g),.lit c,.lit (.map (some f))]]) (λk s1=>jE q (w64 (w+1)) o g k s1.1 s1.2.1) (λ_=>rfl) (0,u,s,t) h (aO [1,2,0] rfl rfl (aL rfl (aR (ae rfl)))) ?_;rintro k4 ⟨E,e,x,A⟩ h;simp only[jE] at h;refine au 5 ?_;refine tih h (λc5 h=>?_) (λc5 h=>?_)
 ·refine au 12 ?_;obtain⟨r6,h7,h⟩:=bns h;refine to (nH (aE rfl) (.func _ _ call56) rfl rfl (tN _ _ h7)) ?_;refine bO rfl (dG (zs:=[.j 0,.j 0]) (aE rfl) zeroValue143 rfl rfl) ?_;rintro _ ⟨b8,rfl⟩;refine to (sst 3 rfl rfl sizeOf143 (aC r6)) (au 3 ?_);refine fQ mix 10 [0,1,8,12,13] [(9,.i (bR r6 0 e)),(27,.b (eB r6 e))] ?_ ?_
  ·refine⟨[(20,0,.bp j n 0),(21,1,.bp j n 0),(22,2,.bp j n 3),(23,3,.d (Z39 f)),(24,4,.agg (aC r6)),(25,5,.tup [.i (bR r6 0 e),.b (eB r6 e)]),(19,6,.tup [.i (bR r6 0 e),.b (eB r6 e)]),(26,7,.i (bR r6 0 e)),(27,8,.b (eB r6 e)),(9,9,.i (bR r6 0 e))],?_,?_⟩
   · exact dk [0,1,2,3,0,405,6,7,7,8] ⟨go (zm (.bp j n 0)),
 go λS hS=>jL (aE rfl) (aU hS rfl),
 go (zf rfl aAj),
 go (zl 2 rfl rfl rfl aGc),
 go (zla 3 (aC r6) rfl rfl oA),
 go λS hS=>aWv (av:=(λv:Int=>AV.i v)) (l:=e) (z:=0) (a:=r6) (m:=1) (aE rfl) aCu underlying139 zeroValue3 (λ_ _=>.d (.lit _ rfl)) (aU hS rfl) rfl rfl (aU hS rfl) (mF (enc:=aC) r6 rfl),
 go (zm (.tup [.i (bR r6 0 e),.b (eB r6 e)])),
 go (zex rfl rfl),
 go (zex rfl rfl),
 go (za (.i (bR r6 0 e))),trivial⟩
   · exact cP (aL rfl (aL rfl (aR (ae rfl))))
  ·refine au 6 ?_;obtain⟨b9,y,h⟩:=bns h;refine lJ 10 [0,1,8,12,13] 39 b9 ?_ ?_
   ·refine bch y (λB y=>?_) (λB y=>?_)
    ·refine au 2 ?_;refine tk B (jL (aE rfl) rfl) ?_;refine au 3 ?_;obtain⟨K,F,y⟩:=bns y;refine tk B (mK (m:=0) (aE rfl) rfl rfl rfl cR.of (cF aD F)) ?_;refine tk B (sQ (aE rfl) rfl (m:=0) rfl (fY aD F) rfl dI) ?_;refine au 2 ?_;obtain rfl:=sIn y;refine bN (dQ rfl (ae rfl) rfl)
    ·refine au 10 ?_;obtain rfl:=sIn y;refine bN (dQ rfl (ae rfl) rfl)
   ·refine bN ?_;refine tih h (λI h=>?_) (λI h=>?_)
    ·refine au 4 ?_;obtain rfl:=sIn h;refine eW (aO [2,0,1,3] rfl rfl (le_refl _)) ?_;exact cG ⟨rfl,_,[.box j n [.j g.Rounds,.sl 1 (Z9 g),.lit c,.lit (.map (some f))],.arr c 3 1 (o.map aD),.map f (e.map λp:aA×Int=>((λa:aA=>Value.agg ((aC a).map bA).toArray) p.1,(λv:Int=>AV.i v) p.2)) x A],[.box b8 0 (aC r6)],_,.one (.tmp 6 (v:=.b false) rfl),.refl _,.same _,x,A,rfl,rfl⟩
    ·refine sD ?_;obtain⟨C,G,h⟩:=bns h;refine fQ mix 12 [0,1,12,13] [(43,.d (Z39 f)),(44,.agg (aC r6)),(51,.i C)] ?_ ?_
     ·refine⟨[(40,0,.bp j n 0),(41,1,.bp j n 0),(42,2,.bp j n 3),(43,3,.d (Z39 f)),(44,4,.agg (aC r6)),(45,5,.bp j n 0),(46,6,.bp j n 0),(47,7,.bp j n 2),(48,8,.d (.lit c)),(49,9,.i q),(50,10,.ep c 1 q.toNat 0),(51,11,.i C)],?_,?_⟩
      · exact dk [0,1,2,3,0,0,6,7,8,0,910,11] ⟨go (zm (.bp j n 0)),
 go λS hS=>jL (aE rfl) (aU hS rfl),
 go (zf rfl aAj),
 go (zl 2 rfl rfl rfl aGc),
 go (zla 3 (aC r6) rfl rfl oA),
 go (zm (.bp j n 0)),
 go λS hS=>jL (aE rfl) (aU hS rfl),
 go (zf rfl uI),
 go (zl 2 rfl rfl rfl rG),
 go (zm (.i q)),
 go (zia 0 rfl rfl rfl cR.of (cF aD G)),
 go λS hS=>sQ (aE rfl) (aU hS rfl) (m:=0) rfl (fY aD G) rfl dI,trivial⟩
      · exact cP (aL rfl (aL rfl (aL rfl (aR (ae rfl)))))
     ·refine to (aJp (av:=(λv:Int=>AV.i v)) (l:=e) (v:=C) (a:=r6) (m:=1) aCu underlying139 rfl rfl rfl rfl (mF (enc:=aC) r6 rfl) rfl rfl) ?_;refine kK ?_;refine au 4 ?_;exact⟨(w64 (E+1),(eK r6 C e),(mbs r6 e x A),(mck r6 e A)),h,aO [0,1,2] rfl rfl (aL rfl (aR (ae rfl)))⟩
 ·refine cZ ?_;refine .inl ⟨rfl,?_⟩;simp only[uU] at h;refine au 4 ?_;obtain rfl:=sIn h;refine eW (aO [2,0,1] rfl rfl (le_refl _)) ?_;exact cG ⟨rfl,_,[.box j n [.j g.Rounds,.sl 1 (Z9 g),.lit c,.lit (.map (some f))],.arr c 3 1 (o.map aD),.map f (e.map λp:aA×Int=>((λa:aA=>Value.agg ((aC a).map bA).toArray) p.1,(λv:Int=>AV.i v) p.2)) x A],[],_,.one (.tmp 6 (v:=.b true) rfl),.refl _,.same _,x,A,rfl,rfl⟩

theorem aUu (j:aF)(Z:List aB){Q:((Option aP)×Bool)->Prop}(h:vM j Z Q):dX Tryz.prog 115 (Z17 j Z) [] (λr' o'=>∃(r:(Option aP)×Bool),Q r/\r'=.tup [cQ aS r.1,.b r.2]/\o'=[]):=by
 unfold vM at h;refine kF func115 rfl (rs:=[.tmp 4,.tmp 5]) results115 ntmps115 (Nat.le_of_ble_eq_true rfl) ?_;refine bT (bQ ?_);refine bO rfl (lC (v:=.agg (aV j)) (aE rfl) rfl rfl rfl) ?_;rintro _ ⟨b1,rfl⟩;refine ta (cQ aS (none:Option aP)) (au 3 ?_);obtain⟨r3,h4,h⟩:=dN h;refine jX mix 5 [1] (λX2=>[(19,.agg (aV j)),(22,.d (.lit (X2 3).v)),(23,.d (.lit (.map (some (X2 4).b))))]) (λX2=>[.box b1 0 (aV j),.arr (X2 3).v 3 1 (r3.map aD),.map (X2 4).b (([]:List (aA×Int)).map λp:aA×Int=>((λa:aA=>Value.agg ((aC a).map bA).toArray) p.1,(λv:Int=>AV.i v) p.2)) ([]) 0]) ?_ ?_
 ·refine⟨2,λX2=>[(19,0,.agg (aV j)),(20,1,.bp b1 0 1),(21,2,.d (.sl 1 (Z9 j))),(22,3,.d (.lit (X2 3).v)),(23,4,.d (.lit (.map (some (X2 4).b))))],λX2=>[([],.box b1 0 (aV j)),([(3,.arr (X2 3).v 3 1 (r3.map aD))],nob),([(4,.map (X2 4).b (([]:List (aA×Int)).map λp:aA×Int=>((λa:aA=>Value.agg ((aC a).map bA).toArray) p.1,(λv:Int=>AV.i v) p.2)) ([]) 0)],nob)],?_,?_⟩
  · exact xok [(0,0),(0,4),(2,4),(3,0),(0,0)] ⟨λ_ _ w _ k=>xp w (yla k 0 (aV j) rfl (og k rfl rfl) tG),
 λ_ _ w _ k=>xp w (yf k rfl aGs),
 λ_ _ w _ k=>xp w (yl k 0 rfl (og k rfl rfl) rfl rG),
 λX2 S hw hi hS=>aEr (X:=X2) (p:=1) (v:=λx=>.d (.lit x.v)) (mo:=λx=>.arr x.v 3 1 (r3.map aD)) hS hi rfl rfl (λ_=>rfl) hw (λ_=>rfl) (λ_=>rfl) (λ_=>rfl) (λ_=>⟨rfl,rfl,.inr rfl,⟨rfl,rfl,.inr rfl,⟨rfl,rfl,.inr rfl,⟨rfl,rfl,.inl rfl,⟨rfl,rfl,.inr rfl,trivial⟩⟩⟩⟩⟩) (λ_=>⟨trivial,rfl,⟨⟨rfl,.inl rfl,trivial⟩,rfl,⟨⟨rfl,.inr rfl,trivial⟩,rfl,trivial⟩⟩⟩) (kW (aWu (aE rfl) (.func _ _ call93) (ev2 (aU hS rfl) evn) rfl (wO _ h4)) (by rintro _ ⟨w,rfl⟩;exact⟨⟨0,w⟩,aO [0,3,2] rfl rfl (le_refl _)⟩)),
 λX2 S hw hi hS=>aEr (X:=X2) (p:=2) (v:=λx=>.d (.lit (.map (some x.b)))) (mo:=λx=>.map x.b (([]:List (aA×Int)).map λp:aA×Int=>((λa:aA=>Value.agg ((aC a).map bA).toArray) p.1,(λv:Int=>AV.i v) p.2)) ([]) 0) hS hi rfl rfl (λ_=>rfl) hw (λ_=>rfl) (λ_=>rfl) (λ_=>rfl) (λ_=>⟨rfl,rfl,.inr rfl,⟨rfl,rfl,.inr rfl,⟨rfl,rfl,.inr rfl,⟨rfl,rfl,.inr rfl,⟨rfl,rfl,.inl rfl,trivial⟩⟩⟩⟩⟩) (λ_=>⟨trivial,rfl,⟨⟨rfl,.inr rfl,trivial⟩,rfl,⟨⟨rfl,.inl rfl,trivial⟩,rfl,trivial⟩⟩⟩) (kW (aEm (aE rfl)) (by rintro _ ⟨w,rfl⟩;exact⟨⟨w,undef⟩,aO [0,1,3] rfl rfl (le_refl _)⟩)),trivial⟩
  · exactλX2=>cP (aL rfl (aL rfl (aL rfl (aR (ae rfl)))))
 ·intro X2;refine to (jT (aE rfl) bWt (zs:=[.j 0,.sl 1 ((([]:List Int)).map aD),.sl 1 ((([]:List Int)).map aD),.lit (.map none)]) rfl rfl rfl rfl (es:=[.j j.Rounds,.sl 1 (Z9 j),.lit (X2 3).v,.lit (.map (some (X2 4).b))]) rfl) ?_;refine bO rfl (lC (v:=.agg [.j j.Rounds,.sl 1 (Z9 j),.lit (X2 3).v,.lit (.map (some (X2 4).b))]) (aE rfl) rfl rfl rfl) ?_;rintro _ ⟨b5,rfl⟩;refine au 4 ?_;refine bO rfl (aEm (aE rfl)) ?_;rintro _ ⟨r6,rfl⟩;refine bO rfl (aEm (aE rfl)) ?_;rintro _ ⟨r7,rfl⟩;refine au 11 ?_;refine yK [6,7,8,28,29] (λ(s8:Int×(List (aB×Int))×(List (aA×aB))×(List Nat)×Nat×(List Nat)×Nat)=>[(30,.i s8.1)]) (λ(s8:Int×(List (aB×Int))×(List (aA×aB))×(List Nat)×Nat×(List Nat)×Nat)=>[.arr (X2 3).v 3 1 (r3.map aD),.map (X2 4).b (([]:List (aA×Int)).map λp:aA×Int=>((λa:aA=>Value.agg ((aC a).map bA).toArray) p.1,(λv:Int=>AV.i v) p.2)) ([]) 0,.box b5 0 [.j j.Rounds,.sl 1 (Z9 j),.lit (X2 3).v,.lit (.map (some (X2 4).b))],.map r6 (s8.2.1.map λp:aB×Int=>((λa:aB=>Value.agg ((aK a).map bA).toArray) p.1,(λv:Int=>AV.i v) p.2)) s8.2.2.2.1 s8.2.2.2.2.1,.map r7 (s8.2.2.1.map λp:aA×aB=>((λa:aA=>Value.agg ((aC a).map bA).toArray) p.1,(λv:aB=>AV.agg (aK v)) p.2)) s8.2.2.2.2.2.1 s8.2.2.2.2.2.2]) (λ(k:Nat) (s8:Int×(List (aB×Int))×(List (aA×aB))×(List Nat)×Nat×(List Nat)×Nat)=>jB Q Z (Z.length:Int) r3 ([]:List (aA×Int)) j k s8.1 s8.2.1 s8.2.2.1) (λ_ h=>h) (0,([]:List (aB×Int)),([]:List (aA×aB)),[],0,[],0) h (aO [1,2,3,4,5] rfl rfl (aL rfl (aR (ae rfl)))) ?_;rintro d9 ⟨O,e,g,G,u,A,s⟩ h;simp only[jB] at h;refine au 5 ?_;refine tip h (λc2 h=>?_) (λc2 h=>?_)
  ·refine au 5 ?_;obtain⟨c,c3,h⟩:=dN h;refine to (six rfl rfl aXa.of (cF aK c3)) (to (aDe (aK c) rfl tH) ?_);refine bO rfl (dG (zs:=[.j 0,.j 0,.j 0,.j 0,.j 0]) (aE rfl) zeroValue95 rfl rfl) ?_;rintro _ ⟨a3,rfl⟩;refine to (sst 5 rfl rfl sizeOf95 (aK c)) (au 8 ?_);refine tip h (λc4 h=>?_) (λc4 h=>?_)
   ·refine bT ?_;refine jX mix 6 [6,7,8,28,29,30] (λK=>[(37,.d (.lit (.map (some r6)))),(40,.i (w64 ((bR c 0 e)+1))),(42,.i (rE c e G u))]) (λK=>[.arr (X2 3).v 3 1 (r3.map aD),.map (X2 4).b (([]:List (aA×Int)).map λp:aA×Int=>((λa:aA=>Value.agg ((aC a).map bA).toArray) p.1,(λv:Int=>AV.i v) p.2)) ([]) 0,.box b5 0 [.j j.Rounds,.sl 1 (Z9 j),.lit (X2 3).v,.lit (.map (some (X2 4).b))],.map r6 ((rD c 0 e).map λp:aB×Int=>((λa:aB=>Value.agg ((aK a).map bA).toArray) p.1,(λv:Int=>AV.i v) p.2)) (mbs c e G u) (mck c e u),.map r7 (g.map λp:aA×aB=>((λa:aA=>Value.agg ((aC a).map bA).toArray) p.1,(λv:aB=>AV.agg (aK v)) p.2)) A s,.box a3 0 (aK c)]) ?_ ?_
    ·refine⟨0,λK=>[(37,0,.d (.lit (.map (some r6)))),(38,1,.agg (aK c)),(39,2,.i (bR c 0 e)),(40,3,.i (w64 ((bR c 0 e)+1))),(41,4,.tup [.i (bR c 0 e),.i (rE c e G u)]),(42,5,.i (rE c e G u))],λK=>[([],.arr (X2 3).v 3 1 (r3.map aD)),([],.map (X2 4).b (([]:List (aA×Int)).map λp:aA×Int=>((λa:aA=>Value.agg ((aC a).map bA).toArray) p.1,(λv:Int=>AV.i v) p.2)) ([]) 0),([],.box b5 0 [.j j.Rounds,.sl 1 (Z9 j),.lit (X2 3).v,.lit (.map (some (X2 4).b))]),([(4,.map r6 ((rD c 0 e).map λp:aB×Int=>((λa:aB=>Value.agg ((aK a).map bA).toArray) p.1,(λv:Int=>AV.i v) p.2)) (mbs c e G u) (mck c e u))],.map r6 (e.map λp:aB×Int=>((λa:aB=>Value.agg ((aK a).map bA).toArray) p.1,(λv:Int=>AV.i v) p.2)) G u),([],.map r7 (g.map λp:aA×aB=>((λa:aA=>Value.agg ((aC a).map bA).toArray) p.1,(λv:aB=>AV.agg (aK v)) p.2)) A s),([],.box a3 0 (aK c))],?_,?_⟩
     · exact xok [(0,5),(0,5),(102,0),(3,0),(102,0),(5,0)] ⟨λ_ _ w _ k=>xp w (ym k (.d (.lit (.map (some r6))))),
 λ_ _ w _ k=>xp w (yla k 5 (aK c) rfl (og k rfl rfl) tH),
 λ_ _ w _ k=>xp w (bBb (av:=(λv:Int=>AV.i v)) (l:=e) (z:=0) (a:=c) (m:=3) (aE rfl) bEe underlying260 zeroValue3 (λ_ _=>.d (.lit _ rfl)) (aU k rfl) (og2 rfl) rfl (aU k rfl) (mF (enc:=aK) c rfl)),
 λ_ _ w _ k=>xp w (yar k rfl rfl rfl),
 λK S hw hi hS=>aHw (X:=K) (p:=3) hS rfl rfl rfl (hw K) rfl rfl rfl (kW (aWw (av:=(λv:Int=>AV.i v)) (l:=e) (z:=0) (a:=c) (m:=3) (aE rfl) bEe underlying260 zeroValue3 (λ_ _=>.d (.lit _ rfl)) (aU hS rfl) (og hS rfl rfl) rfl (aU hS rfl) (mF (enc:=aK) c rfl)) (by rintro _ rfl;exact Ent.refl _)),
 fun _ _ w _ k=>xp w (yex k rfl rfl),trivial⟩
     · exactλK=>cP (aL rfl (aL rfl (aL rfl (aR (ae rfl)))))
    ·intro K;refine to (aNs (kv:=(λa:aB=>Value.agg ((aK a).map bA).toArray)) (av:=(λv:Int=>AV.i v)) (l:=e) (z:=0) (v:=w64 ((bR c 0 e)+1)) (a:=c) (m:=3) rfl rfl rfl rfl rfl) ?_;refine bN ?_;refine cZ ?_;refine .inl ⟨rfl,?_⟩;refine au 4 ?_;exact⟨(w64 (O+1),(eK c (w64 ((bR c 0 e)+1)) e),g,(mbs c e G u),(mck c e u),A,s),h,aO [0,1,2,3,4] rfl rfl (aL rfl (aR (ae rfl)))⟩
   ·refine au 7 ?_;refine to (jT (aE rfl) aRd (zs:=[.j 0,.j 0]) rfl rfl rfl rfl (es:=[.j c.Round,.j c.Place]) rfl) ?_;refine bO rfl (dG (zs:=[.j 0,.j 0]) (aE rfl) zeroValue143 rfl rfl) ?_;rintro _ ⟨c5,rfl⟩;refine to (sst 6 rfl rfl sizeOf143 (aC (aA.mk c.Round c.Place))) (au 5 ?_);refine to (sla 6 (aC (aA.mk c.Round c.Place)) rfl rfl oA) (to (aWv (av:=(λv:aB=>AV.agg (aK v))) (l:=g) (z:=(aB.mk 0 0 0 0 0)) (a:=(aA.mk c.Round c.Place)) (m:=4) (aE rfl) aCu underlying261 zeroValue95 (λ_ _=>.agg (aPh rfl)) rfl rfl rfl rfl (mF (enc:=aC) (aA.mk c.Round c.Place) rfl)) ?_);refine au 3 ?_;refine bO rfl (dG (zs:=[.j 0,.j 0,.j 0,.j 0,.j 0]) (aE rfl) zeroValue95 rfl rfl) ?_;rintro _ ⟨c6,rfl⟩;refine to (sst 7 rfl rfl sizeOf95 (aK (bR (aA.mk c.Round c.Place) (aB.mk 0 0 0 0 0) g))) (au 6 ?_);obtain⟨c7,P,h⟩:=dN h;refine lJ 4 [6,7,8,10,11,28,29,30] 59 c7 ?_ ?_
    ·refine bch P (λT P=>?_) (λT P=>?_)
     ·refine tk T (sla 7 (aK (bR (aA.mk c.Round c.Place) (aB.mk 0 0 0 0 0) g)) rfl rfl tH) (tk T (sla 5 (aK c) rfl rfl tH) (tk T (bLy (a:=(bR (aA.mk c.Round c.Place) (aB.mk 0 0 0 0 0) g)) (b:=c) (aE rfl) rfl rfl rfl rfl Tryz.eqGuardType95 bDo) ?_));refine to (spt (.b (!decide ((bR (aA.mk c.Round c.Place) (aB.mk 0 0 0 0 0) g)=c))) T) ?_;obtain rfl:=sIn P;refine bN (dQ rfl (ae rfl) rfl)
     ·refine au 4 ?_;obtain rfl:=sIn P;refine bN (dQ rfl (ae rfl) rfl)
    ·refine bN ?_;refine tip h (λc8 h=>?_) (λc8 h=>?_)
     ·refine bT (bQ (ta (cQ aS (none:Option aP)) (au 2 ?_)));exact cG ⟨rfl,_,[],[.arr (X2 3).v 3 1 (r3.map aD),.map (X2 4).b (([]:List (aA×Int)).map λp:aA×Int=>((λa:aA=>Value.agg ((aC a).map bA).toArray) p.1,(λv:Int=>AV.i v) p.2)) ([]) 0,.box b5 0 [.j j.Rounds,.sl 1 (Z9 j),.lit (X2 3).v,.lit (.map (some (X2 4).b))],.map r6 (e.map λp:aB×Int=>((λa:aB=>Value.agg ((aK a).map bA).toArray) p.1,(λv:Int=>AV.i v) p.2)) G u,.map r7 (g.map λp:aA×aB=>((λa:aA=>Value.agg ((aC a).map bA).toArray) p.1,(λv:aB=>AV.agg (aK v)) p.2)) A s,.box a3 0 (aK c),.box c5 0 (aC (aA.mk c.Round c.Place)),.box c6 0 (aK (bR (aA.mk c.Round c.Place) (aB.mk 0 0 0 0 0) g))],_,.two (.tmp 4 (v:=cQ aS (none:Option aP)) rfl) (.tmp 5 (v:=.b false) rfl),.refl _,.same _,((none:Option aP),false),h,rfl,rfl⟩
     ·refine au 3 ?_;refine to (sla 6 (aC (aA.mk c.Round c.Place)) rfl rfl oA) (to (sla 5 (aK c) rfl rfl tH) (to (aJp (av:=(λv:aB=>AV.agg (aK v))) (l:=g) (v:=c) (a:=(aA.mk c.Round c.Place)) (m:=4) aCu underlying261 rfl rfl rfl rfl (mF (enc:=aC) (aA.mk c.Round c.Place) rfl) rfl rfl) ?_));refine kK ?_;refine au 4 ?_;exact⟨(w64 (O+1),e,(eK (aA.mk c.Round c.Place) c g),G,u,(mbs (aA.mk c.Round c.Place) g A s),(mck (aA.mk c.Round c.Place) g s)),h,aO [0,1,2,3,4] rfl rfl (aL rfl (aR (ae rfl)))⟩
  ·refine cZ ?_;refine .inl ⟨rfl,?_⟩;simp only[uR] at h;refine au 5 ?_;refine gW (aO [2,0,3,1,4] rfl rfl (le_refl _)) ?_;refine bO rfl (oN (passed:=[.box b5 0 [.j j.Rounds,.sl 1 (Z9 j),.lit (X2 3).v,.lit (.map (some (X2 4).b))],.arr (X2 3).v 3 1 (r3.map aD),.map r6 (e.map λp:aB×Int=>((λa:aB=>Value.agg ((aK a).map bA).toArray) p.1,(λv:Int=>AV.i v) p.2)) G u]) (aE rfl) rfl (.func _ _ call174) rfl rfl (aJd j r3 e h)) ?_;rintro _ ⟨_,_,⟨B,b8,b9,h,rfl,rfl⟩,rfl⟩;refine to (sn rfl) (bN ?_);refine tip h (λc9 h=>?_) (λc9 h=>?_)
   ·refine bT (bQ (ta (cQ aS (none:Option aP)) (au 2 ?_)));exact cG ⟨rfl,_,[],[.box b5 0 [.j j.Rounds,.sl 1 (Z9 j),.lit (X2 3).v,.lit (.map (some (X2 4).b))],.arr (X2 3).v 3 1 (B.2.1.map aD),.map r6 (B.2.2.map λp:aB×Int=>((λa:aB=>Value.agg ((aK a).map bA).toArray) p.1,(λv:Int=>AV.i v) p.2)) b8 b9,.map (X2 4).b (([]:List (aA×Int)).map λp:aA×Int=>((λa:aA=>Value.agg ((aC a).map bA).toArray) p.1,(λv:Int=>AV.i v) p.2)) ([]) 0,.map r7 (g.map λp:aA×aB=>((λa:aA=>Value.agg ((aC a).map bA).toArray) p.1,(λv:aB=>AV.agg (aK v)) p.2)) A s],_,.two (.tmp 4 (v:=cQ aS (none:Option aP)) rfl) (.tmp 5 (v:=.b false) rfl),.refl _,.same _,((none:Option aP),false),h,rfl,rfl⟩
   ·refine au 5 ?_;refine to (jL (aE rfl) rfl) ?_;refine au 2 ?_;refine to (aMw (m:=1) (aE rfl) rfl rfl cR.of) ?_;refine au 3 ?_;refine yK [6,8,71,72] (λ(L:Int×(List (aA×Int))×(List Nat)×Nat)=>[(73,.i L.1)]) (λ(L:Int×(List (aA×Int))×(List Nat)×Nat)=>[.arr (X2 3).v 3 1 (B.2.1.map aD),.map (X2 4).b (L.2.1.map λp:aA×Int=>((λa:aA=>Value.agg ((aC a).map bA).toArray) p.1,(λv:Int=>AV.i v) p.2)) L.2.2.1 L.2.2.2,.box b5 0 [.j j.Rounds,.sl 1 (Z9 j),.lit (X2 3).v,.lit (.map (some (X2 4).b))],.map r7 (g.map λp:aA×aB=>((λa:aA=>Value.agg ((aC a).map bA).toArray) p.1,(λv:aB=>AV.agg (aK v)) p.2)) A s]) (λ(k:Nat) (L:Int×(List (aA×Int))×(List Nat)×Nat)=>jC Q (B.2.1.length:Int) B.2.1 j g k L.1 L.2.1) (λ_ h=>h) (0,([]:List (aA×Int)),[],0) h (aO [1,3,0,4] rfl rfl (aL rfl (aR (ae rfl)))) ?_;rintro e0 ⟨H,F,U,V⟩ h;simp only[jC] at h;refine au 5 ?_;refine tip h (λd0 h=>?_) (λd0 h=>?_)
    ·refine au 6 ?_;obtain⟨e1,b0,h⟩:=dN h;refine to (mK (m:=0) (aE rfl) rfl rfl rfl cR.of (cF aD b0)) ?_;refine to (sQ (aE rfl) rfl (m:=0) rfl (fY aD b0) rfl dI) ?_;refine au 8 ?_;refine tip h (λd1 h=>?_) (λd1 h=>?_)
     ·refine au 3 ?_;refine to (aKq (aE rfl) rfl rfl (.inr (.inr ⟨rfl,rfl⟩))) ?_;obtain⟨d2,d3,h⟩:=dN h;refine gW (aO [2,0,1,3] rfl rfl (le_refl _)) ?_;refine bO rfl (oN (passed:=[.box b5 0 [.j j.Rounds,.sl 1 (Z9 j),.lit (X2 3).v,.lit (.map (some (X2 4).b))],.arr (X2 3).v 3 1 (B.2.1.map aD),.map (X2 4).b (F.map λp:aA×Int=>((λa:aA=>Value.agg ((aC a).map bA).toArray) p.1,(λv:Int=>AV.i v) p.2)) U V]) (aE rfl) rfl (.func _ _ call175) rfl rfl (aCj j B.2.1 F (aSn H 1) 0 d3)) ?_;rintro _ ⟨_,_,⟨c0,c1,rfl,rfl⟩,rfl⟩;refine kK ?_;refine au 4 ?_;exact⟨(w64 (H+1),d2.2,c0,c1),h,aO [1,2,0,3] rfl rfl (aL rfl (aR (ae rfl)))⟩
     ·refine iO ?_;refine au 4 ?_;exact⟨(w64 (H+1),F,U,V),h,aO [0,1,2,3] rfl rfl (aL rfl (aR (ae rfl)))⟩
    ·refine cZ ?_;refine .inl ⟨rfl,?_⟩;simp only[uS] at h;refine au 4 ?_;refine bO rfl (bJc (m:=3) (aE rfl) underlying261 rfl rfl) ?_;rintro _ ⟨a2,d4,rfl⟩;have h:=aPl h d4;refine bN (aKw ?_);refine yK [6,86] (λ(M:(List (aA×Int))×(List Nat)×Nat×(List Nat))=>[]) (λ(M:(List (aA×Int))×(List Nat)×Nat×(List Nat))=>[.arr (X2 3).v 3 1 (B.2.1.map aD),.map (X2 4).b (M.1.map λp:aA×Int=>((λa:aA=>Value.agg ((aC a).map bA).toArray) p.1,(λv:Int=>AV.i v) p.2)) M.2.1 M.2.2.1,.box b5 0 [.j j.Rounds,.sl 1 (Z9 j),.lit (X2 3).v,.lit (.map (some (X2 4).b))],.map r7 (g.map λp:aA×aB=>((λa:aA=>Value.agg ((aC a).map bA).toArray) p.1,(λv:aB=>AV.agg (aK v)) p.2)) A s,.iter a2 r7 s M.2.2.2 s]) (λ(k:Nat) (M:(List (aA×Int))×(List Nat)×Nat×(List Nat))=>lS Q B.2.1 j g k M.1 (pX g A M.2.2.2)) (λ_ h=>h) (F,U,V,[]) h (aO [0,1,2,3,4] rfl rfl (aR (ae rfl))) ?_;rintro e2 ⟨y,W,Y,I⟩ h;simp only[lS] at h;refine bT (bQ ?_);refine bO rfl (bPi (kv:=(λa:aA=>Value.agg ((aC a).map bA).toArray)) (av:=(λv:aB=>AV.agg (aK v))) (l:=g) (mi:=4) (mm:=3) (aE rfl) rfl rfl rfl) ?_;rintro _ (⟨d5,rfl⟩|⟨e3,a4,n,b2,rfl⟩)
     ·have h:=h.1 d5;refine au 3 ?_;refine aDt rfl (λb3=>?_) (λb3=>?_)
      ·exact absurd b3 (by decide)
      ·refine cZ ?_;refine .inl ⟨rfl,?_⟩;simp only[zU] at h;refine au 6 ?_;exact cG ⟨rfl,_,[],[.arr (X2 3).v 3 1 (B.2.1.map aD),.map (X2 4).b (y.map λp:aA×Int=>((λa:aA=>Value.agg ((aC a).map bA).toArray) p.1,(λv:Int=>AV.i v) p.2)) W Y,.box b5 0 [.j j.Rounds,.sl 1 (Z9 j),.lit (X2 3).v,.lit (.map (some (X2 4).b))],.map r7 (g.map λp:aA×aB=>((λa:aA=>Value.agg ((aC a).map bA).toArray) p.1,(λv:aB=>AV.agg (aK v)) p.2)) A s,.iter a2 r7 s I s],_,.two (.tmp 4 (v:=.bp b5 0 0) rfl) (.tmp 5 (v:=.b true) rfl),.refl _,xE (.cons (aDk 2 rfl rfl (dvc (.same _) (dvc (.same _) (dvc (pE 0 rfl (dT (f:=aD) λ_=>rfl)) (dvc (bZs (kv:=(λa:aA=>Value.agg ((aC a).map bA).toArray)) (av:=(λv:Int=>AV.i v)) (l:=y) (enc:=aD) (agg:=false) 1 rfl (λ_ _=>rfl) (λ_=>rfl)) dvn))))) (.cons (.same _) .nil)),((some (aP.mk j B.2.1 y)),true),h,rfl,rfl⟩
     ·have h:=aRv h b2;refine au 3 ?_;refine aDt rfl (λb4=>?_) (λb4=>?_)
      ·refine au 4 ?_;refine to (bJa (kv:=(λa:aA=>Value.agg ((aC a).map bA).toArray)) (av:=(λv:aB=>AV.agg (aK v))) (l:=g) (mi:=4) (mm:=3) (ka:=.agg (aC n.1)) (aE rfl) rfl rfl rfl b2 (λ_ _=>.agg (aPh rfl))) ?_;refine au 2 ?_;refine bO rfl (dG (zs:=[.j 0,.j 0]) (aE rfl) zeroValue143 rfl rfl) ?_;rintro _ ⟨N,rfl⟩;refine bO rfl (dG (zs:=[.j 0,.j 0,.j 0,.j 0,.j 0]) (aE rfl) zeroValue95 rfl rfl) ?_;rintro _ ⟨a5,rfl⟩;refine to (sst 5 rfl rfl sizeOf143 (aC n.1)) (to (sst 6 rfl rfl sizeOf95 (aK n.2)) (bN (bT ?_)));refine fQ mix 6 [6,16,86] [(95,.d (.lit (X2 3).v)),(97,.i n.2.Player)] ?_ ?_
       ·refine⟨[(92,0,.bp b5 0 0),(93,1,.bp b5 0 0),(94,2,.bp b5 0 2),(95,3,.d (.lit (X2 3).v)),(96,4,.bp a5 0 3),(97,5,.i n.2.Player)],?_,?_⟩
        · exact dk [0,1,2,3,0,5] ⟨go (zm (.bp b5 0 0)),
 go λS hS=>jL (aE rfl) (aU hS rfl),
 go (zf rfl uI),
 go (zl 2 rfl rfl rfl rG),
 go (zf rfl aCs),
 go (zl 6 rfl rfl rfl dI),trivial⟩
        · exact cP (aL rfl (aL rfl (aR (ae rfl))))
       ·obtain⟨q,d6,h⟩:=dN h;refine to (sc call117 (yJ _ _ d6) (.cons (.d (pE 0 rfl (dT (f:=aD) λ_=>rfl))) (.cons (.same _) .nil))) (au 3 ?_);obtain⟨a6,E,h⟩:=dN h;refine aUo (a6) (λt=>?_) (λt=>?_)
        ·have h:=bIa t h;refine fQ mix 15 [6,86] [(109,.b a6)] ?_ ?_
         ·refine bch E (λo E=>?_) (λo E=>?_)
          ·obtain rfl:=sIn E;refine⟨[(99,0,.i q),(100,1,.b (decide (q<0))),(101,2,.b (decide (q<0))),(102,3,.tup []),(103,4,.tup []),(104,5,.tup []),(105,6,.tup []),(106,7,.tup []),(107,8,.tup []),(108,9,.b true),(109,10,.b (true)),(110,11,.tup []),(111,12,.tup []),(112,13,.tup []),(113,14,.tup [])],?_,?_⟩
           · exact dk [0,1,2,3,304,3,30506,3,30708,309,10,11,11,11,1114] ⟨go (zm (.i q)),
 go (zcm rfl rfl rfl),
 go (zm (.b (decide (q<0)))),
 gp o,
 gp o,
 gp o,
 gp o,
 gp o,
 gp o,
 go (zpt (.b true) o),
 go (zm (.b (true))),
 gp t,
 gp t,
 gp t,
 gp t,trivial⟩
           · exact cP (aL rfl (aR (ae rfl)))
          ·obtain⟨C,a7,E⟩:=bns E;obtain rfl:=sIn E;refine⟨[(99,0,.i q),(100,1,.b (decide (q<0))),(101,2,.b (decide (q<0))),(102,3,.bp N 0 0),(103,4,.i n.1.round),(104,5,.i q),(105,6,.agg (aC C)),(106,7,.agg (aC n.1)),(107,8,.b (!decide (C=n.1))),(108,9,.b (!decide (C=n.1))),(109,10,.b (!decide (C=n.1))),(110,11,.tup []),(111,12,.tup []),(112,13,.tup []),(113,14,.tup [])],?_,?_⟩
           · exact dk [0,1,2,3,304,3,30506,3,30708,309,10,11,11,11,1114] ⟨go (zm (.i q)),
 go (zcm rfl rfl rfl),
 go (zm (.b (decide (q<0)))),
 gt o (zf rfl aAk),
 gt o (zl 5 rfl rfl rfl dI),
 gt o (zm (.i q)),
 gt o λS hS=>nH (aE rfl) (.func _ _ call56) (ev2 (aU hS rfl) (ev2 (aU hS rfl) evn)) rfl (tN _ _ a7),
 gt o (zla 5 (aC n.1) rfl rfl oA),
 gt o λS hS=>bLy (a:=C) (b:=n.1) (aE rfl) (aU hS rfl) (aU hS rfl) rfl rfl Tryz.eqGuardType143 aQo,
 go (zpf (.b (!decide (C=n.1))) o),
 go (zm (.b (!decide (C=n.1)))),
 gp t,
 gp t,
 gp t,
 gp t,trivial⟩
           · exact cP (aL rfl (aR (ae rfl)))
         ·refine au 4 ?_;refine aDt rfl (λb6=>?_) (λb6=>?_)
          ·refine bT (bQ (ta (cQ aS (none:Option aP)) (au 2 ?_)));exact cG ⟨rfl,_,[],[.arr (X2 3).v 3 1 (B.2.1.map aD),.map (X2 4).b (y.map λp:aA×Int=>((λa:aA=>Value.agg ((aC a).map bA).toArray) p.1,(λv:Int=>AV.i v) p.2)) W Y,.box b5 0 [.j j.Rounds,.sl 1 (Z9 j),.lit (X2 3).v,.lit (.map (some (X2 4).b))],.map r7 (g.map λp:aA×aB=>((λa:aA=>Value.agg ((aC a).map bA).toArray) p.1,(λv:aB=>AV.agg (aK v)) p.2)) A s,.iter a2 r7 s (I++[a4]) s,.box N 0 (aC n.1),.box a5 0 (aK n.2)],_,.two (.tmp 4 (v:=cQ aS (none:Option aP)) rfl) (.tmp 5 (v:=.b false) rfl),.refl _,.same _,((none:Option aP),false),h,rfl,rfl⟩
          ·exact absurd b6 (by decide)
        ·have h:=bHz t h;refine fQ mix 15 [6,86] [(109,.b a6),(110,.bp b5 0 0),(111,.i q),(112,.bp N 0 0),(113,.i n.1.round)] ?_ ?_
         ·refine bch E (λo E=>?_) (λo E=>?_)
          ·obtain rfl:=sIn E;refine⟨[(99,0,.i q),(100,1,.b (decide (q<0))),(101,2,.b (decide (q<0))),(102,3,.tup []),(103,4,.tup []),(104,5,.tup []),(105,6,.tup []),(106,7,.tup []),(107,8,.tup []),(108,9,.b true),(109,10,.b (true)),(110,11,.bp b5 0 0),(111,12,.i q),(112,13,.bp N 0 0),(113,14,.i n.1.round)],?_,?_⟩
           · exact dk [0,1,2,3,304,3,30506,3,30708,309,10,11,11,11,1114] ⟨go (zm (.i q)),
 go (zcm rfl rfl rfl),
 go (zm (.b (decide (q<0)))),
 gp o,
 gp o,
 gp o,
 gp o,
 gp o,
 gp o,
 go (zpt (.b true) o),
 go (zm (.b (true))),
 gt t (zm (.bp b5 0 0)),
 gt t (zm (.i q)),
 gt t (zf rfl aAk),
 gt t (zl 5 rfl rfl rfl dI),trivial⟩
           · exact cP (aL rfl (aL rfl (aL rfl (aL rfl (aL rfl (aR (ae rfl)))))))
          ·obtain⟨C,a7,E⟩:=bns E;obtain rfl:=sIn E;refine⟨[(99,0,.i q),(100,1,.b (decide (q<0))),(101,2,.b (decide (q<0))),(102,3,.bp N 0 0),(103,4,.i n.1.round),(104,5,.i q),(105,6,.agg (aC C)),(106,7,.agg (aC n.1)),(107,8,.b (!decide (C=n.1))),(108,9,.b (!decide (C=n.1))),(109,10,.b (!decide (C=n.1))),(110,11,.bp b5 0 0),(111,12,.i q),(112,13,.bp N 0 0),(113,14,.i n.1.round)],?_,?_⟩
           · exact dk [0,1,2,3,304,3,30506,3,30708,309,10,11,11,11,1114] ⟨go (zm (.i q)),
 go (zcm rfl rfl rfl),
 go (zm (.b (decide (q<0)))),
 gt o (zf rfl aAk),
 gt o (zl 5 rfl rfl rfl dI),
 gt o (zm (.i q)),
 gt o λS hS=>nH (aE rfl) (.func _ _ call56) (ev2 (aU hS rfl) (ev2 (aU hS rfl) evn)) rfl (tN _ _ a7),
 gt o (zla 5 (aC n.1) rfl rfl oA),
 gt o λS hS=>bLy (a:=C) (b:=n.1) (aE rfl) (aU hS rfl) (aU hS rfl) rfl rfl Tryz.eqGuardType143 aQo,
 go (zpf (.b (!decide (C=n.1))) o),
 go (zm (.b (!decide (C=n.1)))),
 gt t (zm (.bp b5 0 0)),
 gt t (zm (.i q)),
 gt t (zf rfl aAk),
 gt t (zl 5 rfl rfl rfl dI),trivial⟩
           · exact cP (aL rfl (aL rfl (aL rfl (aL rfl (aL rfl (aR (ae rfl)))))))
         ·obtain⟨b7,d7,h⟩:=dN h;refine gW (aO [2,0,1,3,4,5,6] rfl rfl (le_refl _)) ?_;refine aZb rfl rfl (aE rfl) rfl t (oN (passed:=[.box b5 0 [.j j.Rounds,.sl 1 (Z9 j),.lit (X2 3).v,.lit (.map (some (X2 4).b))],.arr (X2 3).v 3 1 (B.2.1.map aD),.map (X2 4).b (y.map λp:aA×Int=>((λa:aA=>Value.agg ((aC a).map bA).toArray) p.1,(λv:Int=>AV.i v) p.2)) W Y]) (aE rfl) rfl (.func _ _ call175) rfl rfl (aCj j B.2.1 y q n.1.round d7)) ?_;rintro _ ⟨_,_,⟨a8,a9,rfl,rfl⟩,rfl⟩;refine au 3 ?_;refine tip h (λd8 h=>?_) (λd8 h=>?_)
          ·refine bT (bQ (ta (cQ aS (none:Option aP)) (au 2 ?_)));exact cG ⟨rfl,_,[],[.box b5 0 [.j j.Rounds,.sl 1 (Z9 j),.lit (X2 3).v,.lit (.map (some (X2 4).b))],.arr (X2 3).v 3 1 (B.2.1.map aD),.map (X2 4).b (b7.2.map λp:aA×Int=>((λa:aA=>Value.agg ((aC a).map bA).toArray) p.1,(λv:Int=>AV.i v) p.2)) a8 a9,.map r7 (g.map λp:aA×aB=>((λa:aA=>Value.agg ((aC a).map bA).toArray) p.1,(λv:aB=>AV.agg (aK v)) p.2)) A s,.iter a2 r7 s (I++[a4]) s,.box N 0 (aC n.1),.box a5 0 (aK n.2)],_,.two (.tmp 4 (v:=cQ aS (none:Option aP)) rfl) (.tmp 5 (v:=.b false) rfl),.refl _,.same _,((none:Option aP),false),h,rfl,rfl⟩
          ·refine iO ?_;exact⟨(b7.2,a8,a9,(I++[a4])),h,aO [1,2,0,3,4] rfl rfl (aR (ae rfl))⟩
      ·exact absurd b4 (by decide)

theorem tO(a:aF)(e:List aB){Q:((Option aP)×Int)->Prop}(h:kN a e Q):dX Tryz.prog 53 (Z17 a e) [] (λr' o'=>∃(r:(Option aP)×Int),Q r/\r'=.tup [cQ aS r.1,.i r.2]/\o'=[]):=by
 unfold kN at h;refine kF func53 rfl (rs:=[.tmp 4,.tmp 5]) results53 ntmps53 (Nat.le_of_ble_eq_true rfl) ?_;refine bT (bQ ?_);refine bO rfl (lC (v:=.agg (aV a)) (aE rfl) rfl rfl rfl) ?_;rintro _ ⟨b1,rfl⟩;refine ta (cQ aS (none:Option aP)) (au 5 ?_);refine to (sla 0 (aV a) rfl rfl tG) ?_;obtain⟨r2,h3,h⟩:=dN h;refine to (scr call111 (aSu _ h3)) (to (sn rfl) (bN ?_));refine tip h (λc4 h=>?_) (λc4 h=>?_)
 ·refine bT (bQ (ta (cQ aS (none:Option aP)) (au 2 ?_)));exact cG ⟨rfl,_,[],[.box b1 0 (aV a)],_,.two (.tmp 4 (v:=cQ aS (none:Option aP)) rfl) (.tmp 5 (v:=.i 70) rfl),.refl _,.same _,((none:Option aP),70),h,rfl,rfl⟩
 ·refine au 8 ?_;obtain⟨b5,h6,h⟩:=dN h;refine lJ 4 [1,2] 18 b5 ?_ ?_
  ·refine bch h6 (λc h6=>?_) (λc h6=>?_)
   ·refine au 4 ?_;obtain rfl:=sIn h6;refine bN (dQ rfl (ae rfl) rfl)
   ·refine tk c (sm (.d (Z7 e))) (tk c (aQa (aE rfl) rfl rfl) ?_);obtain⟨f,g,h6⟩:=bns h6;refine tk c (sc call112 (aCb _ _ 113 [.cp [.j a.Rounds,.sl 1 (Z9 a)]] call113 (λ_ _ h6=>aSv _ _ h6) g) (.cons (.same _) (.cons (aQm (.cons (aDk 0 rfl rfl (dvc (.same _) (dvc (.same _) dvn))) .nil)) .nil))) (to (spf (.b f) c) ?_);obtain rfl:=sIn h6;refine bN (dQ rfl (ae rfl) rfl)
  ·refine bN ?_;refine tip h (λc7 h=>?_) (λc7 h=>?_)
   ·refine bT (bQ (ta (cQ aS (none:Option aP)) (au 2 ?_)));exact cG ⟨rfl,_,[],[.box b1 0 (aV a)],_,.two (.tmp 4 (v:=cQ aS (none:Option aP)) rfl) (.tmp 5 (v:=.i 71) rfl),.refl _,.same _,((none:Option aP),71),h,rfl,rfl⟩
   ·refine au 3 ?_;refine to (sla 0 (aV a) rfl rfl tG) (tm (.d (Z7 e)) ?_);refine bO rfl (vV (aE rfl) (.func _ _ call115) rfl rfl (aUu _ _ h)) ?_;rintro _ ⟨_,_,⟨r8,h,rfl,rfl⟩,rfl⟩;refine au 3 ?_;refine ta (cQ aS r8.1) (au 8 ?_);refine tip h (λc9 h=>?_) (λc9 h=>?_)
    ·refine bT (bQ (ta (cQ aS (none:Option aP)) (au 2 ?_)));exact cG ⟨rfl,_,[],[.box b1 0 (aV a)],_,.two (.tmp 4 (v:=cQ aS (none:Option aP)) rfl) (.tmp 5 (v:=.i 72) rfl),.refl _,.same _,((none:Option aP),72),h,rfl,rfl⟩
    ·refine au 3 ?_;refine tm (cQ aS r8.1) (ta (cQ aS r8.1) (au 2 ?_));exact cG ⟨rfl,_,[],[.box b1 0 (aV a)],_,.two (.tmp 4 (v:=cQ aS r8.1) rfl) (.tmp 5 (v:=.i 0) rfl),.refl _,.same _,(r8.1,0),h,rfl,rfl⟩

theorem aXp(b:aF)(c:List aB){Q:(Int×Int)->Prop}(h:xC b c Q):dX Tryz.prog 30 (Z17 b c) [] (λr' o'=>∃(r:Int×Int),Q r/\r'=.tup [.i r.1,.i r.2]/\o'=[]):=by
 unfold xC at h;refine kF func30 rfl (rs:=[.tmp 4,.tmp 5]) results30 ntmps30 (Nat.le_of_ble_eq_true rfl) ?_;refine bT (bQ ?_);refine bO rfl (lC (v:=.agg (aV b)) (aE rfl) rfl rfl rfl) ?_;rintro _ ⟨b1,rfl⟩;refine au 5 ?_;refine to (sla 0 (aV b) rfl rfl tG) (tm (.d (Z7 c)) ?_);refine bO rfl (vV (aE rfl) (.func _ _ call53) rfl rfl (tO _ _ h)) ?_;rintro _ ⟨_,_,⟨r2,h,rfl,rfl⟩,rfl⟩;refine au 3 ?_;refine ta (cQ aS r2.1) (au 8 ?_);refine tip h (λc3 h=>?_) (λc3 h=>?_)
 ·refine au 6 ?_;exact cG ⟨rfl,_,[],[.box b1 0 (aV b)],_,.two (.tmp 4 (v:=.i 0) rfl) (.tmp 5 (v:=.i r2.2) rfl),.refl _,.same _,(0,r2.2),h,rfl,rfl⟩
 ·refine sD (bT ?_);obtain⟨x4,h5,h⟩:=dN h;obtain⟨x6,h7,h⟩:=dN h;refine fQ mix 12 [] [(23,.i (w64 ((x4.Tree.Slots.length:Int)-1))),(28,.i ((((x6.won.map λp:aA×Int=>((λa:aA=>Value.agg ((aC a).map bA).toArray) p.1,aD p.2))).length:Int)))] ?_ ?_
  ·refine⟨[(17,0,cQ aS r2.1),(18,1,.cp [.j x4.Tree.Rounds,.sl 1 (x4.Tree.Slots.map aD),.sl 1 (x4.players.map aD),.mp false (x4.won.map λp:aA×Int=>((λa:aA=>Value.agg ((aC a).map bA).toArray) p.1,aD p.2))]),(19,2,.cp [.j x4.Tree.Rounds,.sl 1 (x4.Tree.Slots.map aD)]),(20,3,.cp [.sl 1 (x4.Tree.Slots.map aD)]),(21,4,.d (.sl 1 (x4.Tree.Slots.map aD))),(22,5,.i (x4.Tree.Slots.length:Int)),(23,6,.i (w64 ((x4.Tree.Slots.length:Int)-1))),(24,7,cQ aS r2.1),(25,8,.cp [.j x6.Tree.Rounds,.sl 1 (x6.Tree.Slots.map aD),.sl 1 (x6.players.map aD),.mp false (x6.won.map λp:aA×Int=>((λa:aA=>Value.agg ((aC a).map bA).toArray) p.1,aD p.2))]),(26,9,.cp [.mp false (x6.won.map λp:aA×Int=>((λa:aA=>Value.agg ((aC a).map bA).toArray) p.1,aD p.2))]),(27,10,.d (.mp false (x6.won.map λp:aA×Int=>((λa:aA=>Value.agg ((aC a).map bA).toArray) p.1,aD p.2)))),(28,11,.i ((((x6.won.map λp:aA×Int=>((λa:aA=>Value.agg ((aC a).map bA).toArray) p.1,aD p.2))).length:Int)))],?_,?_⟩
   · exact dk [0,1,2,3,4,5,6,0,8,9,10,11] ⟨go (zm (cQ aS r2.1)),
 go λS hS=>zN (enc:=aS) (aE rfl) (aU hS rfl) h5,
 go (zfc [.j x4.Tree.Rounds,.sl 1 (x4.Tree.Slots.map aD)] rfl xU),
 go (zfc [.sl 1 (x4.Tree.Slots.map aD)] rfl aGs),
 go (zlc rfl rG),
 go (zle rfl cR.of),
 go (zar rfl rfl rfl),
 go (zm (cQ aS r2.1)),
 go λS hS=>zN (enc:=aS) (aE rfl) (aU hS rfl) h7,
 go (zfc [.mp false (x6.won.map λp:aA×Int=>((λa:aA=>Value.agg ((aC a).map bA).toArray) p.1,aD p.2))] rfl aAj),
 go (zlc rfl aGc),
 go λS hS=>bHq (aE rfl) underlying139 (aU hS rfl) rfl,trivial⟩
   · exact cP (aL rfl (aL rfl (aR trivial)))
  ·refine au 4 ?_;exact cG ⟨rfl,_,[],[.box b1 0 (aV b)],_,.two (.tmp 4 (v:=.i ((w64 ((w64 ((x4.Tree.Slots.length:Int)-1))-(((x6.won.map λp:aA×Int=>((λa:aA=>Value.agg ((aC a).map bA).toArray) p.1,aD p.2))).length:Int))))) rfl) (.tmp 5 (v:=.i 0) rfl),.refl _,.same _,(w64 ((w64 ((x4.Tree.Slots.length:Int)-1))-(((x6.won.map λp:aA×Int=>((λa:aA=>Value.agg ((aC a).map bA).toArray) p.1,aD p.2))).length:Int)),0),h,rfl,rfl⟩

theorem aLm{r:aI×(List aG)}(h:oX=some r):Fn Tryz.prog 49 [] (.tup [.agg (bJ r.1),.d (.sl 3 (r.2.map aM))]):=by
 unfold oX at h;refine fnx xT {} [.cell 0 51,.tmp 1] func49 results49 ntmps49 ?_;cases h;exact⟨rfl,_,_,rfl,rfl,rfl,rfl,rfl⟩

theorem jQ(d:Int)(c:Int)(a:Int){r:Bool}(h:fS d c a=some r):Fn Tryz.prog 120 [.i d,.i c,.i a] (.b r):=by
 unfold fS at h;refine fnx xT {} [.tmp 6] func120 results120 ntmps120 ?_;refine jg h (λx h=>?_) λb1 h=>?_
 ·refine br h (λh=>?_) λh=>?_
  ·exact jt h
  ·exact jt h
 ·cases h;exact⟨rfl,rfl,rfl⟩

theorem aEp(e:List aX)(f:aX->Option Bool){r:Int}(a:Nat)(c:List AV)(j:∀args w,(callFunc a args).run Tryz.prog w=.ok (.enter a args) w)(l:∀(x0:aX) r,f x0=some r->Fn Tryz.prog a ([.agg (bX x0)]++c) (.b r))(h:kH e f=some r):Fn Tryz.prog 180 [.d (.sl 2 (e.map bX)),.fn a c] (.i r):=by
 unfold kH at h;refine oT [.tmp 4] func180 results180 ntmps180 ?_;refine au 12 ?_;refine eV (S:=Int) [0,1,7] (λs1=>[(8,.i s1)]) (λs1=>[]) (λk s1=>eU e f (e.length:Int) k s1) (λ_=>rfl) (0) h (aO [] rfl rfl (aL rfl (aR (ae rfl)))) ?_;rintro k2 g h;simp only[eU] at h;refine au 5 ?_;refine tih h (λc3 h=>?_) (λc3 h=>?_)
 ·refine au 10 ?_;refine tm (.fn a c) (au 2 ?_);obtain⟨x4,h5,h⟩:=bns h;refine to (six rfl rfl aWz.of (cF bX h5)) (to (aDe (bX x4) rfl aJu) ?_);obtain⟨r6,h7,h⟩:=bns h;refine to (fZ (aE rfl) (.clo _ _ _ _ j rfl) (aLv rfl) rfl (BVs.refl _ _) (l _ _ h7) rfl) ?_;refine bN ?_;refine tih h (λc8 h=>?_) (λc8 h=>?_)
  ·refine au 5 ?_;obtain rfl:=sIn h;exact rt
  ·refine iO ?_;refine au 4 ?_;exact⟨(w64 (g+1)),h,aO [] rfl rfl (aL rfl (aR (ae rfl)))⟩
 ·refine cZ ?_;refine .inl ⟨rfl,?_⟩;simp only[oP] at h;refine au 4 ?_;obtain rfl:=sIn h;exact rt

theorem aCc(g:List aX)(i:aX->Option Bool){r:Bool}(a:Nat)(c:List AV)(e:∀args w,(callFunc a args).run Tryz.prog w=.ok (.enter a args) w)(f:∀(x0:aX) r,i x0=some r->Fn Tryz.prog a ([.agg (bX x0)]++c) (.b r))(h:iN g i=some r):Fn Tryz.prog 125 [.d (.sl 2 (g.map bX)),.fn a c] (.b r):=by
 unfold iN at h;refine oT [.tmp 4] func125 results125 ntmps125 ?_;refine au 7 ?_;refine tm (.fn a c) ?_;obtain⟨r1,h2,h⟩:=bns h;refine to (scr call180 (aEp _ _ a c e f h2)) (au 3 ?_);obtain rfl:=sIn h;exact rt

theorem aNp(d:aX)(c:Int)(a:Int){r:Bool}(h:tC d c a=some r):Fn Tryz.prog 119 [.agg (bX d),.i c,.i a] (.b r):=by
 unfold tC at h;refine fnx xT {} [.tmp 6] func119 results119 ntmps119 ?_;refine jg h (λx h=>?_) λb2 h=>?_
 ·refine br h (λh=>?_) λh=>?_
  ·refine cl call120 (λ_=>jQ _ _ _) h λr4 h=>?_;exact jt h
  ·exact jt h
 ·refine jg h (λx h=>?_) λb6 h=>?_
  ·refine br h (λh=>?_) λh=>?_
   ·refine cl call120 (λ_=>jQ _ _ _) h λr8 h=>?_;exact jt h
   ·exact jt h
  ·cases h;exact⟨rfl,rfl,rfl⟩

theorem aYo(a:aX){r:Bool}(h:yD a=some r):Fn Tryz.prog 126 [.agg (bX a)] (.b r):=by
 unfold yD at h;refine fnx xT {} [.tmp 2] func126 results126 ntmps126 ?_;refine cl call119 (λ_=>aNp _ _ _) h λr2 h=>?_;cases h;exact⟨rfl,rfl,rfl⟩

theorem aKn(a:aX)(c:Int){r:Bool}(h:pK a c=some r):Fn Tryz.prog 60 [.agg (bX a),.i c] (.b r):=by
 unfold pK at h;refine fnx xT {} [.tmp 4] func60 results60 ntmps60 ?_;refine cl call119 (λ_=>aNp _ _ _) h λr2 h=>?_;refine jg h (λx h=>?_) λb4 h=>?_
 ·refine br h (λh=>?_) λh=>?_
  ·refine cl call120 (λ_=>jQ _ _ _) h λr6 h=>?_;exact jt h
  ·exact jt h
 ·cases h;exact⟨rfl,rfl,rfl⟩

theorem aKk(e:List Int)(c:Int){r:Bool}(h:uC e c=some r):Fn Tryz.prog 127 [.d (Z15 e),.i c] (.b r):=by
 unfold uC at h;refine fnx xT {} [.tmp 4] func127 results127 ntmps127 ?_;refine ol ?_;refine xlp [0,1,7,8] [] (λ(a:Int)=>([(9,.i a)],[])) (λk (a:Int)=>mZ e c e (e.length:Int) k a) (0) h (lev []) ?_;rintro k2 a h;simp only[mZ] at h;refine br h (λh=>?_) λh=>?_
 ·refine oi h λx3 h=>?_;refine cl call120 (λ_=>jQ _ _ _) h λr5 h=>?_;refine jg h (λx h=>?_) λb7 h=>?_
  ·refine br h (λh=>?_) λh=>?_
   ·exact jt h
   ·refine jg h (λx h=>?_) λb9 h=>?_
    ·refine br h (λh=>?_) λh=>?_
     ·refine oi h λf h=>?_;exact jt h
     ·exact jt h
    ·exact jt h
  ·refine br h (λh=>?_) λh=>?_
   ·cases h;exact⟨rfl,rfl,rfl⟩
   ·exact⟨(w64 (a+1)),h,lev []⟩
 ·simp only[aBp] at h;cases h;exact⟨rfl,rfl,rfl⟩

theorem aHh(c:aI){r:Int}(h:sO c=some r):Fn Tryz.prog 67 [.agg (bJ c)] (.i r):=by
 unfold sO at h;refine fnx xT {} [.tmp 2] func67 results67 ntmps67 ?_;refine ol ?_;refine cl call120 (λ_=>jQ _ _ _) h λr2 h=>?_;refine jg h (λx h=>?_) λb4 h=>?_
 ·refine br h (λh=>?_) λh=>?_
  ·exact jt h
  ·refine cl call120 (λ_=>jQ _ _ _) h λr6 h=>?_;exact jt h
 ·refine jg h (λx h=>?_) λb8 h=>?_
  ·refine br h (λh=>?_) λh=>?_
   ·exact jt h
   ·refine ol ?_;exact jt h
  ·refine br h (λh=>?_) λh=>?_
   ·cases h;exact⟨rfl,rfl,rfl⟩
   ·refine ol ?_;refine xlp [1,25,26] [1] (λ(a:Int)=>([(27,.i a)],[])) (λk (a:Int)=>nK c.Days (c.Days.length:Int) c k a) (0) h (lev []) ?_;rintro d a h;simp only[nK] at h;refine br h (λh=>?_) λh=>?_
    ·refine oi h λe h=>?_;refine ol ?_;refine cl call120 (λ_=>jQ _ _ _) h λf h=>?_;refine jg h (λx h=>?_) λg h=>?_
     ·refine br h (λh=>?_) λh=>?_
      ·exact jt h
      ·refine ol ?_;refine oi h λj h=>?_;refine ol ?_;exact jt h
     ·refine br h (λh=>?_) λh=>?_
      ·cases h;exact⟨rfl,rfl,rfl⟩
      ·refine cl call125 (λ_=>aCc _ _ 126 [] call126 (λ_ _ h=>aYo _ h)) h λl h=>?_;refine br h (λh=>?_) λh=>?_
       ·cases h;exact⟨rfl,rfl,rfl⟩
       ·exact⟨(w64 (a+1)),h,lev []⟩
    ·simp only[vO] at h;refine ol ?_;refine xlp [1,49,50] [1] (λ(b:Int)=>([(51,.i b)],[])) (λk (b:Int)=>qD c.Jobs (c.Jobs.length:Int) c k b) (0) h (lev []) ?_;rintro m b h;simp only[qD] at h;refine br h (λh=>?_) λh=>?_
     ·refine oi h λn h=>?_;refine cl call60 (λ_=>aKn _ _) h λo h=>?_;refine jg h (λx h=>?_) λp h=>?_
      ·refine br h (λh=>?_) λh=>?_
       ·exact jt h
       ·refine cl call120 (λ_=>jQ _ _ _) h λq h=>?_;exact jt h
      ·refine jg h (λx h=>?_) λs h=>?_
       ·refine br h (λh=>?_) λh=>?_
        ·exact jt h
        ·refine cl call127 (λ_=>aKk _ _) h λt h=>?_;exact jt h
       ·refine jg h (λx h=>?_) λu h=>?_
        ·refine br h (λh=>?_) λh=>?_
         ·exact jt h
         ·refine ol ?_;refine cl call127 (λ_=>aKk _ _) h λv h=>?_;exact jt h
        ·refine jg h (λx h=>?_) λw h=>?_
         ·refine br h (λh=>?_) λh=>?_
          ·exact jt h
          ·refine cl call91 (λ_=>dK _ _) h λy h=>?_;exact jt h
         ·refine br h (λh=>?_) λh=>?_
          ·cases h;exact⟨rfl,rfl,rfl⟩
          ·exact⟨(w64 (b+1)),h,lev []⟩
     ·simp only[aEv] at h;cases h;exact⟨rfl,rfl,rfl⟩

theorem aTt(a:Int)(c:List Int){r:Bool}(h:uD a c=some r):Fn Tryz.prog 131 [.i a,.cp (Z19 c)] (.b r):=by
 unfold uD at h;refine fnx xT {} [.tmp 3] func131 results131 ntmps131 ?_;refine cl call91 (λ_=>dK _ _) h λr1 h=>?_;cases h;exact⟨rfl,rfl,rfl⟩

theorem aKl(f:aI)(c:List aG){r:Bool}(h:rI f c=some r):Fn Tryz.prog 70 [.agg (bJ f),.d (Z27 c)] (.b r):=by
 unfold rI at h;refine fnx xT {ow:=[30005,100005]} [.tmp 4] func70 results70 ntmps70 ?_;refine ol ?_;refine xlp [1,2,5,10,11] [2] (λ((e,a):Int×Z14)=>([(12,.i e)],[(1005,.arr 3 1 (a.map aD)),(5,.box [.hv 0 1005 0])])) (λk ((e,a):Int×Z14)=>nA c c (c.length:Int) f k e a) (0,([]:List Int)) h (lev []) ?_;rintro k4 ⟨e,a⟩ h;simp only[nA] at h;refine br h (λh=>?_) λh=>?_
 ·refine oi h λx5 h=>?_;refine⟨by kernel_rfl,?_⟩;refine ol ?_;refine cl call120 (λ_=>jQ _ _ _) h λr8 h=>?_;refine jo h (λx h=>?_) λj h=>?_
  ·refine br h (λh=>?_) λh=>?_
   ·exact⟨by kernel_rfl,jt h⟩
   ·refine cl call91 (λ_=>dK _ _) h λl h=>?_;exact⟨by kernel_rfl,jt h⟩
  ·refine jo h (λx h=>?_) λm h=>?_
   ·refine br h (λh=>?_) λh=>?_
    ·exact⟨by kernel_rfl,jt h⟩
    ·refine ol ?_;refine cl call120 (λ_=>jQ _ _ _) h λn h=>?_;exact⟨by kernel_rfl,jt h⟩
   ·refine jo h (λx h=>?_) λo h=>?_
    ·refine br h (λh=>?_) λh=>?_
     ·exact⟨by kernel_rfl,jt h⟩
     ·refine oi h λp h=>?_;refine ol ?_;refine cl call120 (λ_=>jQ _ _ _) h λq h=>?_;exact⟨by kernel_rfl,jt h⟩
    ·refine⟨by kernel_rfl,?_⟩;refine br h (λh=>?_) λh=>?_
     ·cases h;exact⟨rfl,rfl,rfl⟩
     ·refine oi h λs h=>?_;refine cl call130 (λ_=>wV _ _ 131 [.cp [.sl 1 (a.map aD)]] call131 (λ_ _ h=>aTt _ _ h)) h λt h=>?_;refine⟨by kernel_rfl,?_⟩;refine jo h (λx h=>?_) λu h=>?_
      ·refine br h (λh=>?_) λh=>?_
       ·exact⟨by kernel_rfl,jt h⟩
       ·exact⟨by kernel_rfl,jt h⟩
      ·refine jo h (λx h=>?_) λv h=>?_
       ·refine br h (λh=>?_) λh=>?_
        ·exact⟨by kernel_rfl,jt h⟩
        ·refine jo h (λx h=>?_) λw h=>?_
         ·refine br h (λh=>?_) λh=>?_
          ·refine oi h λy h=>?_;exact⟨by kernel_rfl,jt h⟩
          ·exact⟨by kernel_rfl,jt h⟩
         ·exact⟨by kernel_rfl,jt h⟩
       ·refine⟨by kernel_rfl,?_⟩;refine br h (λh=>?_) λh=>?_
        ·cases h;exact⟨rfl,rfl,rfl⟩
        ·refine oap h λg h=>?_;exact⟨(w64 (e+1),g),h,lev [(1005,90)]⟩
 ·simp only[aBq] at h;refine ol ?_;refine ol ?_;cases h;exact⟨rfl,rfl,rfl⟩

theorem aDn(f:aI)(c:Int){r:bW}(h:sP f c=some r):Fn Tryz.prog 132 [.agg (bJ f),.i c] (.agg (bK r)):=by
 unfold sP at h;refine vI func132 rfl (rs:=[.cell 4 215]) results132 ntmps132 (Nat.le_of_ble_eq_true rfl) ?_;refine bT (bQ ?_);refine bO rfl (lC (v:=.agg (bJ f)) (aE rfl) rfl rfl rfl) ?_;rintro _ ⟨b1,rfl⟩;refine bO rfl (dG (zs:=[.j 0,.j 0,.j 0,.j 0,.j 0,.j 0,.j 0,.j 0,.j 0,.j 0]) (aE rfl) zeroValue215 rfl rfl) ?_;rintro _ ⟨b2,rfl⟩;refine au 4 ?_;refine to (jT (aE rfl) bWu (zs:=[.j 0,.j 0,.j 0,.j 0,.j 0,.j 0,.j 0,.j 0,.j 0,.j 0]) rfl rfl rfl rfl (es:=[.j c,.j 0,.j 0,.j 0,.j 0,.j 0,.j 0,.j 0,.j 0,.j 0]) rfl) ?_;refine bO rfl (dG (zs:=[.j 0,.j 0,.j 0,.j 0,.j 0,.j 0,.j 0,.j 0,.j 0,.j 0]) (aE rfl) zeroValue215 rfl rfl) ?_;rintro _ ⟨b3,rfl⟩;refine to (sst 2 rfl rfl sizeOf215 (bK (bW.mk c (A3.mk 0 0 0) (A6.mk 0 0 0 0 0 0)))) (au 7 ?_);obtain⟨x4,h5,h⟩:=bns h;refine to (six rfl rfl bMf.of (cF bC h5)) (au 5 ?_);refine eV (S:=Int×bW) [4,5,14,15] (λs6=>[(16,.i s6.1)]) (λs6=>[.box b2 0 (bK Z42),.box b3 0 (bK s6.2)]) (λk s6=>pL x4 (x4.length:Int) Z42 k s6.1 s6.2) (λ_=>rfl) (0,(bW.mk c (A3.mk 0 0 0) (A6.mk 0 0 0 0 0 0))) h (aO [1,2] rfl rfl (aL rfl (aR (ae rfl)))) ?_;rintro k7 ⟨d,b⟩ h;simp only[pL] at h;refine au 5 ?_;refine tih h (λc8 h=>?_) (λc8 h=>?_)
 ·refine au 6 ?_;obtain⟨x9,g,h⟩:=bns h;refine to (six rfl rfl aWz.of (cF bX g)) (to (aDe (bX x9) rfl aJu) ?_);refine bO rfl (dG (zs:=[.j 0,.j 0]) (aE rfl) zeroValue63 rfl rfl) ?_;rintro _ ⟨j,rfl⟩;refine ta (.i d) (to (sst 2 rfl rfl sizeOf63 (bX x9)) (au 6 ?_));obtain⟨l,e,h⟩:=bns h;refine to (aDq (aE rfl) rfl rfl aXn (lH e).1 (lH e).2) ?_;refine to (vG (i:=1) (ds:=(bK b)) rfl rfl rfl rfl rfl sizeOf3 rfl (aE rfl) (bDz e rfl) (ds':=(bK (bW.mk b.number (b.free.set d x9.Low) b.ends))) (A3.updI (a:=b.free) e (λqq=>(bK (bW.mk b.number qq b.ends))) rfl rfl rfl)) ?_;refine kK ?_;refine au 4 ?_;exact⟨(w64 (d+1),(bW.mk b.number (b.free.set d x9.Low) b.ends)),h,aO [0,1] rfl rfl (aL rfl (aR (ae rfl)))⟩
 ·refine cZ ?_;refine .inl ⟨rfl,?_⟩;simp only[aHk] at h;refine bT (bQ (to (sla 1 (bK b) rfl rfl aJt) (to (sst 0 rfl rfl sizeOf215 (bK b)) (bN ?_))));obtain rfl:=sIn h;exact cG ⟨rfl,_,[.box b2 0 (bK b),.box b3 0 (bK b)],.one (.cell 4 215 rfl (i:=0) rfl aJt (es:=(bK b)) rfl rfl),.refl _,.same _⟩

theorem aKp(a:Int)(c:Int)(d:aI){r:Bool}(h:yF a c d=some r):Fn Tryz.prog 224 [.i a,.i c,.cp (bJ d)] (.b r):=by
 unfold yF at h;refine fnx xT {} [.tmp 5] func224 results224 ntmps224 ?_;refine oi h λx1 h=>?_;refine cl call91 (λ_=>dK _ _) h λr4 h=>?_;refine jg h (λx h=>?_) λb6 h=>?_
 ·refine br h (λh=>?_) λh=>?_
  ·exact jt h
  ·refine cl call91 (λ_=>dK _ _) h λr8 h=>?_;exact jt h
 ·cases h;exact⟨rfl,rfl,rfl⟩

theorem bFi(a:aI)(c:Int)(d:Int){r:Bool}(h:aBu a c d=some r):Fn Tryz.prog 183 [.agg (bJ a),.i c,.i d] (.b r):=by
 unfold aBu at h;refine fnx xT {} [.tmp 6] func183 results183 ntmps183 ?_;refine cl call224 (λ_=>aKp _ _ _) h λr2 h=>?_;refine jg h (λx h=>?_) λb4 h=>?_
 ·refine br h (λh=>?_) λh=>?_
  ·exact jt h
  ·refine cl call224 (λ_=>aKp _ _ _) h λr6 h=>?_;exact jt h
 ·cases h;exact⟨rfl,rfl,rfl⟩

theorem wU(j:bW)(n:aI)(m:aG)(e:Int){r:Int×Int×bW}{f g:Nat}{d_0_post:List D}(h:lA j n m e=some r):dX Tryz.prog 133 [.bp f g 0,.agg (bJ n),.agg (aM m),.i e] [.box f g ((bK j)++d_0_post)] (λr' o'=>r'=.tup [.i r.1,.i r.2.1]/\o'=[.box f g ((bK r.2.2)++d_0_post)]):=by
 unfold lA at h;refine bMu func133 rfl (rs:=[.tmp 8,.tmp 9]) results133 ntmps133 (Nat.le_of_ble_eq_true rfl) ?_;refine bT (bQ ?_);refine bO rfl (lC (v:=.agg (bJ n)) (aE rfl) rfl rfl rfl) ?_;rintro _ ⟨b1,rfl⟩;refine bO rfl (lC (v:=.agg (aM m)) (aE rfl) rfl rfl rfl) ?_;rintro _ ⟨b2,rfl⟩;refine au 4 ?_;obtain⟨u3,h4,h⟩:=bns h;obtain⟨x5,h6,h⟩:=bns h;refine fQ mix 14 [0,3,5,6] [(18,.i (j.free.at m.Court)),(25,.i x5.Earliest)] ?_ ?_
 ·refine⟨[(12,0,.bp f g 0),(13,1,.bp b2 0 2),(14,2,.i m.Court),(15,3,.bp f g 0),(16,4,.bp f g 1),(17,5,.bp f g (1+m.Court.toNat*1)),(18,6,.i (j.free.at m.Court)),(19,7,.bp b1 0 2),(20,8,.d (.sl 6 (Z26 n))),(21,9,.bp b2 0 0),(22,10,.i m.Job),(23,11,.cp [.j x5.Length.Low,.j x5.Length.High,.sl 1 (x5.After.map aD),.sl 1 (x5.With.map aD),.j x5.Due,.j x5.Earliest]),(24,12,.cp [.j x5.Earliest]),(25,13,.i x5.Earliest)],?_,?_⟩
  · exact dk [0,0,2,1,4,305,6,0,8,0,10,911,12,13] ⟨go (zm (.bp f g 0)),
 go (zf rfl bDv),
 go (zl 2 rfl rfl rfl dI),
 go λS hS=>jL (aE rfl) (aU hS rfl),
 go (zf rfl aOv),
 go λS hS=>aDq (aE rfl) (aU hS rfl) (aU hS rfl) aXn (lH h4).1 (lH h4).2,
 go λS hS=>aAo (aE rfl) (aU hS rfl) (i:=0) rfl (A3.cellI (a:=j.free) h4 rfl rfl rfl) dI,
 go (zf rfl xX),
 go (zl 1 rfl rfl rfl aEf),
 go (zf rfl vE),
 go (zl 2 rfl rfl rfl dI),
 go (zix rfl rfl aFx.of (cF bD h6)),
 go (zfc [.j x5.Earliest] rfl bRl),
 go (zlc rfl dI),trivial⟩
  · exact cP (aL rfl (aL rfl (aR (ae rfl))))
 ·refine to (bUo (aE rfl) rfl rfl) ?_;refine au 6 ?_;refine to (jL (aE rfl) rfl) ?_;refine to (sf rfl bAe) (to (sla 0 (bVj j.ends) rfl rfl bUy) (au 3 ?_));refine eV (S:=Int×Int) [0,3,5,6,30] (λs7=>[(8,.i s7.1),(31,.i s7.2)]) (λs7=>[.box f g ((bK j)++d_0_post),.box b1 0 (bJ n),.box b2 0 (aM m)]) (λk s7=>kT e j.ends j n m k s7.1 s7.2) (λ_=>rfl) (max (j.free.at m.Court) x5.Earliest,0) h (aO [0,1,2] rfl rfl (aL rfl (aL rfl (aR (ae rfl))))) ?_;rintro k8 ⟨c,o⟩ h;simp only[kT] at h;refine au 5 ?_;refine tih h (λc9 h=>?_) (λc9 h=>?_)
  ·refine au 6 ?_;obtain⟨C,x,h⟩:=bns h;refine to (bHo (aE rfl) rfl rfl bHw dI (lH x) (A6.celzI (a:=j.ends) x rfl rfl rfl rfl rfl rfl)) ?_;refine au 8 ?_;obtain⟨y,p,h⟩:=bns h;refine lJ 6 [0,3,5,6,8,11,30,31] 43 y ?_ ?_
   ·refine bch p (λs p=>?_) (λs p=>?_)
    ·refine tk s (sla 1 (bJ n) rfl rfl zF) (au 3 ?_);obtain⟨z,A,p⟩:=bns p;refine tk s (scr call183 (bFi _ _ _ A)) (to (spt (.b z) s) ?_);obtain rfl:=sIn p;refine bN (dQ rfl (ae rfl) rfl)
    ·refine au 6 ?_;obtain rfl:=sIn p;refine bN (dQ rfl (ae rfl) rfl)
   ·refine bN ?_;refine tih h (λB h=>?_) (λB h=>?_)
    ·refine au 6 ?_;refine to (bUo (aE rfl) rfl rfl) ?_;refine ta (.i (max c (w64 ((j.ends.at o)+n.Rest)))) ?_;refine kK ?_;refine au 4 ?_;exact⟨(max c (w64 ((j.ends.at o)+n.Rest)),w64 (o+1)),h,aO [0,1,2] rfl rfl (aL rfl (aL rfl (aR (ae rfl))))⟩
    ·refine iO ?_;refine au 4 ?_;exact⟨(c,w64 (o+1)),h,aO [0,1,2] rfl rfl (aL rfl (aL rfl (aR (ae rfl))))⟩
  ·refine cZ ?_;refine .inl ⟨rfl,?_⟩;simp only[vF] at h;refine au 8 ?_;obtain⟨E,t,h⟩:=bns h;refine jX mix 14 [8,9] (λq=>[(59,.i m.Job),(61,.i (w64 (c+e))),(66,.bp f g 4)]) (λq=>[.box f g ((bK (bW.mk j.number (j.free.set m.Court (w64 (c+e))) j.ends))++d_0_post),.box b1 0 (bJ n),.box b2 0 (aM m)]) ?_ ?_
   ·refine⟨0,λq=>[(54,0,.bp f g 0),(55,1,.bp b2 0 2),(56,2,.i m.Court),(57,3,.bp f g 0),(58,4,.bp b2 0 0),(59,5,.i m.Job),(60,6,.i (w64 (c+e))),(61,7,.i (w64 (c+e))),(62,8,.bp f g 0),(63,9,.bp f g 1),(64,10,.bp f g (1+m.Court.toNat*1)),(65,12,.bp f g 0),(66,13,.bp f g 4)],λq=>[([(11,.box f g ((bK (bW.mk j.number (j.free.set m.Court (w64 (c+e))) j.ends))++d_0_post))],.box f g ((bK j)++d_0_post)),([],.box b1 0 (bJ n)),([],.box b2 0 (aM m))],?_,?_⟩
    · exact xok [(0,12),(0,12),(2,12),(0,0),(0,0),(5,0),(0,12),(0,0),(1,12),(9,12),(310,12),(711,0),(4,0),(13,0)] ⟨λ_ _ w _ k=>xp w (ym k (.bp f g 0)),
 λ_ _ w _ k=>xp w (yf k rfl bDv),
 λ_ _ w _ k=>xp w (yl k 2 rfl (og k rfl rfl) rfl dI),
 λ_ _ w _ k=>xp w (ym k (.bp f g 0)),
 λ_ _ w _ k=>xp w (yf k rfl vE),
 λ_ _ w _ k=>xp w (yl k 2 rfl (og k rfl rfl) rfl dI),
 λ_ _ w _ k=>xp w (ym k (.i (w64 (c+e)))),
 λ_ _ w _ k=>xp w (ym k (.i (w64 (c+e)))),
 λ_ _ w _ k=>xp w (jL (aE rfl) (aU k rfl)),
 λ_ _ w _ k=>xp w (yf k rfl aOv),
 λ_ _ w _ k=>xp w (aDq (aE rfl) (aU k rfl) (aU k rfl) aXn (lH t).1 (lH t).2),
 λ_ _ _ _ k=>xs 0 k rfl rfl (vG (i:=0) (ds:=((bK j)++d_0_post)) (aU k rfl) (og k rfl rfl) (aU k rfl) rfl rfl sizeOf3 rfl (aE rfl) (bDz t rfl) (ds':=((bK (bW.mk j.number (j.free.set m.Court (w64 (c+e))) j.ends))++d_0_post)) (A3.updI (a:=j.free) t (λqq=>((bK (bW.mk j.number qq j.ends))++d_0_post)) rfl rfl rfl)),
 λ_ _ w _ k=>xp w (jL (aE rfl) (aU k rfl)),
 fun _ _ w _ k=>xp w (yf k rfl bAe),trivial⟩
    · exactλq=>cP (aL rfl (aL rfl (aL rfl (aR (ae rfl)))))
   ·intro q;obtain⟨F,u,h⟩:=bns h;refine to (aDq (aE rfl) rfl rfl bHw (lH u).1 (lH u).2) ?_;refine to (vG (i:=0) (ds:=((bK (bW.mk j.number (j.free.set m.Court (w64 (c+e))) j.ends))++d_0_post)) rfl rfl rfl rfl rfl sizeOf3 rfl (aE rfl) (bDz u rfl) (ds':=((bK (bW.mk j.number (j.free.set m.Court (w64 (c+e))) (j.ends.set m.Job (w64 (c+e)))))++d_0_post)) (A6.updI (a:=j.ends) u (λqq=>((bK (bW.mk j.number (j.free.set m.Court (w64 (c+e))) qq))++d_0_post)) rfl rfl rfl rfl rfl rfl)) ?_;refine au 8 ?_;obtain rfl:=sIn h;refine eW (aO [0] rfl rfl (aR (l:=[8,9]) (ae rfl))) ?_;exact cG ⟨rfl,_,.two _ _,rfl,rfl⟩

theorem aHm(g:aI)(y:List aG)(B:aX->Option Int){r:(List Int)×(List Int)}(c:Nat)(j:List AV)(C:∀args w,(callFunc c args).run Tryz.prog w=.ok (.enter c args) w)(E:∀(x0:aX) r,B x0=some r->Fn Tryz.prog c ([.agg (bX x0)]++j) (.i r))(h:qM g y B=some r):Fn Tryz.prog 71 [.agg (bJ g),.d (Z27 y),.fn c j] (.tup [.d (.sl 1 (r.1.map aD)),.d (.sl 1 (r.2.map aD))]):=by
 unfold qM at h;refine oT [.tmp 6,.tmp 7] func71 results71 ntmps71 ?_;refine bT (bQ ?_);refine bO rfl (lC (v:=.agg (bJ g)) (aE rfl) rfl rfl rfl) ?_;rintro _ ⟨b1,rfl⟩;refine to (sR 3 1 (.inl rfl) (aE rfl)) ?_;refine to (sR 3 1 (.inl rfl) (aE rfl)) ?_;refine bN (bT ?_);obtain⟨x5,h6,h⟩:=bns h;obtain⟨x7,h8,h⟩:=bns h;refine jX mix 9 [1,2,3] (λX4=>[(6,.d (.lit (X4 3).v)),(18,.d (.lit (X4 7).v))]) (λX4=>[.box b1 0 (bJ g),.arr (.slice none 0 0) 3 1 Z11,.arr (.slice none 0 0) 3 1 Z11,.arr (X4 3).v 3 1 (x5.map aD),.arr (X4 7).v 3 1 (x7.map aD)]) ?_ ?_
 ·refine⟨2,λX4=>[(11,0,.bp b1 0 2),(12,1,.d (.sl 6 (Z26 g))),(13,2,.i (g.Jobs.length:Int)),(14,3,.d (.lit (X4 3).v)),(15,4,.bp b1 0 2),(16,5,.d (.sl 6 (Z26 g))),(17,6,.i (g.Jobs.length:Int)),(18,7,.d (.lit (X4 7).v)),(6,8,.d (.lit (X4 3).v))],λX4=>[([],.box b1 0 (bJ g)),([],.arr (.slice none 0 0) 3 1 Z11),([],.arr (.slice none 0 0) 3 1 Z11),([(3,.arr (X4 3).v 3 1 (x5.map aD))],nob),([(7,.arr (X4 7).v 3 1 (x7.map aD))],nob)],?_,?_⟩
  · exact xok [(0,4),(1,4),(2,4),(3,9),(0,8),(5,8),(6,8),(7,0),(4,0)] ⟨λ_ _ w _ k=>xp w (yf k rfl xX),
 λ_ _ w _ k=>xp w (yl k 0 rfl (og k rfl rfl) rfl aEf),
 λ_ _ w _ k=>xp w (yle k rfl aFx.of),
 λX4 S hw hi hS=>aEr (X:=X4) (p:=3) (v:=λx=>.d (.lit x.v)) (mo:=λx=>.arr x.v 3 1 (x5.map aD)) hS hi rfl rfl (λ_=>rfl) hw (λ_=>rfl) (λ_=>rfl) (λ_=>rfl) (λ_=>⟨rfl,rfl,.inr rfl,⟨rfl,rfl,.inr rfl,⟨rfl,rfl,.inr rfl,⟨rfl,rfl,.inl rfl,⟨rfl,rfl,.inr rfl,⟨rfl,rfl,.inr rfl,⟨rfl,rfl,.inr rfl,⟨rfl,rfl,.inr rfl,⟨rfl,rfl,.inl rfl,trivial⟩⟩⟩⟩⟩⟩⟩⟩⟩) (λ_=>⟨trivial,rfl,⟨trivial,rfl,⟨trivial,rfl,⟨⟨rfl,.inl rfl,trivial⟩,rfl,⟨⟨rfl,.inr rfl,trivial⟩,rfl,trivial⟩⟩⟩⟩⟩) (kW (bFw (zs:=[.j 0]) (aE rfl) cR (aU hS rfl) (aU hS rfl) rfl rfl (bEp aD h6) (aE rfl)) (by rintro _ ⟨w,rfl⟩;exact⟨⟨0,w⟩,aO [0,1,2,5,4] rfl rfl (le_refl _)⟩)),
 λ_ _ w _ k=>xp w (yf k rfl xX),
 λ_ _ w _ k=>xp w (yl k 0 rfl (og k rfl rfl) rfl aEf),
 λ_ _ w _ k=>xp w (yle k rfl aFx.of),
 λX4 S hw hi hS=>aEr (X:=X4) (p:=4) (v:=λx=>.d (.lit x.v)) (mo:=λx=>.arr x.v 3 1 (x7.map aD)) hS hi rfl rfl (λ_=>rfl) hw (λ_=>rfl) (λ_=>rfl) (λ_=>rfl) (λ_=>⟨rfl,rfl,.inr rfl,⟨rfl,rfl,.inr rfl,⟨rfl,rfl,.inr rfl,⟨rfl,rfl,.inr rfl,⟨rfl,rfl,.inr rfl,⟨rfl,rfl,.inr rfl,⟨rfl,rfl,.inr rfl,⟨rfl,rfl,.inl rfl,⟨rfl,rfl,.inr rfl,trivial⟩⟩⟩⟩⟩⟩⟩⟩⟩) (λ_=>⟨trivial,rfl,⟨trivial,rfl,⟨trivial,rfl,⟨⟨rfl,.inr rfl,trivial⟩,rfl,⟨⟨rfl,.inl rfl,trivial⟩,rfl,trivial⟩⟩⟩⟩⟩) (kW (bFw (zs:=[.j 0]) (aE rfl) cR (aU hS rfl) (aU hS rfl) rfl rfl (bEp aD h8) (aE rfl)) (by rintro _ ⟨w,rfl⟩;exact⟨⟨0,w⟩,aO [0,1,2,3,5] rfl rfl (le_refl _)⟩)),
 λX4 _ w _ k=>xp w (ya k (.d (.lit (X4 3).v))),trivial⟩
  · exactλX4=>cP (aL rfl (aL rfl (aR (ae rfl))))
 ·intro X4;refine au 4 ?_;refine to (sla 0 (bJ g) rfl rfl zF) ?_;obtain⟨r9,Q,h⟩:=bns h;refine to (nH (aE rfl) (.func _ _ call132) rfl rfl (aDn _ _ Q)) ?_;refine bO rfl (dG (zs:=[.j 0,.j 0,.j 0,.j 0,.j 0,.j 0,.j 0,.j 0,.j 0,.j 0]) (aE rfl) zeroValue215 rfl rfl) ?_;rintro _ ⟨u,rfl⟩;refine to (sst 5 rfl rfl sizeOf215 (bK r9)) (au 9 ?_);refine eV (S:=Int×bW×Z14×Z14) [2,3,8,21,22] (λz=>[(6,.d (.lit (X4 3).v)),(7,.d (.lit (X4 7).v)),(23,.i z.1)]) (λz=>[.box b1 0 (bJ g),.box u 0 (bK z.2.1),.arr (X4 3).v 3 1 (z.2.2.1.map aD),.arr (X4 7).v 3 1 (z.2.2.2.map aD)]) (λk z=>lR B y (y.length:Int) g k z.1 z.2.1 z.2.2.1 z.2.2.2) (λ_=>rfl) (0,r9,x5,x7) h (aO [0,5,3,4] rfl rfl (aL rfl (aL rfl (aL rfl (aR (ae rfl)))))) ?_;rintro a6 ⟨H,q,b,e⟩ h;simp only[lR] at h;refine au 5 ?_;refine tih h (λT h=>?_) (λT h=>?_)
  ·refine au 5 ?_;obtain⟨a,U,h⟩:=bns h;refine to (six rfl rfl aRa.of (cF aM U)) (to (aDe (aM a) rfl zG) ?_);refine bO rfl (dG (zs:=[.j 0,.j 0,.j 0]) (aE rfl) zeroValue58 rfl rfl) ?_;rintro _ ⟨A,rfl⟩;refine to (sst 4 rfl rfl sizeOf58 (aM a)) (au 10 ?_);refine tih h (λV h=>?_) (λV h=>?_)
   ·refine bQ (to (sla 0 (bJ g) rfl rfl zF) (au 2 ?_));obtain⟨I,W,h⟩:=bns h;refine to (nH (aE rfl) (.func _ _ call132) rfl rfl (aDn _ _ W)) ?_;refine to (sst 1 rfl rfl sizeOf215 (bK I)) (bN ?_);obtain⟨s,Y,h⟩:=bns h;obtain⟨K,Z,h⟩:=bns h;obtain⟨n,a2,h⟩:=bns h;obtain⟨a7,L,h⟩:=bns h;refine jX mix 23 [2,3,6,7,8,21,22,23] (λF=>[(40,.d (.lit (X4 7).v)),(42,.i a.Job),(56,.i n.2.1)]) (λF=>[.box b1 0 (bJ g),.box u 0 (bK n.2.2),.arr (X4 3).v 3 1 ((b.set a.Job.toNat n.1).map aD),.arr (X4 7).v 3 1 (e.map aD),.box A 0 (aM a)]) ?_ ?_
    ·refine⟨0,λF=>[(37,0,.d (.lit (X4 3).v)),(38,1,.bp A 0 0),(39,2,.i a.Job),(40,3,.d (.lit (X4 7).v)),(41,4,.bp A 0 0),(42,5,.i a.Job),(43,6,.agg (bJ g)),(44,7,.agg (aM a)),(45,8,.fn c j),(46,9,.bp b1 0 2),(47,10,.d (.sl 6 (Z26 g))),(48,11,.bp A 0 0),(49,12,.i a.Job),(50,13,.cp [.j s.Length.Low,.j s.Length.High,.sl 1 (s.After.map aD),.sl 1 (s.With.map aD),.j s.Due,.j s.Earliest]),(51,14,.cp [.j s.Length.Low,.j s.Length.High]),(52,15,.agg (bX s.Length)),(53,16,.i K),(54,17,.tup [.i n.1,.i n.2.1]),(36,18,.tup [.i n.1,.i n.2.1]),(55,19,.i n.1),(56,20,.i n.2.1),(57,21,.ep (X4 3).v 1 a.Job.toNat 0)],λF=>[([],.box b1 0 (bJ g)),([(17,.box u 0 (bK n.2.2))],.box u 0 (bK I)),([(22,.arr (X4 3).v 3 1 ((b.set a.Job.toNat n.1).map aD))],.arr (X4 3).v 3 1 (b.map aD)),([],.arr (X4 7).v 3 1 (e.map aD)),([],.box A 0 (aM a))],?_,?_⟩
     · exact xok [(0,23),(0,23),(2,23),(0,0),(0,0),(5,0),(0,1823),(0,1823),(0,1823),(0,1823),(10,1823),(0,1823),(12,1823),(1113,1823),(14,1823),(15,1823),(916,1823),(70817,23),(18,23),(1819,23),(1819,0),(10318,23),(182022,0)] ⟨λ_ _ w _ k=>xp w (ym k (.d (.lit (X4 3).v))),
 λ_ _ w _ k=>xp w (yf k rfl vE),
 λ_ _ w _ k=>xp w (yl k 4 rfl (og k rfl rfl) rfl dI),
 λ_ _ w _ k=>xp w (ym k (.d (.lit (X4 7).v))),
 λ_ _ w _ k=>xp w (yf k rfl vE),
 λ_ _ w _ k=>xp w (yl k 4 rfl (og k rfl rfl) rfl dI),
 λ_ _ w _ k=>xp w (yla k 0 (bJ g) rfl (og k rfl rfl) zF),
 λ_ _ w _ k=>xp w (yla k 4 (aM a) rfl (og k rfl rfl) zG),
 λ_ _ w _ k=>xp w (ym k (.fn c j)),
 λ_ _ w _ k=>xp w (yf k rfl xX),
 λ_ _ w _ k=>xp w (yl k 0 rfl (og k rfl rfl) rfl aEf),
 λ_ _ w _ k=>xp w (yf k rfl vE),
 λ_ _ w _ k=>xp w (yl k 4 rfl (og k rfl rfl) rfl dI),
 λ_ _ w _ k=>xp w (yix k rfl rfl aFx.of (cF bD Y)),
 λ_ _ w _ k=>xp w (yfc k [.j s.Length.Low,.j s.Length.High] rfl aLx),
 λ_ _ w _ k=>xp w (bMo k (bX s.Length) rfl aJu),
 λ_ _ w _ k=>xp w (fZ (aE rfl) (.clo _ _ _ _ C (aWh k rfl)) (aLv (ev2 (aU k rfl) evn)) rfl (BVs.refl _ _) (E _ _ Z) rfl),
 λF S hw hi hS=>aHw (X:=F) (p:=1) hS rfl rfl rfl (hw F) rfl rfl rfl (kW (aNb ((aVg 1 (x:=.box u 0 (bK I)) (og hS rfl rfl)).trans (aO [1,0,2,3,4] rfl rfl (le_refl _))) (oN (passed:=[.box u 0 ((bK I)++[])]) (aE rfl) rfl (.func _ _ call133) (ev2 (aU hS rfl) (ev2 (aU hS rfl) (ev2 (aU hS rfl) (ev2 (aU hS rfl) evn)))) rfl (wU I g a K (d_0_post:=[]) a2))) (by rintro _ ⟨_,_,⟨rfl,rfl⟩,rfl⟩;exact aO [1,0,2,3,4] rfl rfl (le_refl _))),
 λ_ _ w _ k=>xp w (ym k (.tup [.i n.1,.i n.2.1])),
 λ_ _ w _ k=>xp w (yex k rfl rfl),
 λ_ _ w _ k=>xp w (yex k rfl rfl),
 λ_ _ w _ k=>xp w (yia k 2 rfl (og k rfl rfl) rfl cR.of (cF aD L)),
 fun _ _ _ _ k=>xs 2 k rfl rfl (vH (l:=2) (aU k rfl) (og k rfl rfl) (fY aD L) (aU k rfl) rfl rfl sizeOf3 rfl (aE rfl) (Nat.le_of_ble_eq_true rfl) (rows':=((b.set a.Job.toNat n.1)).map aD) (aDd _ _ _ _ rfl)),trivial⟩
     · exactλF=>cP (aL rfl (aL rfl (aL rfl (aR (ae rfl)))))
    ·intro F;obtain⟨a8,M,h⟩:=bns h;refine to (mK (m:=3) (aE rfl) rfl rfl rfl cR.of (cF aD M)) ?_;refine to (vH (l:=3) rfl rfl (fY aD M) rfl rfl rfl sizeOf3 rfl (aE rfl) (Nat.le_of_ble_eq_true rfl) (rows':=((e.set a.Job.toNat n.2.1)).map aD) (aDd _ _ _ _ rfl)) ?_;refine kK ?_;refine au 4 ?_;exact⟨(w64 (H+1),n.2.2,(b.set a.Job.toNat n.1),(e.set a.Job.toNat n.2.1)),h,aO [0,1,2,3] rfl rfl (aL rfl (aL rfl (aL rfl (aR (ae rfl)))))⟩
   ·refine sD ?_;obtain⟨t,a3,h⟩:=bns h;obtain⟨N,a4,h⟩:=bns h;obtain⟨o,a5,h⟩:=bns h;obtain⟨a9,O,h⟩:=bns h;refine jX mix 23 [2,3,6,7,8,21,22,23] (λG=>[(40,.d (.lit (X4 7).v)),(42,.i a.Job),(56,.i o.2.1)]) (λG=>[.box b1 0 (bJ g),.box u 0 (bK o.2.2),.arr (X4 3).v 3 1 ((b.set a.Job.toNat o.1).map aD),.arr (X4 7).v 3 1 (e.map aD),.box A 0 (aM a)]) ?_ ?_
    ·refine⟨0,λG=>[(37,0,.d (.lit (X4 3).v)),(38,1,.bp A 0 0),(39,2,.i a.Job),(40,3,.d (.lit (X4 7).v)),(41,4,.bp A 0 0),(42,5,.i a.Job),(43,6,.agg (bJ g)),(44,7,.agg (aM a)),(45,8,.fn c j),(46,9,.bp b1 0 2),(47,10,.d (.sl 6 (Z26 g))),(48,11,.bp A 0 0),(49,12,.i a.Job),(50,13,.cp [.j t.Length.Low,.j t.Length.High,.sl 1 (t.After.map aD),.sl 1 (t.With.map aD),.j t.Due,.j t.Earliest]),(51,14,.cp [.j t.Length.Low,.j t.Length.High]),(52,15,.agg (bX t.Length)),(53,16,.i N),(54,17,.tup [.i o.1,.i o.2.1]),(36,18,.tup [.i o.1,.i o.2.1]),(55,19,.i o.1),(56,20,.i o.2.1),(57,21,.ep (X4 3).v 1 a.Job.toNat 0)],λG=>[([],.box b1 0 (bJ g)),([(17,.box u 0 (bK o.2.2))],.box u 0 (bK q)),([(22,.arr (X4 3).v 3 1 ((b.set a.Job.toNat o.1).map aD))],.arr (X4 3).v 3 1 (b.map aD)),([],.arr (X4 7).v 3 1 (e.map aD)),([],.box A 0 (aM a))],?_,?_⟩
     · exact xok [(0,23),(0,23),(2,23),(0,0),(0,0),(5,0),(0,1823),(0,1823),(0,1823),(0,1823),(10,1823),(0,1823),(12,1823),(1113,1823),(14,1823),(15,1823),(916,1823),(70817,23),(18,23),(1819,23),(1819,0),(10318,23),(182022,0)] ⟨λ_ _ w _ k=>xp w (ym k (.d (.lit (X4 3).v))),
 λ_ _ w _ k=>xp w (yf k rfl vE),
 λ_ _ w _ k=>xp w (yl k 4 rfl (og k rfl rfl) rfl dI),
 λ_ _ w _ k=>xp w (ym k (.d (.lit (X4 7).v))),
 λ_ _ w _ k=>xp w (yf k rfl vE),
 λ_ _ w _ k=>xp w (yl k 4 rfl (og k rfl rfl) rfl dI),
 λ_ _ w _ k=>xp w (yla k 0 (bJ g) rfl (og k rfl rfl) zF),
 λ_ _ w _ k=>xp w (yla k 4 (aM a) rfl (og k rfl rfl) zG),
 λ_ _ w _ k=>xp w (ym k (.fn c j)),
 λ_ _ w _ k=>xp w (yf k rfl xX),
 λ_ _ w _ k=>xp w (yl k 0 rfl (og k rfl rfl) rfl aEf),
 λ_ _ w _ k=>xp w (yf k rfl vE),
 λ_ _ w _ k=>xp w (yl k 4 rfl (og k rfl rfl) rfl dI),
 λ_ _ w _ k=>xp w (yix k rfl rfl aFx.of (cF bD a3)),
 λ_ _ w _ k=>xp w (yfc k [.j t.Length.Low,.j t.Length.High] rfl aLx),
 λ_ _ w _ k=>xp w (bMo k (bX t.Length) rfl aJu),
 λ_ _ w _ k=>xp w (fZ (aE rfl) (.clo _ _ _ _ C (aWh k rfl)) (aLv (ev2 (aU k rfl) evn)) rfl (BVs.refl _ _) (E _ _ a4) rfl),
 λG S hw hi hS=>aHw (X:=G) (p:=1) hS rfl rfl rfl (hw G) rfl rfl rfl (kW (aNb ((aVg 1 (x:=.box u 0 (bK q)) (og hS rfl rfl)).trans (aO [1,0,2,3,4] rfl rfl (le_refl _))) (oN (passed:=[.box u 0 ((bK q)++[])]) (aE rfl) rfl (.func _ _ call133) (ev2 (aU hS rfl) (ev2 (aU hS rfl) (ev2 (aU hS rfl) (ev2 (aU hS rfl) evn)))) rfl (wU q g a N (d_0_post:=[]) a5))) (by rintro _ ⟨_,_,⟨rfl,rfl⟩,rfl⟩;exact aO [1,0,2,3,4] rfl rfl (le_refl _))),
 λ_ _ w _ k=>xp w (ym k (.tup [.i o.1,.i o.2.1])),
 λ_ _ w _ k=>xp w (yex k rfl rfl),
 λ_ _ w _ k=>xp w (yex k rfl rfl),
 λ_ _ w _ k=>xp w (yia k 2 rfl (og k rfl rfl) rfl cR.of (cF aD O)),
 fun _ _ _ _ k=>xs 2 k rfl rfl (vH (l:=2) (aU k rfl) (og k rfl rfl) (fY aD O) (aU k rfl) rfl rfl sizeOf3 rfl (aE rfl) (Nat.le_of_ble_eq_true rfl) (rows':=((b.set a.Job.toNat o.1)).map aD) (aDd _ _ _ _ rfl)),trivial⟩
     · exactλG=>cP (aL rfl (aL rfl (aL rfl (aR (ae rfl)))))
    ·intro G;obtain⟨b0,P,h⟩:=bns h;refine to (mK (m:=3) (aE rfl) rfl rfl rfl cR.of (cF aD P)) ?_;refine to (vH (l:=3) rfl rfl (fY aD P) rfl rfl rfl sizeOf3 rfl (aE rfl) (Nat.le_of_ble_eq_true rfl) (rows':=((e.set a.Job.toNat o.2.1)).map aD) (aDd _ _ _ _ rfl)) ?_;refine kK ?_;refine au 4 ?_;exact⟨(w64 (H+1),o.2.2,(b.set a.Job.toNat o.1),(e.set a.Job.toNat o.2.1)),h,aO [0,1,2,3] rfl rfl (aL rfl (aL rfl (aL rfl (aR (ae rfl)))))⟩
  ·refine cZ ?_;refine .inl ⟨rfl,?_⟩;simp only[aEx] at h;refine au 7 ?_;obtain rfl:=sIn h;refine eW (mS (tK (k:=7) (v:=.d (.sl 1 (e.map aD))) (.d (pE 3 rfl (dT (f:=aD) λ_=>rfl))) (tK (k:=6) (v:=.d (.sl 1 (b.map aD))) (.d (pE 2 rfl (dT (f:=aD) λ_=>rfl))) (bVd)))) ?_;exact cG ⟨rfl,_,.two _ _,rfl,rfl⟩

theorem aKo(a:aX){r:Int}(h:uE a=some r):Fn Tryz.prog 73 [.agg (bX a)] (.i r):=by
 unfold uE at h;refine fnx xT {} [.tmp 2] func73 results73 ntmps73 ?_;cases h;exact⟨rfl,rfl,rfl⟩

theorem bHi(e:aI)(c:List aG){r:Bool×Int×Int}(h:aIs e c=some r):Fn Tryz.prog 50 [.agg (bJ e),.d (Z27 c)] (.tup [.b r.1,.i r.2.1,.i r.2.2]):=by
 unfold aIs at h;refine fnx xT {} [.tmp 4,.tmp 5,.tmp 6] func50 results50 ntmps50 ?_;refine cl call67 (λ_=>aHh _) h λr2 h=>?_;refine br h (λh=>?_) λh=>?_
 ·cases h;exact⟨rfl,_,_,_,rfl,rfl,rfl,rfl,rfl,rfl⟩
 ·refine cl call70 (λ_=>aKl _ _) h λr4 h=>?_;refine br h (λh=>?_) λh=>?_
  ·cases h;exact⟨rfl,_,_,_,rfl,rfl,rfl,rfl,rfl,rfl⟩
  ·refine cd call71 (λ_=>aHm _ _ _ 73 [] call73 (λ_ _ h=>aKo _ h)) h λr7 h=>?_;refine ol ?_;refine xlp [2,9,27,28] [2] (λ(a:Int)=>([(29,.i a)],[])) (λk (a:Int)=>aBn r7.2 c (c.length:Int) e k a) (0) h (lev []) ?_;rintro f a h;simp only[aBn] at h;refine br h (λh=>?_) λh=>?_
   ·refine oi h λg h=>?_;refine⟨by kernel_rfl,?_⟩;refine oi h λj h=>?_;refine oi h λl h=>?_;refine oi h λm h=>?_;refine⟨by kernel_rfl,?_⟩;refine br h (λh=>?_) λh=>?_
    ·refine⟨by kernel_rfl,?_⟩;refine⟨by kernel_rfl,?_⟩;cases h;exact⟨rfl,_,_,_,rfl,rfl,rfl,rfl,rfl,rfl⟩
    ·exact⟨(w64 (a+1)),h,lev []⟩
   ·simp only[aPv] at h;cases h;exact⟨rfl,_,_,_,rfl,rfl,rfl,rfl,rfl,rfl⟩

theorem aXq(a0:aF)(a1:List aB){r:Int×Int}(h:yO a0 a1=some r):Fn Tryz.prog 30 (Z17 a0 a1) ((λx:Int×Int=>.tup [.i x.1,.i x.2]) r):=aGt (enc:=λx:Int×Int=>.tup [.i x.1,.i x.2]) (aXp a0 a1 (aSp a0 a1 h (λx=>x=r) rfl))

theorem dS{r:Bool}(h:cS=some r):Fn Tryz.prog 11 [] (.b r):=by
 unfold cS at h;refine fnx xT {} [.tmp 0] func11 results11 ntmps11 ?_;refine cd call47 (λ_=>aLk) h λr1 h=>?_;refine cd call12 (λ_=>aOt _) h λr5 h=>?_;refine cd call48 (λ_=>aLl) h λr7 h=>?_;refine cl call30 (λ_=>aXq _ _) h λa h=>?_;refine cd call49 (λ_=>aLm) h λc h=>?_;refine cl call50 (λ_=>bHi _ _) h λd h=>?_;refine jg h (λx h=>?_) λe h=>?_
 ·refine br h (λh=>?_) λh=>?_
  ·exact jt h
  ·exact jt h
 ·refine jg h (λx h=>?_) λf h=>?_
  ·refine br h (λh=>?_) λh=>?_
   ·exact jt h
   ·exact jt h
  ·refine jg h (λx h=>?_) λg h=>?_
   ·refine br h (λh=>?_) λh=>?_
    ·refine ol ?_;exact jt h
    ·exact jt h
   ·refine jg h (λx h=>?_) λi h=>?_
    ·refine br h (λh=>?_) λh=>?_
     ·refine oi h λj h=>?_;exact jt h
     ·exact jt h
    ·refine jg h (λx h=>?_) λk h=>?_
     ·refine br h (λh=>?_) λh=>?_
      ·exact jt h
      ·exact jt h
     ·refine jg h (λx h=>?_) λl h=>?_
      ·refine br h (λh=>?_) λh=>?_
       ·exact jt h
       ·exact jt h
      ·refine jg h (λx h=>?_) λm h=>?_
       ·refine br h (λh=>?_) λh=>?_
        ·exact jt h
        ·exact jt h
       ·cases h;exact⟨rfl,rfl,rfl⟩

theorem aJf(a:Int){r:Int}(h:mR a=some r):Fn Tryz.prog 13 [.i a] (.i r):=by
 unfold mR at h;refine fnx xT {} [.tmp 2] func13 results13 ntmps13 ?_;refine br h (λh=>?_) λh=>?_
 ·cases h;exact⟨rfl,rfl,rfl⟩
 ·cases h;exact⟨rfl,rfl,rfl⟩

theorem aUs(a:aF)(b:List aB){Q:Int->Prop}(h:vL a b Q):dX Tryz.prog 14 (Z17 a b) [] (λr' o'=>∃(r:Int),Q r/\r'=.i r/\o'=[]):=by
 unfold vL at h;refine kF func14 rfl (rs:=[.tmp 4]) results14 ntmps14 (Nat.le_of_ble_eq_true rfl) ?_;refine bT (bQ ?_);refine bO rfl (lC (v:=.agg (aV a)) (aE rfl) rfl rfl rfl) ?_;rintro _ ⟨b1,rfl⟩;refine au 4 ?_;refine to (sla 0 (aV a) rfl rfl tG) (tm (.d (Z7 b)) ?_);refine bO rfl (vV (aE rfl) (.func _ _ call53) rfl rfl (tO _ _ h)) ?_;rintro _ ⟨_,_,⟨r2,h,rfl,rfl⟩,rfl⟩;refine au 3 ?_;refine ta (cQ aS r2.1) (au 7 ?_);exact cG ⟨rfl,_,[],[.box b1 0 (aV a)],_,.one (.tmp 4 (v:=.i r2.2) rfl),.refl _,.same _,r2.2,h,rfl,rfl⟩

end Go.Am
