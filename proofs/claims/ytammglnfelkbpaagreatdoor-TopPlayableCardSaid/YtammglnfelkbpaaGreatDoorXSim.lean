/- The functions compute what the shallow ones say: printed by program. -/
import Derived.Test.YtammglnfelkbpaaGreatDoorRgSh
import Derived.Test.YtammglnfelkbpaaGreatDoorRfStrShelf
import Derived.Test.YtammglnfelkbpaaGreatDoorRfAmb
import Derived.Test.YtammglnfelkbpaaGreatDoorAmByt
import Derived.Test.YtammglnfelkbpaaGreatDoorRfShelf
import Derived.Test.YtammglnfelkbpaaGreatDoorBbDet
import Derived.Test.YtammglnfelkbpaaGreatDoorChecked
import Derived.Test.YtammglnfelkbpaaGreatDoorAmX18
import Derived.KernelRfl
import Derived.Test.YtammglnfelkbpaaGreatDoorAmW
namespace Go.Am
open Go.Proofs
open Go.Proofs.Tryz
set_option maxRecDepth 100000
set_option maxHeartbeats 40000000
attribute [local instance] aCj

abbrev bx0(r:aJ)(h0:D):List D:=[.j r.Desk.Field.Places,.j r.Desk.Field.Wilds,.j r.Desk.Field.Guards,.j r.Desk.Field.Close,.j r.Desk.Field.Freeze,.j r.Desk.Tree.Rounds,.sl 1 (r.Desk.Tree.Slots.map aP),.j r.Desk.Format.Sets,.j r.Desk.Format.Games,.k r.Desk.Format.NoAd,.j r.Desk.Format.Tie,.j r.Desk.Format.To,.j r.Desk.Format.LastTie,.j r.Desk.Format.LastTo,.j r.Desk.Format.First,.j r.Desk.Format.Then,.k r.Desk.Format.Doubles,.sl 1 (r.Desk.Days.map aO),.j r.Desk.Rest,.sl 3 (r.Desk.Stages.map fR),.j r.Register.Hour,.sl 5 (r.Register.Notices.map cY),.sl 5 (r.Register.Slips.map aL),.j r.Register.Round,.j r.Register.Place,.j r.Register.First,.sl 1 (r.Register.Points.map aP),h0,.j r.bout.Round,.j r.bout.Place,.j r.bout.One,.j r.bout.Two]
abbrev bx1(r:aJ)(h0 h1 h2:D):List D:=[.j r.Desk.Field.Places,.j r.Desk.Field.Wilds,.j r.Desk.Field.Guards,.j r.Desk.Field.Close,.j r.Desk.Field.Freeze,.j r.Desk.Tree.Rounds,.sl 1 (r.Desk.Tree.Slots.map aP),.j r.Desk.Format.Sets,.j r.Desk.Format.Games,.k r.Desk.Format.NoAd,.j r.Desk.Format.Tie,.j r.Desk.Format.To,.j r.Desk.Format.LastTie,.j r.Desk.Format.LastTo,.j r.Desk.Format.First,.j r.Desk.Format.Then,.k r.Desk.Format.Doubles,.sl 1 (r.Desk.Days.map aO),.j r.Desk.Rest,.sl 3 (r.Desk.Stages.map fR),.j r.Register.Hour,h0,h1,.j r.Register.Round,.j r.Register.Place,.j r.Register.First,.sl 1 (r.Register.Points.map aP),h2,.j r.bout.Round,.j r.bout.Place,.j r.bout.One,.j r.bout.Two]
abbrev bx2(r:bB)(h0 h1 h2:D):List D:=[.j r.rules.Format.Sets,.j r.rules.Format.Games,.k r.rules.Format.NoAd,.j r.rules.Format.Tie,.j r.rules.Format.To,.j r.rules.Format.LastTie,.j r.rules.Format.LastTo,.j r.rules.Format.First,.j r.rules.Format.Then,.k r.rules.Format.Doubles,h0,.j r.Score.Board.Games.A,.j r.Score.Board.Games.B,.j r.Score.Board.Points.A,.j r.Score.Board.Points.B,.j r.Score.Server,.j r.Score.Ends,.j r.Score.Balls,.j r.Score.Winner,.j r.first,.j r.won.A,.j r.won.B,h1,h2]
abbrev bx3(r:dS):List D:=[.j r.Size,.sl 4 (r.Strips.map mN),.j r.Wrong,.j r.HalfX.Low,.j r.HalfX.High,.j r.HalfY.Low,.j r.HalfY.High]
abbrev D.j(n:Int):D:=.lit (.int .i64 n)
abbrev D.k(b:Bool):D:=.lit (.bool b)
abbrev VI(n:Int):Value:=.int .i64 n
abbrev Z0(p0:dQ)(p1:Nat):List D:=[.sl 1 (p0.Program.Days.map aO),.j p0.Program.Rest,.sl 6 (p0.Program.Jobs.map aW),.j p0.days,fA 3 aK p0.old,.lit (.map (some p1))]
abbrev Z1(p0:Nat)(p1:Nat)(p2:aJ)(p3:Value)(p4:Value)(p5:Value):List MO:=[.box p0 p1 (bx1 p2 (.lit p3) (.lit p4) (.lit p5)),.arr p3 166 5 (p2.Register.Notices.map cY),.arr p4 60 5 (p2.Register.Slips.map aL)]
abbrev Z2(p0:aD)(p1:List aA):List AV:=[.agg (bU p0),.d (.sl 5 (p1.map aL))]
abbrev Z3(p0:Value):D:=.lit p0
abbrev Z4:=aM (aE.mk (cE.mk 0 (A3.mk 0 0 0) (A6.mk 0 0 0 0 0 0)) 0 0)
abbrev Z5(p0:Nat)(p1:Nat)(p2:bB)(p3:Value)(p4:Value)(p5:Value):List MO:=[.box p0 p1 (bx2 p2 (Z3 p3) (Z3 p4) (Z3 p5)),.arr p3 119 2 (p2.Score.Board.Sets.map cN),.arr p4 4 1 (p2.ties.map tW),.arr p5 405 7 (p2.games.map fT)]
abbrev Z6(p0:bJ):AV:=.cp [.j p0.Tree.Rounds,.sl 1 (p0.Tree.Slots.map aP),.sl 1 (p0.players.map aP),.mp false (p0.won.map λp:aB×Int=>((λa:aB=>Value.agg ((aN a).map bD).toArray) p.1,aP p.2))]
abbrev Z7(p0:aJ)(p1:Value):=bx1 p0 (.hv 0 100001 0) (.hv 0 100002 0) (Z3 p1)
abbrev Z8(p0:Value)(p1:List aT):List MO:=[.arr p0 130 4 (p1.map bP)]
abbrev Z9(p0:aD):MO:=.box [.j p0.Rounds,.sl 1 (p0.Slots.map aP),.hv 0 22 0,.hv 1 23 0]
abbrev Z10(p0:aD)(p1:List Int)(p2:D)(p3:List (aA×Int))(p4:Int):List AV:=[.cp [.j p0.Rounds,.sl 1 (p0.Slots.map aP),.sl 1 (p1.map aP),p2],.d (.mp false (p3.map λp:aA×Int=>((λa:aA=>Value.agg ((aL a).map bD).toArray) p.1,aP p.2))),.i p4]
abbrev Z11(p0:aD)(p1:List aA)(p2:Int)(p3:Int):List AV:=[.agg (bU p0),.d (.sl 5 (p1.map aL)),.i p2,.i p3]
abbrev Z12(p0:List Int):D:=.sl 1 (p0.map aP)
abbrev Z13:=aS.mk 0 0
abbrev Z14(p0:bB):=p0.Score.Board.Sets.map cN
abbrev Z15:=aB.mk (w64 (c.round-1)) (w64 ((w64 (2*c.place))+b))
abbrev Z16:=List (aE×Int)
abbrev Z17(p0:Str×aJ):=p0.2.Register.Notices.map cY
abbrev Z18(p0:aJ):=p0.Register.Notices.map cY
abbrev Z19(p0:bJ):=p0.Tree.Slots.map aP
abbrev Z20(p0:Str×aJ):=p0.2.Register.Slips.map aL
abbrev Z21(p0:aJ):=p0.Register.Slips.map aL
abbrev Z22:=cE.mk 0 (A3.mk 0 0 0) (A6.mk 0 0 0 0 0 0)
abbrev Z23:List D:=[.lit (.slice none 0 0)]
abbrev Z24(p0:bB):=bx2 p0 (.hv 0 100001 0) (.hv 0 100002 0) (.hv 0 100003 0)
abbrev Z25:D:=.sl 3 (j.map aK)
theorem mix:Tryz.prog.follows .mixedOrders=true:=Checked.mixed Tryz.checked

open Go.Proofs.Tryz in
noncomputable def xT:TT Tryz.prog:=⟨tn (tn (tn (tn (tn (tn (tn (tn .l 2 t2 underlying2 .l) 3 t3 underlying3 (tn .l 4 t4 underlying4 .l)) 5 t5 underlying5 (tn (tn .l 6 t6 underlying6 .l) 7 t7 underlying7 .l)) 8 t8 underlying8 (tn (tn (tn .l 9 t9 underlying9 .l) 10 t10 underlying10 .l) 11 t11 underlying11 (tn (tn .l 12 t12 underlying12 .l) 13 t13 underlying13 .l))) 14 t14 underlying14 (tn (tn (tn (tn .l 15 t15 underlying15 .l) 16 t16 underlying16 (tn .l 17 t17 underlying17 .l)) 18 t18 underlying18 (tn (tn .l 19 t19 underlying19 .l) 21 t21 underlying21 .l)) 22 t22 underlying22 (tn (tn (tn .l 23 t23 underlying23 .l) 24 t24 underlying24 .l) 25 t25 underlying25 (tn (tn .l 26 t26 underlying26 .l) 27 t27 underlying27 .l)))) 28 t28 underlying28 (tn (tn (tn (tn (tn .l 29 t29 underlying29 .l) 30 t30 underlying30 (tn .l 31 t31 underlying31 .l)) 32 t32 underlying32 (tn (tn .l 35 t35 underlying35 .l) 36 t36 underlying36 .l)) 37 t37 underlying37 (tn (tn (tn .l 40 t40 underlying40 .l) 41 t41 underlying41 .l) 42 t42 underlying42 (tn (tn .l 43 t43 underlying43 .l) 47 t47 underlying47 .l))) 48 t48 underlying48 (tn (tn (tn (tn .l 49 t49 underlying49 .l) 50 t50 underlying50 .l) 51 t51 underlying51 (tn (tn .l 52 t52 underlying52 .l) 53 t53 underlying53 .l)) 54 t54 underlying54 (tn (tn (tn .l 55 t55 underlying55 .l) 56 t56 underlying56 .l) 59 t59 underlying59 (tn (tn .l 60 t60 underlying60 .l) 66 t66 underlying66 .l))))) 67 t67 underlying67 (tn (tn (tn (tn (tn (tn .l 68 t68 underlying68 .l) 71 t71 underlying71 (tn .l 72 t72 underlying72 .l)) 73 t73 underlying73 (tn (tn .l 74 t74 underlying74 .l) 75 t75 underlying75 .l)) 76 t76 underlying76 (tn (tn (tn .l 79 t79 underlying79 .l) 80 t80 underlying80 .l) 81 t81 underlying81 (tn (tn .l 82 t82 underlying82 .l) 83 t83 underlying83 .l))) 84 t84 underlying84 (tn (tn (tn (tn .l 85 t85 underlying85 .l) 87 t87 underlying87 (tn .l 89 t89 underlying89 .l)) 91 t91 underlying91 (tn (tn .l 92 t92 underlying92 .l) 94 t94 underlying94 .l)) 96 t96 underlying96 (tn (tn (tn .l 97 t97 underlying97 .l) 99 t99 underlying99 .l) 104 t104 underlying104 (tn (tn .l 107 t107 underlying107 .l) 108 t108 underlying108 .l)))) 112 t112 underlying112 (tn (tn (tn (tn (tn .l 113 t113 underlying113 .l) 118 t118 underlying118 (tn .l 119 t119 underlying119 .l)) 120 t120 underlying120 (tn (tn .l 121 t121 underlying121 .l) 123 t123 underlying123 .l)) 124 t124 underlying124 (tn (tn (tn .l 125 t125 underlying125 .l) 126 t126 underlying126 .l) 127 t127 underlying127 (tn (tn .l 128 t128 underlying128 .l) 129 t129 underlying129 .l))) 130 t130 underlying130 (tn (tn (tn (tn .l 131 t131 underlying131 .l) 133 t133 underlying133 .l) 134 t134 underlying134 (tn (tn .l 135 t135 underlying135 .l) 138 t138 underlying138 .l)) 139 t139 underlying139 (tn (tn (tn .l 140 t140 underlying140 .l) 146 t146 underlying146 .l) 147 t147 underlying147 (tn (tn .l 148 t148 underlying148 .l) 149 t149 underlying149 .l)))))) 158 t158 underlying158 (tn (tn (tn (tn (tn (tn (tn .l 159 t159 underlying159 .l) 160 t160 underlying160 (tn .l 162 t162 underlying162 .l)) 165 t165 underlying165 (tn (tn .l 166 t166 underlying166 .l) 169 t169 underlying169 .l)) 170 t170 underlying170 (tn (tn (tn .l 171 t171 underlying171 .l) 176 t176 underlying176 .l) 177 t177 underlying177 (tn (tn .l 183 t183 underlying183 .l) 186 t186 underlying186 .l))) 187 t187 underlying187 (tn (tn (tn (tn .l 189 t189 underlying189 .l) 190 t190 underlying190 (tn .l 192 t192 underlying192 .l)) 194 t194 underlying194 (tn (tn .l 197 t197 underlying197 .l) 201 t201 underlying201 .l)) 202 t202 underlying202 (tn (tn (tn .l 203 t203 underlying203 .l) 204 t204 underlying204 .l) 206 t206 underlying206 (tn (tn .l 207 t207 underlying207 .l) 208 t208 underlying208 .l)))) 209 t209 underlying209 (tn (tn (tn (tn (tn .l 211 t211 underlying211 .l) 212 t212 underlying212 (tn .l 214 t214 underlying214 .l)) 216 t216 underlying216 (tn (tn .l 219 t219 underlying219 .l) 222 t222 underlying222 .l)) 223 t223 underlying223 (tn (tn (tn .l 225 t225 underlying225 .l) 226 t226 underlying226 .l) 228 t228 underlying228 (tn (tn .l 233 t233 underlying233 .l) 243 t243 underlying243 .l))) 244 t244 underlying244 (tn (tn (tn (tn .l 245 t245 underlying245 .l) 246 t246 underlying246 .l) 247 t247 underlying247 (tn (tn .l 248 t248 underlying248 .l) 254 t254 underlying254 .l)) 255 t255 underlying255 (tn (tn (tn .l 261 t261 underlying261 .l) 262 t262 underlying262 .l) 266 t266 underlying266 (tn (tn .l 269 t269 underlying269 .l) 270 t270 underlying270 .l))))) 273 t273 underlying273 (tn (tn (tn (tn (tn (tn .l 279 t279 underlying279 .l) 283 t283 underlying283 (tn .l 284 t284 underlying284 .l)) 285 t285 underlying285 (tn (tn .l 286 t286 underlying286 .l) 287 t287 underlying287 .l)) 311 t311 underlying311 (tn (tn (tn .l 313 t313 underlying313 .l) 317 t317 underlying317 .l) 329 t329 underlying329 (tn (tn .l 332 t332 underlying332 .l) 333 t333 underlying333 .l))) 334 t334 underlying334 (tn (tn (tn (tn .l 335 t335 underlying335 .l) 336 t336 underlying336 .l) 337 t337 underlying337 (tn (tn .l 350 t350 underlying350 .l) 354 t354 underlying354 .l)) 361 t361 underlying361 (tn (tn (tn .l 363 t363 underlying363 .l) 375 t375 underlying375 .l) 376 t376 underlying376 (tn (tn .l 380 t380 underlying380 .l) 399 t399 underlying399 .l)))) 400 t400 underlying400 (tn (tn (tn (tn (tn .l 404 t404 underlying404 .l) 405 t405 underlying405 (tn .l 407 t407 underlying407 .l)) 414 t414 underlying414 (tn (tn .l 416 t416 underlying416 .l) 417 t417 underlying417 .l)) 418 t418 underlying418 (tn (tn (tn .l 419 t419 underlying419 .l) 427 t427 underlying427 .l) 428 t428 underlying428 (tn (tn .l 443 t443 underlying443 .l) 444 t444 underlying444 .l))) 449 t449 underlying449 (tn (tn (tn (tn .l 450 t450 underlying450 .l) 451 t451 underlying451 .l) 452 t452 underlying452 (tn (tn .l 453 t453 underlying453 .l) 454 t454 underlying454 .l)) 455 t455 underlying455 (tn (tn (tn .l 456 t456 underlying456 .l) 457 t457 underlying457 .l) 458 t458 underlying458 (tn (tn .l 459 t459 underlying459 .l) 460 t460 underlying460 .l)))))),by kernel_rfl,by kernel_rfl,Checked.mixed Tryz.checked⟩
theorem bTv:gJ Tryz.prog 26 2:=⟨isAgg26,sizeOf26⟩
theorem aZo:fN Tryz.prog 29:=⟨isAgg29,sizeOf29⟩
instance:I1 Tryz.prog 29:=⟨aZo⟩
theorem mT:fN Tryz.prog 3:=⟨isAgg3,sizeOf3⟩
instance:I1 Tryz.prog 3:=⟨mT⟩
theorem cEv:SliceTy Tryz.prog 30 92 3 24 (.agg #[.int .i64 0,.int .i64 0,.int .i64 0]):=⟨underlying30,⟨Tryz.t92,by kernel_rfl,rfl,rfl,rfl⟩,rfl,by decide⟩
instance:SO Tryz.prog 30 92 3:=⟨cEv.of⟩
theorem bZx:cQ Tryz.prog 26 0 0:=cL runUnderlying26 rfl rfl sizeOf3
theorem aUd:SliceTy Tryz.prog 36 49 4 32 (.agg #[.int .i64 0,.int .i64 0,.int .i64 0,.int .i64 0]):=⟨underlying36,⟨Tryz.t49,by kernel_rfl,rfl,rfl,rfl⟩,rfl,by decide⟩
instance:SO Tryz.prog 36 49 4:=⟨aUd.of⟩
theorem bGq:gJ Tryz.prog 49 4:=⟨isAgg49,sizeOf49⟩
theorem aXt:gJ Tryz.prog 81 2:=⟨isAgg81,sizeOf81⟩
theorem cAf:cQ Tryz.prog 97 1 2:=cL runUnderlying97 rfl rfl sizeOf24
instance:FA Tryz.prog 97 1 2:=⟨cAf⟩
theorem cKw:fN Tryz.prog 24:=⟨isAgg24,sizeOf24⟩
instance:I1 Tryz.prog 24:=⟨cKw⟩
theorem aUc:SliceTy Tryz.prog 24 3 1 8 (.int .i64 0):=⟨underlying24,⟨Tryz.t3,by kernel_rfl,rfl,rfl,rfl⟩,rfl,by decide⟩
instance:SO Tryz.prog 24 3 1:=⟨aUc.of⟩
theorem cJj:gJ Tryz.prog 97 6:=⟨isAgg97,sizeOf97⟩
theorem bAs:SliceTy Tryz.prog 35 97 6 80 (.agg #[.int .i64 0,.int .i64 0,.slice none 0 0,.slice none 0 0,.int .i64 0,.int .i64 0]):=⟨underlying35,⟨Tryz.t97,by kernel_rfl,rfl,rfl,rfl⟩,rfl,by decide⟩
instance:SO Tryz.prog 35 97 6:=⟨bAs.of⟩
theorem cKx:fN Tryz.prog 36:=⟨isAgg36,sizeOf36⟩
instance:I1 Tryz.prog 36:=⟨cKx⟩
theorem cEw:SliceTy Tryz.prog 54 60 5 40 (.agg #[.int .i64 0,.int .i64 0,.int .i64 0,.int .i64 0,.int .i64 0]):=⟨underlying54,⟨Tryz.t60,by kernel_rfl,rfl,rfl,rfl⟩,rfl,by decide⟩
instance:SO Tryz.prog 54 60 5:=⟨cEw.of⟩
theorem bZy:cQ Tryz.prog 26 1 1:=cL runUnderlying26 rfl rfl sizeOf24
theorem cDz:kU Tryz.prog 3 VI:=bVm underlying3
theorem cJh:gJ Tryz.prog 60 5:=⟨isAgg60,sizeOf60⟩
theorem cHz:mP Tryz.prog 140 (.agg #[.int .i64 0,.int .i64 0]) [(0,1),(1,1)]:=⟨zeroValue140,_,runUnderlying140,λw=>by simp[sizeOf3]⟩
theorem aTh:gJ Tryz.prog 140 2:=⟨isAgg140,sizeOf140⟩
theorem bHx:aDw Tryz.prog 60 aL:=by
  rintro⟨a0,a1,a2,a3,a4⟩ ⟨b0,b1,b2,b3,b4⟩ w
  simp[aL,bD,go_sem,Op.eqFields,Program.fieldsOf]<;>(repeat' split)<;>simp_all
instance:EQ Tryz.prog 60 aL:=⟨Tryz.eqGuardType60,bHx⟩

theorem cJr(b:Bool)(a:aA)(w:World):(Instr.checkKey b 10000 60 (.agg ((aL a).map bD).toArray)).run Tryz.prog w=.ok () w:=by
  obtain⟨a1,a2,a3,a4,a5⟩:=a;rw[show(10000:Nat)=9990+10 from rfl]
  generalize(9990:Nat)=m
  simp[Instr.checkKey,aL,bD,go_sem,Std.Legacy.Range.forIn_eq_forIn_range',Std.Legacy.Range.size]
theorem bIi:kU Tryz.prog 60 (λa:aA=>Value.agg ((aL a).map bD).toArray):=
  aCf underlying60 bHx cJr (λa w=>aOh _ rfl _ _) (by
    rintro⟨a1,a2,a3,a4,a5⟩ ⟨b1,b2,b3,b4,b5⟩ h
    simp[aL] at h|-
    simp_all) (λ_=>rfl)
theorem bBz:aDw Tryz.prog 140 aN:=by
  rintro⟨a0,a1⟩ ⟨b0,b1⟩ w
  simp[aN,bD,go_sem,Op.eqFields,Program.fieldsOf]<;>(repeat' split)<;>simp_all
instance:EQ Tryz.prog 140 aN:=⟨Tryz.eqGuardType140,bBz⟩

theorem cFq(b:Bool)(a:aB)(w:World):(Instr.checkKey b 10000 140 (.agg ((aN a).map bD).toArray)).run Tryz.prog w=.ok () w:=by
  obtain⟨a1,a2⟩:=a;rw[show(10000:Nat)=9990+10 from rfl]
  generalize(9990:Nat)=m
  simp[Instr.checkKey,aN,bD,go_sem,Std.Legacy.Range.forIn_eq_forIn_range',Std.Legacy.Range.size]
theorem aEi:kU Tryz.prog 140 (λa:aB=>Value.agg ((aN a).map bD).toArray):=
  aCf underlying140 bBz cFq (λa w=>aOh _ rfl _ _) (by
    rintro⟨a1,a2⟩ ⟨b1,b2⟩ h
    simp[aN] at h|-
    simp_all) (λ_=>rfl)
theorem bEc:cQ Tryz.prog 148 0 0:=cL runUnderlying148 rfl rfl sizeOf26
theorem bVd:cQ Tryz.prog 148 2 3:=cL runUnderlying148 rfl rfl sizeOf146
theorem cGz:fN Tryz.prog 146:=⟨isAgg146,sizeOf146⟩
theorem cLz:mP Tryz.prog 49 (.agg #[.int .i64 0,.int .i64 0,.int .i64 0,.int .i64 0]) [(0,1),(1,1),(2,1),(3,1)]:=⟨zeroValue49,_,runUnderlying49,λw=>by simp[sizeOf3]⟩
theorem cJi:gJ Tryz.prog 92 3:=⟨isAgg92,sizeOf92⟩
theorem cAd:cQ Tryz.prog 81 0 0:=cL runUnderlying81 rfl rfl sizeOf3
instance:FA Tryz.prog 81 0 0:=⟨cAd⟩
theorem aWe:cQ Tryz.prog 81 1 1:=cL runUnderlying81 rfl rfl sizeOf3
instance:FA Tryz.prog 81 1 1:=⟨aWe⟩
theorem aWc:cQ Tryz.prog 41 0 0:=cL runUnderlying41 rfl rfl sizeOf29
instance:FA Tryz.prog 41 0 0:=⟨aWc⟩
theorem aLa:SliceTy Tryz.prog 29 99 1 24 (.slice none 0 0):=⟨underlying29,⟨Tryz.t99,by kernel_rfl,rfl,rfl,rfl⟩,rfl,by decide⟩
theorem cAa:cQ Tryz.prog 41 1 1:=cL runUnderlying41 rfl rfl sizeOf3
instance:FA Tryz.prog 41 1 1:=⟨cAa⟩
theorem aOb:cQ Tryz.prog 41 2 2:=cL runUnderlying41 rfl rfl sizeOf35
theorem aZp:fN Tryz.prog 35:=⟨isAgg35,sizeOf35⟩
instance:I1 Tryz.prog 35:=⟨aZp⟩
theorem bJe:fN Tryz.prog 99:=⟨isAgg99,sizeOf99⟩
instance:I1 Tryz.prog 99:=⟨bJe⟩
theorem aLb:SliceTy Tryz.prog 99 81 2 16 (.agg #[.int .i64 0,.int .i64 0]):=⟨underlying99,⟨Tryz.t81,by kernel_rfl,rfl,rfl,rfl⟩,rfl,by decide⟩
instance:SO Tryz.prog 99 81 2:=⟨aLb.of⟩
theorem bId:cQ Tryz.prog 97 0 0:=cL runUnderlying97 rfl rfl sizeOf81
theorem cAg:cQ Tryz.prog 97 3 4:=cL runUnderlying97 rfl rfl sizeOf3
instance:FA Tryz.prog 97 3 4:=⟨cAg⟩
theorem cAh:cQ Tryz.prog 97 4 5:=cL runUnderlying97 rfl rfl sizeOf3
theorem bOe:fN Tryz.prog 135:=⟨isAgg135,sizeOf135⟩
theorem cAb:cQ Tryz.prog 49 2 2:=cL runUnderlying49 rfl rfl sizeOf3
instance:FA Tryz.prog 49 2 2:=⟨cAb⟩
theorem cAc:cQ Tryz.prog 49 3 3:=cL runUnderlying49 rfl rfl sizeOf3
instance:FA Tryz.prog 49 3 3:=⟨cAc⟩
theorem aLz:gJ Tryz.prog 41 3:=⟨isAgg41,sizeOf41⟩
theorem cIb:mP Tryz.prog 204 (.agg #[.slice none 0 0,.int .i64 0,.slice none 0 0,.int .i64 0,.slice none 0 0,.map none]) [(0,3),(3,1),(4,1),(5,1)]:=⟨zeroValue204,_,runUnderlying204,λw=>by simp[sizeOf202,sizeOf3,sizeOf41,sizeOf43]⟩
theorem bDc:mP Tryz.prog 212 (.agg #[.int .i64 0,.int .i64 0,.int .i64 0,.int .i64 0,.int .i64 0,.int .i64 0,.int .i64 0,.int .i64 0,.int .i64 0,.int .i64 0,.int .i64 0,.int .i64 0]) [(0,10),(10,1),(11,1)]:=⟨zeroValue212,_,runUnderlying212,λw=>by simp[sizeOf209,sizeOf3]⟩
theorem cIc:mP Tryz.prog 209 (.agg #[.int .i64 0,.int .i64 0,.int .i64 0,.int .i64 0,.int .i64 0,.int .i64 0,.int .i64 0,.int .i64 0,.int .i64 0,.int .i64 0]) [(0,1),(1,3),(4,6)]:=⟨zeroValue209,_,runUnderlying209,λw=>by simp[sizeOf206,sizeOf207,sizeOf3]⟩
theorem aRm:cQ Tryz.prog 209 1 1:=cL runUnderlying209 rfl rfl sizeOf206
instance:FA Tryz.prog 209 1 1:=⟨aRm⟩
theorem bBj:aXl Tryz.prog 206 3 3 1:=⟨runUnderlying206,sizeOf3⟩
theorem aLy:gJ Tryz.prog 209 10:=⟨isAgg209,sizeOf209⟩
theorem aRo:cQ Tryz.prog 212 1 10:=cL runUnderlying212 rfl rfl sizeOf3
theorem xK:cQ Tryz.prog 204 0 0:=cL runUnderlying204 rfl rfl sizeOf41
theorem bEd:cQ Tryz.prog 204 3 5:=cL runUnderlying204 rfl rfl sizeOf202
theorem bOf:fN Tryz.prog 202:=⟨isAgg202,sizeOf202⟩
theorem aHz:gJ Tryz.prog 212 12:=⟨isAgg212,sizeOf212⟩
theorem cGc(d:Nat)(xs ys:Array Value)(w:World):(Op.equalIn (d+1) 206 (.agg xs) (.agg ys)).run Tryz.prog w=(Op.eqItems d 3 1 xs ys [0,1,2]).run Tryz.prog w:=run_equalIn_array w d xs ys underlying206 (by kernel_rfl:Tryz.prog.info? 3=some Tryz.t3)
theorem cGd(d:Nat)(xs ys:Array Value)(w:World):(Op.equalIn (d+1) 207 (.agg xs) (.agg ys)).run Tryz.prog w=(Op.eqItems d 3 1 xs ys [0,1,2,3,4,5]).run Tryz.prog w:=run_equalIn_array w d xs ys underlying207 (by kernel_rfl:Tryz.prog.info? 3=some Tryz.t3)
theorem bNn:aDw Tryz.prog 212 aM:=by
  rintro⟨⟨a1,⟨a2,a3,a4⟩,⟨a5,a6,a7,a8,a9,a⟩⟩,b,c⟩ ⟨⟨b1,⟨b2,b3,b4⟩,⟨b5,b6,b7,b8,b9,d⟩⟩,e,f⟩ w;rw[show(10000:Nat)=9990+10 from rfl]
  generalize(9990:Nat)=m
  simp[aM,bD,go_sem,Op.eqFields,Program.fieldsOf,Op.eqItems,cGc,cGd]<;>(repeat' split)<;>simp_all
instance:EQ Tryz.prog 212 aM:=⟨Tryz.eqGuardType212,bNn⟩

theorem cFr(b:Bool)(a:aE)(w:World):(Instr.checkKey b 10000 212 (.agg ((aM a).map bD).toArray)).run Tryz.prog w=.ok () w:=by
  obtain⟨⟨a1,⟨a2,a3,a4⟩,⟨a5,a6,a7,a8,a9,c⟩⟩,d,e⟩:=a;rw[show(10000:Nat)=9990+10 from rfl]
  generalize(9990:Nat)=m
  simp[Instr.checkKey,aM,bD,go_sem,Std.Legacy.Range.forIn_eq_forIn_range',Std.Legacy.Range.size,List.range']
theorem bCd:kU Tryz.prog 212 (λa:aE=>Value.agg ((aM a).map bD).toArray):=
  aCf underlying212 bNn cFr (λa w=>aOh _ rfl _ _) (by
    rintro⟨⟨a1,⟨a2,a3,a4⟩,⟨a5,a6,a7,a8,a9,b⟩⟩,c,d⟩ ⟨⟨b1,⟨b2,b3,b4⟩,⟨b5,b6,b7,b8,b9,e⟩⟩,f,g⟩ h
    simp[aM] at h|-
    simp_all) (λ_=>rfl)
theorem aRn:cQ Tryz.prog 212 0 0:=cL runUnderlying212 rfl rfl sizeOf209
instance:FA Tryz.prog 212 0 0:=⟨aRn⟩
theorem bVf:cQ Tryz.prog 209 0 0:=cL runUnderlying209 rfl rfl sizeOf3
instance:FA Tryz.prog 209 0 0:=⟨bVf⟩
theorem bVe:cQ Tryz.prog 204 1 3:=cL runUnderlying204 rfl rfl sizeOf3
theorem bXu:mP Tryz.prog 51 (.agg #[.int .i64 0,.int .i64 0,.int .i64 0]) [(0,1),(1,1),(2,1)]:=⟨zeroValue51,_,runUnderlying51,λw=>by simp[sizeOf3]⟩
theorem aRp:cQ Tryz.prog 212 2 11:=cL runUnderlying212 rfl rfl sizeOf3
instance:FA Tryz.prog 212 2 11:=⟨aRp⟩
theorem aIo:gJ Tryz.prog 51 3:=⟨isAgg51,sizeOf51⟩
theorem bGc:SliceTy Tryz.prog 43 51 3 24 (.agg #[.int .i64 0,.int .i64 0,.int .i64 0]):=⟨underlying43,⟨Tryz.t51,by kernel_rfl,rfl,rfl,rfl⟩,rfl,by decide⟩
theorem aRl:cQ Tryz.prog 204 2 4:=cL runUnderlying204 rfl rfl sizeOf43
theorem bJd:fN Tryz.prog 43:=⟨isAgg43,sizeOf43⟩
theorem cJw:aDw Tryz.prog 51 aK:=by
  rintro⟨a0,a1,a2⟩ ⟨b0,b1,b2⟩ w
  simp[aK,bD,go_sem,Op.eqFields,Program.fieldsOf]<;>(repeat' split)<;>simp_all
instance:EQ Tryz.prog 51 aK:=⟨Tryz.eqGuardType51,cJw⟩

theorem bIa:cQ Tryz.prog 51 2 2:=cL runUnderlying51 rfl rfl sizeOf3
theorem aWd:cQ Tryz.prog 51 0 0:=cL runUnderlying51 rfl rfl sizeOf3
instance:FA Tryz.prog 51 0 0:=⟨aWd⟩
theorem bEe:cQ Tryz.prog 209 2 4:=cL runUnderlying209 rfl rfl sizeOf207
theorem cFe:gJ Tryz.prog 207 6:=⟨isAgg207,sizeOf207⟩
theorem bMz:aXl Tryz.prog 207 6 3 1:=⟨runUnderlying207,sizeOf3⟩
theorem cEx:SliceTy Tryz.prog 72 126 2 16 (.agg #[.int .i64 0,.int .i64 0]):=⟨underlying72,⟨Tryz.t126,by kernel_rfl,rfl,rfl,rfl⟩,rfl,by decide⟩
instance:SO Tryz.prog 72 126 2:=⟨cEx.of⟩
theorem bMu:gJ Tryz.prog 126 2:=⟨isAgg126,sizeOf126⟩
theorem cEy:SliceTy Tryz.prog 73 128 3 24 (.agg #[.int .i64 0,.int .i64 0,.int .i64 0]):=⟨underlying73,⟨Tryz.t128,by kernel_rfl,rfl,rfl,rfl⟩,rfl,by decide⟩
instance:SO Tryz.prog 73 128 3:=⟨cEy.of⟩
theorem bMv:gJ Tryz.prog 128 3:=⟨isAgg128,sizeOf128⟩
theorem bSr:SliceTy Tryz.prog 74 130 4 32 (.agg #[.int .i64 0,.int .i64 0,.int .i64 0,.int .i64 0]):=⟨underlying74,⟨Tryz.t130,by kernel_rfl,rfl,rfl,rfl⟩,rfl,by decide⟩
theorem bMw:gJ Tryz.prog 130 4:=⟨isAgg130,sizeOf130⟩
theorem bNm:aDw Tryz.prog 130 bP:=by
  rintro⟨a0,a1,a2,a3⟩ ⟨b0,b1,b2,b3⟩ w
  simp[bP,bD,go_sem,Op.eqFields,Program.fieldsOf]<;>(repeat' split)<;>simp_all
instance:EQ Tryz.prog 130 bP:=⟨Tryz.eqGuardType130,bNm⟩

theorem bTw:gJ Tryz.prog 83 7:=⟨isAgg83,sizeOf83⟩
theorem cEz:SliceTy Tryz.prog 79 134 4 32 (.agg #[.int .i64 0,.int .i64 0,.int .i64 0,.int .i64 0]):=⟨underlying79,⟨Tryz.t134,by kernel_rfl,rfl,rfl,rfl⟩,rfl,by decide⟩
instance:SO Tryz.prog 79 134 4:=⟨cEz.of⟩
theorem bIc:cQ Tryz.prog 83 0 0:=cL runUnderlying83 rfl rfl sizeOf3
theorem cAe:cQ Tryz.prog 83 2 2:=cL runUnderlying83 rfl rfl sizeOf3
instance:FA Tryz.prog 83 2 2:=⟨cAe⟩
theorem cFd:gJ Tryz.prog 134 4:=⟨isAgg134,sizeOf134⟩
theorem bAr:SliceTy Tryz.prog 183 187 2 16 (.agg #[.int .i64 0,.int .i64 0]):=⟨underlying183,⟨Tryz.t187,by kernel_rfl,rfl,rfl,rfl⟩,rfl,by decide⟩
instance:SO Tryz.prog 183 187 2:=⟨bAr.of⟩
theorem cHb:fN Tryz.prog 183:=⟨isAgg183,sizeOf183⟩
instance:I1 Tryz.prog 183:=⟨cHb⟩
theorem bMx:gJ Tryz.prog 187 2:=⟨isAgg187,sizeOf187⟩
theorem cIa:mP Tryz.prog 187 (.agg #[.int .i64 0,.int .i64 0]) [(0,1),(1,1)]:=⟨zeroValue187,_,runUnderlying187,λw=>by simp[sizeOf3]⟩
theorem aId:aDw Tryz.prog 119 cN:=by
  rintro⟨a0,a1⟩ ⟨b0,b1⟩ w
  simp[cN,bD,go_sem,Op.eqFields,Program.fieldsOf]<;>(repeat' split)<;>simp_all
instance:EQ Tryz.prog 119 cN:=⟨Tryz.eqGuardType119,aId⟩

instance bZd(f:Int)(e:Int)(c:Int):KC Tryz.prog (iA f e c) 167 [.i f,.i e,.i c] (λr:Bool=>(.b r)):=⟨call167,λr h=>fnw xT {} func167 results167 ntmps167⟩

instance bZb(g:aD):KC Tryz.prog (tQ g) 86 [.agg (bU g)] (λr:Bool=>(.b r)):=⟨call86,λr h=>by
 refine fnx xT {} _ func86 results86 ntmps86 ?_
 repeat' ((conv=>whnf);first|(refine S2 ?_ ?_<;>intro _ _ h)|(refine S1 ?_;intro _ _ h)|refine omm false ?_|(refine xl2 [1,3,21,22] [1] (F:=lD _ _ _) (λ(a:Int) (b:(List (Int×Int)))=>([(23,.i a)],[(19,.map false (b.map λp:Int×Int=>(VI p.1,aP p.2)))])) h eB ?_;intro k a b h)|refine cEj ?_|refine olk (enc:=aP) (agg:=false) (z:=0) cDz underlying266 zeroValue3 (λ_ _=>.d (.lit _ rfl)) (aKk (kv:=VI) _) ?_|refine oup (enc:=aP) (agg:=false) cDz underlying266 (aKk (kv:=VI) _) ?_|exact S0)⟩

theorem aGg(e:List aA)(f:aA->Option Bool){r:Int}(a:Nat)(c:List AV)(j:∀args w,(callFunc a args).run Tryz.prog w=.ok (.enter a args) w)(l:∀(x0:aA) r,f x0=some r->Fn Tryz.prog a ([.agg (aL x0)]++c) (.b r))(h:jV e f=some r):Fn Tryz.prog 168 [.d (.sl 5 (e.map aL)),.fn a c] (.i r):=by
 unfold jV at h;refine oT [.tmp 4] func168 results168 ntmps168 ?_;refine au 12 ?_;refine fC (S:=Int) [0,1,7] (λs1=>[(8,.i s1)]) (λs1=>[]) (λk s1=>eN e f (e.length:Int) k s1) (λ_=>rfl) (0) h (bE [] rfl rfl (bG rfl (bL (ae rfl)))) ?_;rintro k2 g h;simp only[eN] at h;refine au 5 ?_;refine tih h (λc3 h=>?_) (λc3 h=>?_)
 ·refine au 10 ?_;refine tm (.fn a c) (au 2 ?_);obtain⟨x4,h5,h⟩:=bns h;refine to (six rfl rfl cEw.of (fM aL h5)) (to (aDd (aL x4) rfl cJh) ?_);obtain⟨r6,h7,h⟩:=bns h;refine to (pB (aC rfl) (.clo _ _ _ _ j rfl) (aEg rfl) rfl (BVs.refl _ _) (l _ _ h7) rfl) ?_;refine aZ ?_;refine tih h (λc8 h=>?_) (λc8 h=>?_)
  ·refine au 5 ?_;obtain rfl:=sIn h;exact rt
  ·refine nD ?_;refine au 4 ?_;exact⟨(w64 (g+1)),h,bE [] rfl rfl (bG rfl (bL (ae rfl)))⟩
 ·refine eU ?_;refine .inl ⟨rfl,?_⟩;simp only[oH] at h;refine au 4 ?_;obtain rfl:=sIn h;exact rt

theorem aDe(c:List aA)(m:aA->Option Bool){r:Bool}(e:Nat)(f:List AV)(j:∀args w,(callFunc e args).run Tryz.prog w=.ok (.enter e args) w)(l:∀(x0:aA) r,m x0=some r->Fn Tryz.prog e ([.agg (aL x0)]++f) (.b r))(h:iF c m=some r):Fn Tryz.prog 87 [.d (.sl 5 (c.map aL)),.fn e f] (.b r):=by
 unfold iF at h;refine oT [.tmp 4] func87 results87 ntmps87 ?_;refine au 7 ?_;refine tm (.fn e f) ?_;obtain⟨r1,h2,h⟩:=bns h;refine to (scr call168 (aGg _ _ e f j l h2)) (au 3 ?_);obtain rfl:=sIn h;exact rt

instance bUd(n:aB)(o:aD):KC Tryz.prog (qY n o) 92 [.agg (aN n),.agg (bU o)] (λr:Bool=>(.b r)):=⟨call92,λr h=>fnw xT {} func92 results92 ntmps92⟩

instance bXr(c:List Int)(g:Int):KC Tryz.prog (iY c g) 94 [.d (.sl 1 (c.map aP)),.i g] (λr:Int=>(.i r)):=⟨call94,λr h=>by
 refine fnx xT {} _ func94 results94 ntmps94 ?_
 repeat' ((conv=>whnf);first|(refine S2 ?_ ?_<;>intro _ _ h)|(refine S1 ?_;intro _ _ h)|(refine xl1 [0,1,7] [] (F:=fX _ _ _) (λ(a:Int)=>([(8,.i a)],[])) h eB ?_;intro k a h)|exact S0)⟩

instance pO(c:List Int)(g:Int):KC Tryz.prog (cJ c g) 53 [.d (.sl 1 (c.map aP)),.i g] (λr:Bool=>(.b r)):=⟨call53,λr h=>fnw xT {} func53 results53 ntmps53⟩

instance bZa(p:aD)(q:aA):KC Tryz.prog (yK p q) 89 [.agg (bU p),.agg (aL q)] (λr:Bool=>(.b r)):=⟨call89,λr h=>fnw xT {} func89 results89 ntmps89⟩

instance bZc(c:aA)(s:aD):KC Tryz.prog (tR c s) 88 [.agg (aL c),.cp (bU s)] (λr:Bool=>(.b r)):=⟨call88,λr h=>fnw xT {} func88 results88 ntmps88⟩

theorem rR(a:List Int){r:(List Int)}(h:kQ a=some r):aX Tryz.prog 169 [.d (Z12 a)] [] (λr' o'=>∃(w0:Value),r'=.d (.lit w0)/\o'=[.arr w0 3 1 (r.map aP)]):=by
 unfold kQ at h;refine fng xT {ow:=[2,2,5],nd:=[4]} false [] [.d (Z12 a)] [] [.tmp 2] func169 results169 ntmps169 ?_;refine onl underlying24 λb2 h3=>?_;refine ob2 (λc4=>?_) λ_=>?_
 ·obtain rfl:=aOr (h3 c4)
  simp[app] at h
  subst h;exact⟨rfl,[70002],λ_ _ s=>⟨s 70002,rfl,by kernel_rfl⟩⟩
 ·refine oap h λx6 h=>?_;cases h;exact⟨rfl,[7],λ_ _ s=>⟨s 7,rfl,by kernel_rfl⟩⟩

theorem aDk(t:aD)(pl:List Int)(lucky:List (aA×Int))(slot:Int)(dw:D){Q:(aA×Bool)->Prop}(h:jJ t pl lucky slot Q):aX Tryz.prog 217 (Z10 t pl dw lucky slot) [] (λr' o'=>∃(r:aA×Bool),Q r/\r'=.tup [.agg (aL r.1),.b r.2]/\o'=[]):=by
 unfold jJ at h;refine fng xT {nd:=[10,11]} false [] (Z10 t pl dw lucky slot) [] [.cell 6 60,.tmp 7] func217 results217 ntmps217 ?_;refine bJh (kv:=λa:aA=>Value.agg ((aL a).map bD).toArray) (enc:=aP) (agg:=false) (l:=lucky) (av:=λv:Int=>.i v) 80020 80021 (λ_=>rfl) underlying269 ?_;intro q r bs ck hq;have h:=aSh h hq;refine aEz [0,2,6,10] [6,80020] (λ(seen:List Nat)=>([],[(80021,.raw (.iter q r ck seen ck))])) (λk seen=>iR Q slot pl t lucky k (aA.mk 0 0 0 0 0) (dG lucky bs seen)) [] h (lev []) ?_;rintro k seen h;simp only[iR] at h;refine bJf (kv:=λa:aA=>Value.agg ((aL a).map bD).toArray) (av:=λv:Int=>.i v) (l:=lucky) 80020 80021 ?_ ?_
 ·intro hn;have h:=h.1 hn;refine obf ?_;simp only[qE] at h;exact⟨rfl,[],rfl,λ_ _ _=>⟨_,h,rfl,by kernel_rfl⟩⟩
 ·intro j b p hp;have h:=aVh h hp;refine obt ?_;refine bJb (kv:=λa:aA=>Value.agg ((aL a).map bD).toArray) (av:=λv:Int=>.i v) (l:=lucky) (ka:=.agg (aL p.1)) 80020 80021 hp (λ_ _=>.agg (aBe rfl)) ?_;refine⟨by kernel_rfl,?_⟩;obtain⟨b9,c,h⟩:=xP h;refine jo c (λx h=>?_) λb9 c=>?_
  ·refine br h (λh=>?_) λh=>?_
   ·refine oi h λx8 h=>?_;exact⟨by kernel_rfl,jt h⟩
   ·exact⟨by kernel_rfl,jt h⟩
  ·cases c;refine⟨by kernel_rfl,?_⟩;refine brp h (λh=>?_) λh=>?_
   ·exact⟨rfl,[],rfl,λ_ _ _=>⟨_,h,rfl,by kernel_rfl⟩⟩
   ·exact⟨seen++[b],h,lev []⟩

theorem aLh(c:aD)(e:List Int)(t:List (aA×Int)){Q:(Bool×(List Int)×(List (aA×Int)))->Prop}{d_0_b d_0_o:Nat}{d_0_players_v:Value}{d_0_won_r:Nat}{lucky_1_r:Nat}(h:mR c e t Q):aX Tryz.prog 170 [.bp d_0_b d_0_o 0,.d (.lit (.map (some lucky_1_r)))] [.box d_0_b d_0_o [.j c.Rounds,.sl 1 (c.Slots.map aP),.lit d_0_players_v,.lit (.map (some d_0_won_r))],.arr d_0_players_v 3 1 (e.map aP),mx lucky_1_r false (t.map λp:aA×Int=>((λa:aA=>Value.agg ((aL a).map bD).toArray) p.1,aP p.2))] (λr' o'=>∃(r:Bool×(List Int)×(List (aA×Int))),Q r/\r'=.b r.1/\o'=[.box d_0_b d_0_o [.j c.Rounds,.sl 1 (c.Slots.map aP),.lit d_0_players_v,.lit (.map (some d_0_won_r))],.arr d_0_players_v 3 1 (r.2.1.map aP),mx lucky_1_r false (r.2.2.map λp:aA×Int=>((λa:aA=>Value.agg ((aL a).map bD).toArray) p.1,aP p.2))]):=by
 unfold mR at h;refine fng xT {nd:=[27,35]} false [(d_0_b,d_0_o,undef),(0,0,d_0_players_v),(lucky_1_r,0,undef)] [.bp 100000 0 0,.d (.hv 1 100002 0)] [(100000,.box [.j c.Rounds,.sl 1 (c.Slots.map aP),.hv 0 100001 0,.lit (.map (some d_0_won_r))]),(100001,.arr 3 1 (e.map aP)),(100002,.map false (t.map λp:aA×Int=>((λa:aA=>Value.agg ((aL a).map bD).toArray) p.1,aP p.2)))] [.tmp 4] func170 results170 ntmps170 ?_;obtain⟨r1,q,h⟩:=xP h;refine cow call169 (λ_=>rR _) q λr1 q=>?_;cases q;refine ol ?_;refine aEz [0,1,19] [100000] (λ((j,u,f,o):Int×(List Int)×(List (aA×Int))×(List Int))=>([(5,.d (.hv 0 14 0)),(20,.i j)],[(100001,.arr 3 1 (u.map aP)),(100002,.map false (f.map λp:aA×Int=>((λa:aA=>Value.agg ((aL a).map bD).toArray) p.1,aP p.2))),(14,.arr 3 1 (o.map aP))])) (λk ((j,u,f,o):Int×(List Int)×(List (aA×Int))×(List Int))=>cT Q (e.length:Int) c k j u f o) (0,e,t,r1) h (lev []) ?_;rintro k5 ⟨j,u,f,o⟩ h;simp only[cT] at h;refine brp h (λh=>?_) λh=>?_
 ·refine cgl call217 (aDk _ _ _ _ _ h) λr6 h=>?_;refine aEz [0,1,6,19,20] [100000] (λ((v,n,g,m,s):Bool×(List Int)×(List (aA×Int))×aA×(List Int))=>([(5,.d (.hv 0 14 0)),(7,.bp 7 0 0),(8,.b v)],[(100001,.arr 3 1 (n.map aP)),(100002,.map false (g.map λp:aA×Int=>((λa:aA=>Value.agg ((aL a).map bD).toArray) p.1,aP p.2))),(7,.box (aL m)),(14,.arr 3 1 (s.map aP))])) (λk ((v,n,g,m,s):Bool×(List Int)×(List (aA×Int))×aA×(List Int))=>dT Q (cT Q (e.length:Int) c k5) j (e.length:Int) j c k v n g m s) (r6.2,u,f,r6.1,o) h (lev []) ?_;rintro k9 ⟨v,n,g,m,s⟩ h;simp only[dT] at h;refine brp h (λh=>?_) λh=>?_
  ·obtain⟨A,q,h⟩:=xP h;refine cl call53 KC.h q λA q=>?_;cases q;refine brp h (λh=>?_) λh=>?_
   ·exact⟨rfl,[100000,100001,100002],λ_ _ _=>⟨(false,n,g),h,rfl,by kernel_rfl⟩⟩
   ·refine⟨by kernel_rfl,?_⟩;obtain⟨B,q,h⟩:=xP h;refine oiy q λB C q=>?_;cases q;refine⟨rfl,_,((n.set j.toNat m.Player)).map aP,xZ aP C,f5 rfl,cHu _ _ _ _ rfl,?_⟩;refine⟨by kernel_rfl,?_⟩;obtain⟨y,q,h⟩:=xP h;refine oap q λy q=>?_;cases q;refine cOn (enc:=aP) (agg:=false) (a:=m) bIi underlying269 (jL (enc:=aL) m rfl) ?_;refine cgl call217 (aDk _ _ _ _ _ h) λz h=>?_;exact⟨(z.2,(n.set j.toNat m.Player),(uA m g),z.1,y),h,lev [(7,70007),(14,54)]⟩
  ·simp only[nV] at h;simp only[nU] at h;exact⟨(w64 (j+1),n,g,s),h,lev []⟩
 ·simp only[nT] at h;refine olm (kv:=(λa:aA=>Value.agg ((aL a).map bD).toArray)) (enc:=aP) (l:=f) underlying269 ?_;exact⟨rfl,[100000,100001,100002],λ_ _ _=>⟨(decide ((f.length:Int)=0),u,f),h,rfl,by kernel_rfl⟩⟩

instance cJo(w:Int)(x:Int):KC Tryz.prog (yL w x) 172 [.i w,.i x] (λr:aB=>(.agg (aN r))):=⟨call172,λr h=>fnw xT {} func172 results172 ntmps172⟩

theorem aDm(c:aD)(e:List Int)(f:List (aB×Int))(j:Int)(g:Int){r:Bool×(List (aB×Int))}{d_0_b d_0_o:Nat}{d_0_players_v:Value}{d_0_won_r:Nat}(h:pZ c e f j g=some r):aX Tryz.prog 171 [.bp d_0_b d_0_o 0,.i j,.i g] [.box d_0_b d_0_o [.j c.Rounds,.sl 1 (c.Slots.map aP),.lit d_0_players_v,.lit (.map (some d_0_won_r))],.arr d_0_players_v 3 1 (e.map aP),mx d_0_won_r false (f.map λp:aB×Int=>((λa:aB=>Value.agg ((aN a).map bD).toArray) p.1,aP p.2))] (λr' o'=>r'=.b r.1/\o'=[.box d_0_b d_0_o [.j c.Rounds,.sl 1 (c.Slots.map aP),.lit d_0_players_v,.lit (.map (some d_0_won_r))],.arr d_0_players_v 3 1 (e.map aP),mx d_0_won_r false (r.2.map λp:aB×Int=>((λa:aB=>Value.agg ((aN a).map bD).toArray) p.1,aP p.2))]):=by
 refine fng xT {} false [(d_0_b,d_0_o,undef),(0,0,d_0_players_v),(d_0_won_r,0,undef)] [.bp 100000 0 0,.i j,.i g] [(100000,.box [.j c.Rounds,.sl 1 (c.Slots.map aP),.hv 0 100001 0,.hv 1 100002 0]),(100001,.arr 3 1 (e.map aP)),(100002,.map false (f.map λp:aB×Int=>((λa:aB=>Value.agg ((aN a).map bD).toArray) p.1,aP p.2)))] [.tmp 6] func171 results171 ntmps171 ?_
 repeat' ((conv=>whnf);first|(refine S2 ?_ ?_<;>intro _ _ h)|(refine S1 ?_;intro _ _ h)|(refine xl2 [0,1,12] [100001,100000] (F:=kV _ _ _ _) (λ(a:Int) (b:(List (aB×Int)))=>([(13,.i a)],[(100002,.map false (b.map λp:aB×Int=>((λa:aB=>Value.agg ((aN a).map bD).toArray) p.1,aP p.2)))])) h eB ?_;intro k a b h)|refine cBm (enc:=aP) (agg:=false) (z:=0) aEi underlying146 zeroValue3 (λ_ _=>.d (.lit _ rfl)) (jL (enc:=aN) _ rfl) ?_|refine oup (enc:=aP) (agg:=false) aEi underlying146 (jL (enc:=aN) _ rfl) ?_|exact S0)

theorem aYf(n:aD)(A:List aA){Q:((Option bJ)×Bool)->Prop}(h:vP n A Q):aX Tryz.prog 90 (Z2 n A) [] (λr' o'=>∃(r:(Option bJ)×Bool),Q r/\r'=.tup [zY dV r.1,.b r.2]/\o'=[]):=by
 unfold vP at h;refine fng xT {nd:=[66,86,87,114],lt:=[(86,[27])],lr:=[(7,[500026])]} false [] (Z2 n A) [] [.tmp 4,.tmp 5] func90 results90 ntmps90 ?_;refine⟨by kernel_rfl,?_⟩;obtain⟨r2,q,h⟩:=xP h;refine cow call169 (λ_=>rR _) q λr2 q=>?_;cases q;refine omm false ?_;refine⟨by kernel_rfl,?_⟩;refine omm false ?_;refine omm true ?_;refine ol ?_;refine aEz [6,7,8,28,29] [22,23,25] (λ((o,e,c):Int×(List (aA×Int))×(List (aB×aA)))=>([(30,.i o)],[(26,.map false (e.map λp:aA×Int=>((λa:aA=>Value.agg ((aL a).map bD).toArray) p.1,aP p.2))),(27,.map true (c.map λp:aB×aA=>((λa:aB=>Value.agg ((aN a).map bD).toArray) p.1,aL p.2)))])) (λk ((o,e,c):Int×(List (aA×Int))×(List (aB×aA)))=>iO Q A (A.length:Int) r2 ([]:List (aB×Int)) n k o e c) (0,([]:List (aA×Int)),([]:List (aB×aA))) h (lev []) ?_;rintro U ⟨o,e,c⟩ h;simp only[iO] at h;refine brp h (λh=>?_) λh=>?_
 ·obtain⟨f,q,h⟩:=xP h;refine oi q λf q=>?_;cases q;refine brp h (λh=>?_) λh=>?_
  ·refine omq (λa:aA=>Value.agg ((aL a).map bD).toArray) aP false e f 0 ?_;refine⟨by kernel_rfl,?_⟩;refine cOr (enc:=aP) (agg:=false) (z:=0) (a:=f) bIi underlying269 zeroValue3 (λ_ _=>.d (.lit _ rfl)) (jL (enc:=aL) f rfl) ?_;refine cOt (enc:=aP) (agg:=false) (z:=0) (a:=f) bIi underlying269 zeroValue3 (λ_ _=>.d (.lit _ rfl)) (jL (enc:=aL) f rfl) ?_;refine cOo (kv:=(λa:aA=>Value.agg ((aL a).map bD).toArray)) (enc:=aP) (agg:=false) (l:=e) (z:=0) (v:=w64 ((bW f 0 e)+1)) (a:=f) ?_;refine⟨by kernel_rfl,?_⟩;exact⟨(w64 (o+1),(dE f (w64 ((bW f 0 e)+1)) e),c),h,lev []⟩
  ·refine cBm (enc:=aL) (agg:=true) (z:=(aA.mk 0 0 0 0 0)) (a:=(aB.mk f.Round f.Place)) aEi underlying270 zeroValue60 (λ_ _=>.agg (aBe rfl)) (jL (enc:=aN) (aB.mk f.Round f.Place) rfl) ?_;obtain⟨H,q,h⟩:=xP h;refine jg q (λx h=>?_) λH q=>?_
   ·refine br h (λh=>?_) λh=>?_
    ·refine bRm (a:=(bW (aB.mk f.Round f.Place) (aA.mk 0 0 0 0 0) c)) (b:=f) Tryz.eqGuardType60 bHx ?_;exact jt h
    ·exact jt h
   ·cases q;refine brp h (λh=>?_) λh=>?_
    ·exact⟨rfl,[],rfl,λ_ _ _=>⟨((none:Option bJ),false),h,rfl,by kernel_rfl⟩⟩
    ·refine oup (enc:=aL) (agg:=true) (v:=f) (a:=(aB.mk f.Round f.Place)) aEi underlying270 (jL (enc:=aN) (aB.mk f.Round f.Place) rfl) ?_;exact⟨(w64 (o+1),e,(dE (aB.mk f.Round f.Place) f c)),h,lev []⟩
 ·simp only[uW] at h;refine cgm (α:=Bool×(List Int)×(List (aA×Int))) [(25,_),(22,_),(26,_)] (λs=>.b s.1) (λs=>[some (Z9 n),some (.arr 3 1 (s.2.1.map aP)),some (.map false (s.2.2.map λp:aA×Int=>((λa:aA=>Value.agg ((aL a).map bD).toArray) p.1,aP p.2)))]) call170 (λq=>⟨_,aLh (d_0_b:=q.bb 25) (d_0_o:=q.oo 25) (d_0_players_v:=q.ss 22) (d_0_won_r:=q.bb 23) (lucky_1_r:=q.bb 26) n r2 e h,λ_ _ ⟨y,h,e1,e2⟩=>⟨y,h,[],e1,e2.trans (by kernel_rfl)⟩⟩) λs h=>?_;refine brp h (λh=>?_) λh=>?_
  ·exact⟨rfl,[],rfl,λ_ _ _=>⟨((none:Option bJ),false),h,rfl,by kernel_rfl⟩⟩
  ·refine ol ?_;refine aEz [6,8,71,72] [22,25,27] (λ((g,j):Int×(List (aB×Int)))=>([(73,.i g)],[(23,.map false (j.map λp:aB×Int=>((λa:aB=>Value.agg ((aN a).map bD).toArray) p.1,aP p.2)))])) (λk ((g,j):Int×(List (aB×Int)))=>iP Q (s.2.1.length:Int) s.2.1 n c k g j) (0,([]:List (aB×Int))) h (lev []) ?_;rintro V ⟨g,j⟩ h;simp only[iP] at h;refine brp h (λh=>?_) λh=>?_
   ·obtain⟨I,q,h⟩:=xP h;refine oiy q λI K q=>?_;cases q;refine⟨rfl,_,xZ aP K,?_⟩;refine brp h (λh=>?_) λh=>?_
    ·refine cEj ?_;obtain⟨u,q,h⟩:=xP h;refine cg (α:=Bool×(List (aB×Int))) [(25,_),(22,_),(23,_)] [] (λu=>.b u.1) (λu=>[some (Z9 n),some (.arr 3 1 (s.2.1.map aP)),some (.map false (u.2.map λp:aB×Int=>((λa:aB=>Value.agg ((aN a).map bD).toArray) p.1,aP p.2)))]) (λ_=>[]) call171 (λ_ h q=>⟨_,aDm (d_0_b:=q.bb 25) (d_0_o:=q.oo 25) (d_0_players_v:=q.ss 22) (d_0_won_r:=q.bb 23) n s.2.1 j (bBk g 1) 0 h,λ_ _ ⟨e1,e2⟩=>⟨_,rfl,[],e1,e2.trans (by kernel_rfl)⟩⟩) q λu q=>?_;cases q;exact⟨(w64 (g+1),u.2),h,lev []⟩
    ·exact⟨(w64 (g+1),j),h,lev []⟩
   ·simp only[uX] at h;refine bJh (kv:=(λa:aB=>Value.agg ((aN a).map bD).toArray)) (enc:=aL) (agg:=true) (l:=c) (av:=(λv:aA=>AV.agg (aL v))) 80172 80173 (λ_=>rfl) underlying270 ?_;intro L M G B N;have h:=aSh h N;refine aEz [6,86] [22,25,80172] (λ((m,t):(List (aB×Int))×(List Nat))=>([],[(23,.map false (m.map λp:aB×Int=>((λa:aB=>Value.agg ((aN a).map bD).toArray) p.1,aP p.2))),(80173,.raw (.iter L M B t B))])) (λk ((m,t):(List (aB×Int))×(List Nat))=>lT Q s.2.1 n c k m (dG c G t)) (j,[]) h (lev []) ?_;rintro W ⟨m,t⟩ h;simp only[lT] at h;refine bJf (kv:=(λa:aB=>Value.agg ((aN a).map bD).toArray)) (av:=(λv:aA=>AV.agg (aL v))) (l:=c) 80172 80173 ?_ ?_
    ·intro O;have h:=h.1 O;refine obf ?_;simp only[aAf] at h;exact⟨rfl,[],rfl,λ_ _ _=>⟨((some (bJ.mk n s.2.1 m)),true),h,rfl,by kernel_rfl⟩⟩
    ·intro X P C E;have h:=aVh h E;refine obt ?_;refine bJb (kv:=(λa:aB=>Value.agg ((aN a).map bD).toArray)) (av:=(λv:aA=>AV.agg (aL v))) (l:=c) (ka:=.agg (aN C.1)) 80172 80173 E (λ_ _=>.agg (aBe rfl)) ?_;refine⟨by kernel_rfl,?_⟩;obtain⟨F,q,h⟩:=xP h;refine cl call94 KC.h q λF q=>?_;cases q;refine⟨by kernel_rfl,?_⟩;refine⟨by kernel_rfl,?_⟩;obtain⟨S,q,h⟩:=xP h;refine jo q (λx h=>?_) λS q=>?_
     ·refine br h (λh=>?_) λh=>?_
      ·exact⟨by kernel_rfl,jt h⟩
      ·refine cl call172 KC.h h λT h=>?_;refine bRm (a:=T) (b:=C.1) Tryz.eqGuardType140 bBz ?_;exact⟨by kernel_rfl,jt h⟩
     ·cases q;refine brp h (λh=>?_) λh=>?_
      ·refine⟨by kernel_rfl,?_⟩;refine obt ?_;exact⟨rfl,[],rfl,λ_ _ _=>⟨((none:Option bJ),false),h,rfl,by kernel_rfl⟩⟩
      ·obtain⟨w,q,h⟩:=xP h;refine cg (α:=Bool×(List (aB×Int))) [(25,_),(22,_),(23,_)] [] (λw=>.b w.1) (λw=>[some (Z9 n),some (.arr 3 1 (s.2.1.map aP)),some (.map false (w.2.map λp:aB×Int=>((λa:aB=>Value.agg ((aN a).map bD).toArray) p.1,aP p.2)))]) (λ_=>[]) call171 (λ_ h q=>⟨_,aDm (d_0_b:=q.bb 25) (d_0_o:=q.oo 25) (d_0_players_v:=q.ss 22) (d_0_won_r:=q.bb 23) n s.2.1 m F C.1.round h,λ_ _ ⟨e1,e2⟩=>⟨_,rfl,[],e1,e2.trans (by kernel_rfl)⟩⟩) q λw q=>?_;cases q;refine⟨by kernel_rfl,?_⟩;refine brp h (λh=>?_) λh=>?_
       ·exact⟨rfl,[],rfl,λ_ _ _=>⟨((none:Option bJ),false),h,rfl,by kernel_rfl⟩⟩
       ·exact⟨(w.2,(t++[P])),h,lev []⟩

theorem tS(e:aD)(f:List aA){Q:((Option bJ)×Int)->Prop}(h:kG e f Q):aX Tryz.prog 43 (Z2 e f) [] (λr' o'=>∃(r:(Option bJ)×Int),Q r/\r'=.tup [zY dV r.1,.i r.2]/\o'=[]):=by
 unfold kG at h;refine fng xT {nd:=[22]} false [] (Z2 e f) [] [.tmp 4,.tmp 5] func43 results43 ntmps43 ?_;obtain⟨r2,q,h⟩:=xP h;refine cl call86 KC.h q λr2 q=>?_;cases q;refine brp h (λh=>?_) λh=>?_
 ·exact⟨rfl,[],rfl,λ_ _ _=>⟨((none:Option bJ),70),h,rfl,by kernel_rfl⟩⟩
 ·refine ol ?_;obtain⟨b4,q,h⟩:=xP h;refine jg q (λx h=>?_) λb4 q=>?_
  ·refine br h (λh=>?_) λh=>?_
   ·exact jt h
   ·refine cl call87 (λ_=>aDe _ _ 88 [.cp [.j e.Rounds,.sl 1 (e.Slots.map aP)]] call88 (λ_ _ h=>KC.o h)) h λr7 h=>?_;exact jt h
  ·cases q;refine brp h (λh=>?_) λh=>?_
   ·exact⟨rfl,[],rfl,λ_ _ _=>⟨((none:Option bJ),71),h,rfl,by kernel_rfl⟩⟩
   ·refine cgq call90 (aYf _ _ h) ?_ (λ_=>by rintro⟨_|_,_⟩<;>rfl);rintro⟨_|j,k⟩ h
    ·refine brp h (λh=>?_) λh=>?_
     ·exact⟨rfl,[],rfl,λ_ _ _=>⟨((none:Option bJ),72),h,rfl,by kernel_rfl⟩⟩
     ·exact⟨rfl,[],rfl,λ_ _ _=>⟨((none:Option bJ),0),h,rfl,by kernel_rfl⟩⟩
    ·refine brp h (λh=>?_) λh=>?_
     ·exact⟨rfl,[],rfl,λ_ _ _=>⟨((none:Option bJ),72),h,rfl,by kernel_rfl⟩⟩
     ·exact⟨rfl,[],rfl,λ_ _ _=>⟨((some j),0),h,rfl,by kernel_rfl⟩⟩

instance aDl(g:bJ)(c:aB)(b:Int):KC Tryz.prog (pY g c b) 91 [.cp (dV g),.agg (aN c),.i b] (λr:Int=>(.i r)):=⟨call91,λr h=>by
 refine fnx xT {} _ func91 results91 ntmps91 ?_
 repeat' ((conv=>whnf);first|(refine S2 ?_ ?_<;>intro _ _ h)|(refine S1 ?_;intro _ _ h)|refine cEl (enc:=aP) (agg:=false) (z:=0) (a:=Z15) aEi underlying146 zeroValue3 (λ_ _=>.d (.lit _ rfl)) (jL (enc:=aN) Z15 rfl) ?_|exact S0)⟩

theorem zN{S:Type}(J:S->MO->Prop)(ly:Nat)(f:S->aB->aG->Option S)(hy:∀(s:S) (m:MO) (x0:aB) (x1:aG) (s':S),J s m->f s x0 x1=some s'->aLx Tryz.prog ly [.agg (aN x0),.agg (cA x1)] m (J s'))(e:bJ)(sy:S)(m0:MO)(hj:J sy m0){r:S}(h:iQ e f sy=some r):aX Tryz.prog 44 [.cp (dV e),.d (.lit (yv ly))] [m0] (λ_ o'=>∃m',J r m'/\o'=[m']):=by
 unfold iQ at h;refine wB func44 rfl (rs:=[]) results44 ntmps44 (f5 rfl) ?_;refine au 3 ?_;refine to (gQ (aC rfl) rfl) ?_;refine to (sfc [.j e.Tree.Rounds,.sl 1 (Z19 e)] rfl bEc) (to (sfc [.j e.Tree.Rounds] rfl bZx) (au 4 ?_));refine fC (S:=Int×({x:S×MO // J x.1 x.2})) [0,1,11] (λs1=>[(12,.i s1.1)]) (λs1=>[s1.2.1.2]) (λk s1=>cZ f e e.Tree.Rounds k s1.1 s1.2.1.1) (λ_=>rfl) (0,⟨(sy,m0),hj⟩) h (bE [0] rfl rfl (bG rfl (bL (ae rfl)))) ?_;rintro k3 ⟨b,y2⟩ h;simp only[cZ] at h;refine au 5 ?_;refine tih h (λc4 h=>?_) (λc4 h=>?_)
 ·refine au 11 ?_;refine to (gQ (aC rfl) rfl) ?_;refine to (sfc [.j e.Tree.Rounds,.sl 1 (Z19 e)] rfl bEc) (to (sfc [.sl 1 (Z19 e)] rfl bZy) (au 4 ?_));obtain⟨u5,h6,h⟩:=bns h;refine to (cEt (aC rfl) rfl rfl (aYw h6)) ?_;refine au 2 ?_;refine aIj ?_;refine fC (S:=Int×({x:S×MO // J x.1 x.2})) [0,1,4,11,12,23] (λs7=>[(24,.i s7.1)]) (λs7=>[s7.2.1.2]) (λk s7=>fE f (cZ f e e.Tree.Rounds k3) e b e.Tree.Rounds b ((e.Tree.Slots.length:Int).fdiv (2^(min (w64 (b+1)).toNat 64))) k s7.1 s7.2.1.1) (λ_=>rfl) (0,⟨(y2.1.1,y2.1.2),y2.2⟩) h (bE [0] rfl rfl (bG rfl (bL (ae rfl)))) ?_;rintro k9 ⟨c,y8⟩ h;simp only[fE] at h;refine au 5 ?_;refine tih h (λo h=>?_) (λo h=>?_)
  ·refine au 12 ?_;refine to (jI (aC rfl) cHz (zs:=[.j 0,.j 0]) rfl rfl rfl rfl (es:=[.j b,.j c]) rfl) ?_;refine cC rfl (dW (zs:=[.j 0,.j 0]) (aC rfl) zeroValue140 rfl rfl) ?_;rintro _ ⟨y,rfl⟩;refine to (sst 1 rfl rfl sizeOf140 (aN (aB.mk b c))) (aZ (bH ?_));obtain⟨g,q,h⟩:=bns h;obtain⟨j,t,h⟩:=bns h;refine rK mix 11 [0,1,4,11,12,23,24] [(30,.d (.lit (yv ly))),(31,.agg (aN (aB.mk b c))),(40,.agg (cA (aG.mk b c g j)))] ?_ ?_
   ·refine⟨[(30,0,.d (.lit (yv ly))),(31,1,.agg (aN (aB.mk b c))),(32,2,.i b),(33,3,.i c),(34,4,.cp [.j e.Tree.Rounds,.sl 1 (Z19 e),.sl 1 (e.players.map aP),.mp false (e.won.map λp:aB×Int=>((λa:aB=>Value.agg ((aN a).map bD).toArray) p.1,aP p.2))]),(35,5,.agg (aN (aB.mk b c))),(36,6,.i g),(37,7,.cp [.j e.Tree.Rounds,.sl 1 (Z19 e),.sl 1 (e.players.map aP),.mp false (e.won.map λp:aB×Int=>((λa:aB=>Value.agg ((aN a).map bD).toArray) p.1,aP p.2))]),(38,8,.agg (aN (aB.mk b c))),(39,9,.i j),(40,10,.agg (cA (aG.mk b c g j)))],?_,?_⟩
    · exact dk [0,0,0,0,0,0,506,0,0,809,3040710] ⟨go (zm (.d (.lit (yv ly)))),
 go (zla 1 (aN (aB.mk b c)) rfl rfl aTh),
 go (zm (.i b)),
 go (zm (.i c)),
 go (zm (Z6 e)),
 go (zla 1 (aN (aB.mk b c)) rfl rfl aTh),
 go λS hS=>pB (aC rfl) (.func _ _ call91) (ev2 (bN hS rfl) (ev2 (bN hS rfl) (ev2 rfl evn))) rfl (BVs.refl _ _) ((aDl _ _ _).h _ q) rfl,
 go (zm (Z6 e)),
 go (zla 1 (aN (aB.mk b c)) rfl rfl aTh),
 go λS hS=>pB (aC rfl) (.func _ _ call91) (ev2 (bN hS rfl) (ev2 (bN hS rfl) (ev2 rfl evn))) rfl (BVs.refl _ _) ((aDl _ _ _).h _ t) rfl,
 go λS hS=>jI (aC rfl) cLz (zs:=[.j 0,.j 0,.j 0,.j 0]) rfl rfl rfl (pa2 (bN hS rfl) (pa2 (bN hS rfl) (pa2 (bN hS rfl) (pa2 (bN hS rfl) pan)))) (es:=[.j b,.j c,.j g,.j j]) rfl,trivial⟩
    · exact kL (bG rfl (bG rfl (bG rfl (bL (ae rfl)))))
   ·obtain⟨u,v,h⟩:=bns h;refine bKu rfl (bOl (aC rfl) rfl rfl rfl rfl (hy _ _ _ _ _ y8.2 v)) ?_;rintro _ ⟨w,n,rfl⟩;refine to (sn rfl) (aZ ?_);refine aAe rfl (λl=>?_) (λl=>?_)
    ·exact absurd l (by decide)
    ·refine nD ?_;refine au 4 ?_;exact⟨(w64 (c+1),⟨(u,w),n⟩),h,bE [0] rfl rfl (bG rfl (bL (ae rfl)))⟩
  ·refine eU ?_;refine .inl ⟨rfl,?_⟩;simp only[kZ] at h;simp only[rV] at h;refine au 4 ?_;exact⟨(w64 (b+1),⟨(y8.1.1,y8.1.2),y8.2⟩),h,bE [0] rfl rfl (bG rfl (bL (ae rfl)))⟩
 ·refine eU ?_;refine .inl ⟨rfl,?_⟩;simp only[rU] at h;obtain rfl:=sIn h;exact⟨_,[y2.1.2],[],_,.none,.refl _,.same _,y2.1.2,y2.2,rfl⟩

theorem aYa(a:aD)(g:List aA){Q:((List aG)×Int)->Prop}(h:vM a g Q):aX Tryz.prog 21 (Z2 a g) [] (λr' o'=>∃(r:(List aG)×Int),Q r/\r'=.tup [.d (.sl 4 (r.1.map cA)),.i r.2]/\o'=[]):=by
 unfold vM at h;refine mQ func21 rfl (rs:=[.tmp 4,.tmp 5]) results21 ntmps21 (f5 rfl) ?_;refine bH (aV ?_);refine cC rfl (mY (v:=.agg (bU a)) (aC rfl) rfl rfl rfl) ?_;rintro _ ⟨b1,rfl⟩;refine to (wV 4 (aC rfl)) ?_;refine au 4 ?_;refine to (sla 0 (bU a) rfl rfl bTv) (tm (.d (.sl 5 (g.map aL))) ?_);refine cC rfl (aIh (aC rfl) (.func _ _ call43) rfl rfl (tS _ _ h)) ?_;rintro _ ⟨_,_,⟨r2,h,rfl,rfl⟩,rfl⟩;refine au 3 ?_;refine ta (zY dV r2.1) (au 8 ?_);refine tip h (λc3 h=>?_) (λc3 h=>?_)
 ·refine au 3 ?_;refine to (wV 4 (aC rfl)) ?_;refine au 2 ?_;exact eK ⟨rfl,_,[],[.box b1 0 (bU a)],_,.two (.tmp 4 (v:=.d (.sl 4 ((([]:List aG)).map cA))) rfl) (.tmp 5 (v:=.i r2.2) rfl),.refl _,.same _,(([]:List aG),r2.2),h,rfl,rfl⟩
 ·refine au 3 ?_;refine cC rfl (dW (zs:=Z23) (aC rfl) zeroValue36 rfl rfl) ?_;rintro _ ⟨b4,rfl⟩;refine kY (qG 49 4) ?_;refine au 4 ?_;refine tm (zY dV r2.1) ?_;obtain⟨x5,h6,h⟩:=aTq h;refine kY (bNk (enc:=dV) (k:=20) rfl h6) ?_;refine to (bXj (aC rfl) rfl rfl) ?_;refine aZ (aDh ?_);obtain⟨s7,h8,h⟩:=aTq h;refine nJ ?_ bIz;refine aXj (cl:=false) (S:=(List aG)×Value) (S0:=(List aG)) (f:=44) (ps:=[22,23]) (λb=>b.1) (λb=>[.box b1 0 (bU a),.box b4 0 [.lit b.2],.arr b.2 49 4 (b.1.map cA)]) (bTc (λj:aB=>.agg (aN j)) (λc:aG=>.agg (cA c)) _) (([]:List aG),(.slice none 0 0)) ([]:List aG) s7 (bE [0,1,2] rfl rfl (le_refl _)) rfl call44 rfl (by decide) rfl rfl (λl J hy m0 h0=>zN (S:=(List aG)) J l _ (λ_ _ _ _ _ hJ hq=>hy _ _ _ _ hJ ⟨_,_,rfl,hq⟩) x5 _ m0 h0 h8) ?_ ?_
  ·rintro⟨e9,e⟩ _ _ ⟨j,c,rfl,h⟩;refine⟨rfl,?_⟩;refine aV ?_;refine cC rfl (dW (zs:=[.j 0,.j 0,.j 0,.j 0]) (aC rfl) zeroValue49 rfl rfl) ?_;rintro _ ⟨q,rfl⟩;refine to (sst 3 rfl rfl sizeOf49 (cA c)) (au 4 ?_);refine to (sla 3 (cA c) rfl rfl bGq) (to (yA (aC rfl) aUd rfl rfl (rows:=([c]).map cA) rfl (gB (f:=cA) λ_=>rfl) rfl (by decide)) ?_);obtain⟨n,o,h⟩:=bns h;refine cC rfl (uQ (i:=2) (aC rfl) aUd rfl rfl rfl (λ_=>rfl) o rfl) ?_;rintro _ ⟨m,rfl⟩;refine to (sst 1 rfl rfl sizeOf36 [.lit m]) ?_;refine yY ?_;obtain rfl:=sIn h;exact⟨(n,m),rfl,bE [0,1,2] rfl rfl aRu⟩
  ·rintro⟨e9,e⟩ p;subst p;refine au 6 ?_;exact eK ⟨rfl,_,[],[.box b1 0 (bU a),.box b4 0 [.lit e],.arr e 49 4 (e9.map cA)],_,.two (.tmp 4 (v:=.d (.lit e)) rfl) (.tmp 5 (v:=.i 0) rfl),.refl _,aBv (.cons (.d (vT 2 rfl (gB (f:=cA) λ_=>rfl))) (.cons (.same _) .nil)),(e9,0),h,rfl,rfl⟩

theorem aEw(e:List bR)(f:bR->Option Bool){r:Int}(a:Nat)(c:List AV)(j:∀args w,(callFunc a args).run Tryz.prog w=.ok (.enter a args) w)(l:∀(x0:bR) r,f x0=some r->Fn Tryz.prog a ([.agg (fR x0)]++c) (.b r))(h:jC e f=some r):Fn Tryz.prog 45 [.d (.sl 3 (e.map fR)),.fn a c] (.i r):=by
 unfold jC at h;refine oT [.tmp 4] func45 results45 ntmps45 ?_;refine au 12 ?_;refine fC (S:=Int) [0,1,7] (λs1=>[(8,.i s1)]) (λs1=>[]) (λk s1=>eG e f (e.length:Int) k s1) (λ_=>rfl) (0) h (bE [] rfl rfl (bG rfl (bL (ae rfl)))) ?_;rintro k2 g h;simp only[eG] at h;refine au 5 ?_;refine tih h (λc3 h=>?_) (λc3 h=>?_)
 ·refine au 10 ?_;refine tm (.fn a c) (au 2 ?_);obtain⟨x4,h5,h⟩:=bns h;refine to (six rfl rfl cEv.of (fM fR h5)) (to (aDd (fR x4) rfl cJi) ?_);obtain⟨r6,h7,h⟩:=bns h;refine to (pB (aC rfl) (.clo _ _ _ _ j rfl) (aEg rfl) rfl (BVs.refl _ _) (l _ _ h7) rfl) ?_;refine aZ ?_;refine tih h (λc8 h=>?_) (λc8 h=>?_)
  ·refine au 5 ?_;obtain rfl:=sIn h;exact rt
  ·refine nD ?_;refine au 4 ?_;exact⟨(w64 (g+1)),h,bE [] rfl rfl (bG rfl (bL (ae rfl)))⟩
 ·refine eU ?_;refine .inl ⟨rfl,?_⟩;simp only[nR] at h;refine au 4 ?_;obtain rfl:=sIn h;exact rt

theorem aBm(f:List bR)(n:bR->Option Bool){r:Bool}(c:Nat)(g:List AV)(l:∀args w,(callFunc c args).run Tryz.prog w=.ok (.enter c args) w)(m:∀(x0:bR) r,n x0=some r->Fn Tryz.prog c ([.agg (fR x0)]++g) (.b r))(h:gT f n=some r):Fn Tryz.prog 22 [.d (.sl 3 (f.map fR)),.fn c g] (.b r):=by
 unfold gT at h;refine oT [.tmp 4] func22 results22 ntmps22 ?_;refine au 7 ?_;refine tm (.fn c g) ?_;obtain⟨r1,h2,h⟩:=bns h;refine to (scr call45 (aEw _ _ c g l m h2)) (au 3 ?_);obtain rfl:=sIn h;exact rt

instance cJb(o:Int)(e:Int)(a:Int):KC Tryz.prog (jH o e a) 47 [.i o,.i e,.i a] (λr:Bool=>(.b r)):=⟨call47,λr h=>fnw xT {} func47 results47 ntmps47⟩

instance cJa(f:bO)(e:Int)(a:Int):KC Tryz.prog (wD f e a) 46 [.agg (bS f),.i e,.i a] (λr:Bool=>(.b r)):=⟨call46,λr h=>fnw xT {} func46 results46 ntmps46⟩

instance cHh(j:bO)(k:Int):KC Tryz.prog (rC j k) 24 [.agg (bS j),.i k] (λr:Bool=>(.b r)):=⟨call24,λr h=>fnw xT {} func24 results24 ntmps24⟩

instance cIz(f:bR):KC Tryz.prog (aFf f) 23 [.agg (fR f)] (λr:Bool=>(.b r)):=⟨call23,λr h=>fnw xT {} func23 results23 ntmps23⟩

theorem bGx(c:aD)(e:List aA)(a:Int)(b:Int){Q:((Option bJ)×aB×Int)->Prop}(h:uY c e a b Q):aX Tryz.prog 48 (Z11 c e a b) [] (λr' o'=>∃(r:(Option bJ)×aB×Int),Q r/\r'=.tup [zY dV r.1,.agg (aN r.2.1),.i r.2.2]/\o'=[]):=by
 unfold uY at h;refine fng xT {nd:=[17]} false [] (Z11 c e a b) [] [.tmp 8,.cell 9 140,.tmp 10] func48 results48 ntmps48 ?_;refine cgq call43 (tS _ _ h) ?_ (λ_=>by rintro⟨_|_,_⟩<;>rfl);rintro⟨_|y5,e4⟩ h
 ·obtain⟨b7,q,h⟩:=xP h;refine jg q (λx h=>?_) λb7 q=>?_
  ·refine br h (λh=>?_) λh=>?_
   ·refine cl call92 KC.h h λr9 h=>?_;exact jt h
   ·exact jt h
  ·cases q;refine brp h (λh=>?_) λh=>?_
   ·refine⟨by kernel_rfl,?_⟩;refine⟨by kernel_rfl,?_⟩;exact⟨rfl,[],rfl,λ_ _ _=>⟨((none:Option bJ),(aB.mk a b),1),h,rfl,by kernel_rfl⟩⟩
   ·refine⟨by kernel_rfl,?_⟩;refine⟨by kernel_rfl,?_⟩;exact⟨rfl,[],rfl,λ_ _ _=>⟨((none:Option bJ),(aB.mk a b),e4),h,rfl,by kernel_rfl⟩⟩
 ·obtain⟨f,q,h⟩:=xP h;refine jg q (λx h=>?_) λf q=>?_
  ·refine br h (λh=>?_) λh=>?_
   ·refine cl call92 KC.h h λg h=>?_;exact jt h
   ·exact jt h
  ·cases q;refine brp h (λh=>?_) λh=>?_
   ·refine⟨by kernel_rfl,?_⟩;refine⟨by kernel_rfl,?_⟩;exact⟨rfl,[],rfl,λ_ _ _=>⟨((some y5),(aB.mk a b),1),h,rfl,by kernel_rfl⟩⟩
   ·refine⟨by kernel_rfl,?_⟩;refine⟨by kernel_rfl,?_⟩;exact⟨rfl,[],rfl,λ_ _ _=>⟨((some y5),(aB.mk a b),e4),h,rfl,by kernel_rfl⟩⟩

theorem aVt(e:aD)(l:List aA)(g:Int)(j:Int){Q:(Int×Int)->Prop}(h:tP e l g j Q):aX Tryz.prog 25 (Z11 e l g j) [] (λr' o'=>∃(r:Int×Int),Q r/\r'=.tup [.i r.1,.i r.2]/\o'=[]):=by
 unfold tP at h;refine fng xT {nd:=[20]} false [] (Z11 e l g j) [] [.tmp 8,.tmp 9] func25 results25 ntmps25 ?_;refine cgq call48 (bGx _ _ _ _ h) ?_ (λ_=>by rintro⟨_|_,_⟩<;>rfl);rintro⟨_|y4,e3⟩ h
 ·refine brp h (λh=>?_) λh=>?_
  ·exact⟨rfl,[],rfl,λ_ _ _=>⟨(0,e3.2),h,rfl,by kernel_rfl⟩⟩
  ·refine⟨by kernel_rfl,?_⟩;exact cEh h
 ·refine brp h (λh=>?_) λh=>?_
  ·exact⟨rfl,[],rfl,λ_ _ _=>⟨(0,e3.2),h,rfl,by kernel_rfl⟩⟩
  ·refine⟨by kernel_rfl,?_⟩;have h:=bRh h;refine cEl (enc:=aP) (agg:=false) (z:=0) (a:=e3.1) aEi underlying146 zeroValue3 (λ_ _=>.d (.lit _ rfl)) (jL (enc:=aN) e3.1 rfl) ?_;refine⟨by kernel_rfl,?_⟩;refine brp h (λh=>?_) λh=>?_
   ·exact⟨rfl,[],rfl,λ_ _ _=>⟨(0,3),h,rfl,by kernel_rfl⟩⟩
   ·exact⟨rfl,[],rfl,λ_ _ _=>⟨(bW e3.1 0 y4.won,0),h,rfl,by kernel_rfl⟩⟩

instance bTj(q:Int)(p:Int)(n:Int):KC Tryz.prog (fI q p n) 137 [.i q,.i p,.i n] (λr:Bool=>(.b r)):=⟨call137,λr h=>fnw xT {} func137 results137 ntmps137⟩

instance bTf(e:aD):KC Tryz.prog (qA e) 64 [.agg (bU e)] (λr:Bool=>(.b r)):=⟨call64,λr h=>by
 refine fnx xT {} _ func64 results64 ntmps64 ?_
 repeat' ((conv=>whnf);first|(refine S2 ?_ ?_<;>intro _ _ h)|(refine S1 ?_;intro _ _ h)|(refine xl1 [1] [1] (F:=kW _) (λ(a:Int)=>([(3,.i a)],[])) h eB ?_;intro k a h)|(refine xl1 [1,3] [1] (F:=iT _ _ _) (λ(a:Int)=>([(4,.i a)],[])) h eB ?_;intro k a h)|exact S0)⟩

instance bTg(e:aD)(f:Int):KC Tryz.prog (lF e f) 140 [.agg (bU e),.i f] (λr:Int=>(.i r)):=⟨call140,λr h=>fnw xT {} func140 results140 ntmps140⟩

instance bQk(e:aD)(f:Int)(m:Int):KC Tryz.prog (oP e f m) 138 [.agg (bU e),.i f,.i m] (λr:Bool=>(.b r)):=⟨call138,λr h=>fnw xT {} func138 results138 ntmps138⟩

instance bTi(e:aD)(s:aA):KC Tryz.prog (tG e s) 65 [.agg (bU e),.agg (aL s)] (λr:Bool=>(.b r)):=⟨call65,λr h=>fnw xT {} func65 results65 ntmps65⟩

instance aUn(o:List aA):KC Tryz.prog (pI o) 141 [.d (.sl 5 (o.map aL))] (λr:(List aA)=>(.d (.sl 5 (r.map aL)))):=⟨call141,λr h=>by
 refine fnx xT {ow:=[3]} _ func141 results141 ntmps141 ?_
 repeat' ((conv=>whnf);first|(refine S2 ?_ ?_<;>intro _ _ h)|(refine S1 ?_;intro _ _ h)|(refine xl2 [0] [] (F:=fP _) (λ(a:Int) (b:(List aA))=>([(3,.d (.hv 0 3 0)),(4,.i a)],[(3,.arr 60 5 (b.map aL))])) h eB ?_;intro k a b h)|(refine xl2 [0,3,4] [3] (F:=kJ _ _ _ _) (λ(a:Bool) (b:Int)=>([(5,.b a),(6,.i b)],[])) h eB ?_;intro k a b h)|exact S0)⟩

instance cDq(o:List Int)(t:Int):KC Tryz.prog (zU o t) 199 [.d (.sl 1 (o.map aP)),.i t] (λr:Bool=>(.b r)):=⟨call199,λr h=>by
 refine fnx xT {} _ func199 results199 ntmps199 ?_
 repeat' ((conv=>whnf);first|(refine S2 ?_ ?_<;>intro _ _ h)|(refine S1 ?_;intro _ _ h)|(refine xl1 [0,1] [] (F:=oD _ _) (λ(a:Int)=>([(5,.i a)],[])) h eB ?_;intro k a h)|exact S0)⟩

instance bQl(e:aD)(l:List aA):KC Tryz.prog (sI e l) 139 (Z2 e l) (λr:(List Int)×Bool=>(.tup [.d (.sl 1 (r.1.map aP)),.b r.2])):=⟨call139,λr h=>by
 refine fnx xT {ow:=[8,13,18]} _ func139 results139 ntmps139 ?_
 repeat' ((conv=>whnf);first|(refine S2 ?_ ?_<;>intro _ _ h)|(refine S1 ?_;intro _ _ h)|(refine xl4 [2,6] [2] (F:=iB _ _) (λ(a:Int) (b:Int) (c:(List Int)) (d:(List Int))=>([(7,.d (.hv 0 21 0)),(8,.d (.hv 0 8 0)),(9,.i a),(10,.i b)],[(8,.arr 3 1 (c.map aP)),(21,.arr 3 1 (d.map aP))])) h eB ?_;intro k a b c d h)|(refine xl4 [2,6,8,10] [2,8] (F:=kA _ _ _ _ _) (λ(a:Int) (b:Int) (c:Bool) (d:(List Int))=>([(7,.d (.hv 0 21 0)),(9,.i a),(11,.i b),(12,.b c)],[(21,.arr 3 1 (d.map aP))])) h eB ?_;intro k a b c d h)|(refine xl2 [2,6,7,8,9,10,11,12] [2,8,21] (F:=fY _ _ _ _ _ _ _ _ _ _) (λ(a:Int) (b:(List Int))=>([(13,.d (.hv 0 13 0)),(14,.i a)],[(13,.arr 3 1 (b.map aP))])) h eB ?_;intro k a b h)|(refine xl2 [6,8] [8] (F:=fZ _ _) (λ(a:Int) (b:Int)=>([(9,.i a),(15,.i b)],[])) h eB ?_;intro k a b h)|exact S0)⟩

theorem aUm(e:aD){r:aI×Bool}(h:cK e ([]:List aA)=some r):Fn Tryz.prog 66 [.agg (bU e),.d (.sl 5 (([]:List aA).map aL))] (.tup [.agg (tH r.1),.b r.2]):=by
 unfold cK at h;refine fnx xT {ow:=[10,30008,30032,200008,200032],lt:=[(85,[10])]} [.cell 4 171,.tmp 5] func66 results66 ntmps66 ?_;refine cd call139 KC.h h λr3 h=>?_;refine br h (λh=>?_) λh=>?_
 ·cases h;exact⟨rfl,_,_,rfl,rfl,rfl,rfl,rfl⟩
 ·refine xlp [1,2,4,6,8] [2,4] (λ((g,j,c):Int×(List (List Int))×(List Int))=>([(9,.i g)],[(2032,.arr 24 1 (j.map bBx)),(8,.box [.sl 1 (c.map aP),.hv 0 2032 0])])) (λk ((g,j,c):Int×(List (List Int))×(List Int))=>gL ([]:List aA) r3.1 e (aI.mk ([]:List Int) ([]:List (List Int))) k g j c) (0,([]:List (List Int)),r3.1) h (lev []) ?_;rintro k7 ⟨g,j,c⟩ h;simp only[gL] at h;refine br h (λh=>?_) λh=>?_
  ·refine xlp [1,2,4,6,8,9] [2,4,2032,8] (λ((f,l):Int×(List Int))=>([(10,.d (.hv 0 10 0)),(11,.i f)],[(10,.arr 3 1 (l.map aP))])) (λk ((f,l):Int×(List Int))=>eD (gL ([]:List aA) r3.1 e (aI.mk ([]:List Int) ([]:List (List Int))) k7) ([]:List aA) r3.1 g e (aI.mk ([]:List Int) ([]:List (List Int))) j c k f l) (0,([]:List Int)) h (lev []) ?_;rintro z ⟨f,l⟩ h;simp only[eD] at h;refine cl call140 KC.h h λA h=>?_;refine br h (λh=>?_) λh=>?_
   ·refine jg h (λx h=>?_) λB h=>?_
    ·refine br h (λh=>?_) λh=>?_
     ·refine oi h λC h=>?_;exact jt h
     ·exact jt h
    ·refine br h (λh=>?_) λh=>?_
     ·refine oi h λE h=>?_;refine jg h (λx h=>?_) λG h=>?_
      ·refine br h (λh=>?_) λh=>?_
       ·refine oi h λH h=>?_;exact jt h
       ·exact jt h
      ·refine br h (λh=>?_) λh=>?_
       ·refine oi h λI h=>?_;refine oap h λt h=>?_;exact⟨(w64 (f+1),t),h,lev [(10,81)]⟩
       ·refine oap h λu h=>?_;exact⟨(w64 (f+1),u),h,lev [(10,81)]⟩
     ·refine jg h (λx h=>?_) λK h=>?_
      ·refine br h (λh=>?_) λh=>?_
       ·refine oi h λL h=>?_;exact jt h
       ·exact jt h
      ·refine br h (λh=>?_) λh=>?_
       ·refine oi h λM h=>?_;refine oap h λv h=>?_;exact⟨(w64 (f+1),v),h,lev [(10,81)]⟩
       ·refine oap h λw h=>?_;exact⟨(w64 (f+1),w),h,lev [(10,81)]⟩
   ·simp only[mG] at h;refine oap h λy h=>?_;simp only[xE] at h;exact⟨(w64 (g+1),y,c),h,lev [(2032,86)]⟩
  ·simp only[mF] at h;simp only[show pI ([]:List aA)=some ([]:List aA) by kernel_rfl,Option.bns] at h;refine cd (α:=Unit) (sh:=some ()) (enc:=λ_=>.d (.sl 5 (([]:List aA).map aL))) call141 (λ_ _=>(aUn ([]:List aA)).h _ (by kernel_rfl)) (bUa h) λ_ h=>?_;refine xlp [4,6,8,13] [4,2032,8] (λ(m:Int)=>([(14,.i m)],[])) (λk (m:Int)=>eE r3.1 ([]:List aA) c k m (aI.mk ([]:List Int) ([]:List (List Int))) j) (0) h (lev []) ?_;rintro N m h;simp only[eE] at h;refine ol ?_;refine br h (λh=>?_) λh=>?_
   ·exact cAk h
   ·simp only[xF] at h;cases h;exact⟨rfl,_,_,rfl,rfl,rfl,rfl,rfl⟩
instance bYg(e:aD):KC Tryz.prog (cK e ([]:List aA)) 66 [.agg (bU e),.d (.sl 5 (([]:List aA).map aL))] (λr:aI×Bool=>(.tup [.agg (tH r.1),.b r.2])):=⟨call66,λ_ h=>aUm _ h⟩

instance bUr(e:aD):KC Tryz.prog (eM e ([]:List aA)) 35 [.agg (bU e),.d (.sl 5 (([]:List aA).map aL))] (λr:Int=>(.i r)):=⟨call35,λr h=>by
 refine fnx xT {} _ func35 results35 ntmps35 ?_
 repeat' ((conv=>whnf);first|(refine S2 ?_ ?_<;>intro _ _ h)|(refine S1 ?_;intro _ _ h)|(refine xl1 [1,2] [2] (F:=jN _ _) (λ(a:Int)=>([(5,.i a)],[])) h eB ?_;intro k a h)|exact S0)⟩

instance cDr(q:aI)(n:Int)(o:Int)(p:Int):KC Tryz.prog (vS q n o p) 200 [.agg (tH q),.i n,.i o,.i p] (λr:Int=>(.i r)):=⟨call200,λr h=>fnw xT {} func200 results200 ntmps200⟩

instance bUs(e:aD)(s:aI):KC Tryz.prog (oC e s) 142 [.agg (bU e),.agg (tH s)] (λr:(List aG)=>(.d (.sl 4 (r.map cA)))):=⟨call142,λr h=>by
 refine fnx xT {ow:=[5]} _ func142 results142 ntmps142 ?_
 repeat' ((conv=>whnf);first|(refine S2 ?_ ?_<;>intro _ _ h)|(refine S1 ?_;intro _ _ h)|(refine xl2 [2,3] [2,3] (F:=eZ _ _) (λ(a:Int) (b:(List aG))=>([(5,.d (.hv 0 5 0)),(6,.i a)],[(5,.arr 49 4 (b.map cA))])) h eB ?_;intro k a b h)|(refine xl2 [2,3,6] [2,3] (F:=jO _ _ _ _) (λ(a:Int) (b:(List aG))=>([(5,.d (.hv 0 5 0)),(7,.i a)],[(5,.arr 49 4 (b.map cA))])) h eB ?_;intro k a b h)|exact S0)⟩

instance bUq(e:aD):KC Tryz.prog (kH e ([]:List aA)) 69 [.agg (bU e),.d (.sl 5 (([]:List aA).map aL))] (λr:(List aG)×Int=>(.tup [.d (.sl 4 (r.1.map cA)),.i r.2])):=⟨call69,λr h=>fnw xT {} func69 results69 ntmps69⟩

theorem aYb(a0:aD)(a1:List aA){r:(List aG)×Int}(h:sE a0 a1=some r):Fn Tryz.prog 21 (Z2 a0 a1) ((λx:(List aG)×Int=>.tup [.d (.sl 4 (x.1.map cA)),.i x.2]) r):=aIx (enc:=λx:(List aG)×Int=>.tup [.d (.sl 4 (x.1.map cA)),.i x.2]) (aYa a0 a1 (aUi a0 a1 h (λx=>x=r) rfl))

instance bLh(c:aD)(a:Int)(b:Int):KC Tryz.prog (kB c ([]:List aA) a b) 143 [.agg (bU c),.d (.sl 5 (([]:List aA).map aL)),.i a,.i b] (λr:Int=>(.i r)):=⟨call143,λr h=>fnw xT {} func143 results143 ntmps143⟩

instance bTh(c:aD)(a:Int)(b:Int):KC Tryz.prog (fH c ([]:List aA) a b) 70 [.agg (bU c),.d (.sl 5 (([]:List aA).map aL)),.i a,.i b] (λr:Int×Int=>(.tup [.i r.1,.i r.2])):=⟨call70,λr h=>fnw xT {} func70 results70 ntmps70⟩

theorem aVu(a0:aD)(a1:List aA)(a2:Int)(a3:Int){r:Int×Int}(h:uZ a0 a1 a2 a3=some r):Fn Tryz.prog 25 (Z11 a0 a1 a2 a3) ((λx:Int×Int=>.tup [.i x.1,.i x.2]) r):=aIx (enc:=λx:Int×Int=>.tup [.i x.1,.i x.2]) (aVt a0 a1 a2 a3 (aRe a0 a1 a2 a3 h (λx=>x=r) rfl))

instance cMu(p:aD)(j:List aA)(g:List bR):KC Tryz.prog (oW p j g) 6 [.agg (bU p),.d (.sl 5 (j.map aL)),.d (.sl 3 (g.map fR))] (λr:(List bK)×(List aG)×Int=>(.tup [.d (.sl 6 (r.1.map aW)),.d (.sl 4 (r.2.1.map cA)),.i r.2.2])):=⟨call6,λr h=>by
 refine fnx xT {ow:=[11,12,30017,30068,300017,300068],lr:=[(20,[17,3068])]} _ func6 results6 ntmps6 ?_
 repeat' ((conv=>whnf);first|(refine S2 ?_ ?_<;>intro _ _ h)|(refine S1 ?_;intro _ _ h)|(refine cd call21 (λ_=>aYb _ _) h ?_;intro _ h)|(refine cl call22 (λ_=>aBm _ _ 23 [] call23 (λ_ _ h=>KC.o h)) h ?_;intro _ h)|(refine xl3 [1,2,3,38,39] [3] (F:=lM _ _ _ _ _) (λ(a:Int) (b:(List bK)) (c:(List aG))=>([(11,.d (.hv 0 11 0)),(12,.d (.hv 0 12 0)),(40,.i a)],[(11,.arr 97 6 (b.map aW)),(12,.arr 49 4 (c.map cA))])) h eB ?_;intro k a b c h)|(refine cl call25 (λ_=>aVu _ _ _ _) h ?_;intro _ h)|(refine xl6 [1,2,3,11,12,14,17,38,39,40,69,70] [3,11,12,14] (F:=rB _ _ _ _ _ _ _ _ _ _ _) (λ(a:Int) (b:(List Int)) (c:bO) (d:(List Int)) (e:Int) (f:Int)=>([(71,.i a)],[(3068,.arr 3 1 (b.map aP)),(17,.box [.j c.Low,.j c.High,.hv 0 3068 0,.sl 1 (d.map aP),.j e,.j f])])) h eB ?_;intro k a b c d e f h)|exact S0)⟩

instance cGb(q:Int)(n:Int)(l:Int):KC Tryz.prog (oS q n l) 176 [.i q,.i n,.i l] (λr:Bool=>(.b r)):=⟨call176,λr h=>fnw xT {} func176 results176 ntmps176⟩

instance cDt(m:oA):KC Tryz.prog (aGl m) 97 [.agg (aFa m)] (λr:Bool=>(.b r)):=⟨call97,λr h=>fnw xT {} func97 results97 ntmps97⟩

instance cIu(m:oA)(j:List mC):KC Tryz.prog (aFb m j) 56 [.agg (aFa m),.d (.sl 5 (j.map cY))] (λr:Int=>(.i r)):=⟨call56,λr h=>by
 refine fnx xT {} _ func56 results56 ntmps56 ?_
 repeat' ((conv=>whnf);first|(refine S2 ?_ ?_<;>intro _ _ h)|(refine S1 ?_;intro _ _ h)|refine omm true ?_|(refine xl1 [5,17,18] [16] (F:=aEf _ _ _) (λ(a:Int)=>([(19,.i a)],[])) h eB ?_;intro k a h)|exact S0)⟩

theorem aGh(e:List bO)(f:bO->Option Bool){r:Int}(a:Nat)(c:List AV)(j:∀args w,(callFunc a args).run Tryz.prog w=.ok (.enter a args) w)(l:∀(x0:bO) r,f x0=some r->Fn Tryz.prog a ([.agg (bS x0)]++c) (.b r))(h:jW e f=some r):Fn Tryz.prog 93 [.d (.sl 2 (e.map bS)),.fn a c] (.i r):=by
 unfold jW at h;refine oT [.tmp 4] func93 results93 ntmps93 ?_;refine au 12 ?_;refine fC (S:=Int) [0,1,7] (λs1=>[(8,.i s1)]) (λs1=>[]) (λk s1=>eO e f (e.length:Int) k s1) (λ_=>rfl) (0) h (bE [] rfl rfl (bG rfl (bL (ae rfl)))) ?_;rintro k2 g h;simp only[eO] at h;refine au 5 ?_;refine tih h (λc3 h=>?_) (λc3 h=>?_)
 ·refine au 10 ?_;refine tm (.fn a c) (au 2 ?_);obtain⟨x4,h5,h⟩:=bns h;refine to (six rfl rfl aLb.of (fM bS h5)) (to (aDd (bS x4) rfl aXt) ?_);obtain⟨r6,h7,h⟩:=bns h;refine to (pB (aC rfl) (.clo _ _ _ _ j rfl) (aEg rfl) rfl (BVs.refl _ _) (l _ _ h7) rfl) ?_;refine aZ ?_;refine tih h (λc8 h=>?_) (λc8 h=>?_)
  ·refine au 5 ?_;obtain rfl:=sIn h;exact rt
  ·refine nD ?_;refine au 4 ?_;exact⟨(w64 (g+1)),h,bE [] rfl rfl (bG rfl (bL (ae rfl)))⟩
 ·refine eU ?_;refine .inl ⟨rfl,?_⟩;simp only[oI] at h;refine au 4 ?_;obtain rfl:=sIn h;exact rt

theorem aDf(g:List bO)(m:bO->Option Bool){r:Bool}(c:Nat)(e:List AV)(j:∀args w,(callFunc c args).run Tryz.prog w=.ok (.enter c args) w)(l:∀(x0:bO) r,m x0=some r->Fn Tryz.prog c ([.agg (bS x0)]++e) (.b r))(h:iG g m=some r):Fn Tryz.prog 50 [.d (.sl 2 (g.map bS)),.fn c e] (.b r):=by
 unfold iG at h;refine oT [.tmp 4] func50 results50 ntmps50 ?_;refine au 7 ?_;refine tm (.fn c e) ?_;obtain⟨r1,h2,h⟩:=bns h;refine to (scr call93 (aGh _ _ c e j l h2)) (au 3 ?_);obtain rfl:=sIn h;exact rt

instance cHf(g:bO):KC Tryz.prog (aCq g) 51 [.agg (bS g)] (λr:Bool=>(.b r)):=⟨call51,λr h=>fnw xT {} func51 results51 ntmps51⟩

instance cHg(n:List Int)(f:Int):KC Tryz.prog (xU n f) 52 [.d (.sl 1 (n.map aP)),.i f] (λr:Bool=>(.b r)):=⟨call52,λr h=>by
 refine fnx xT {} _ func52 results52 ntmps52 ?_
 repeat' ((conv=>whnf);first|(refine S2 ?_ ?_<;>intro _ _ h)|(refine S1 ?_;intro _ _ h)|(refine xl1 [0,1,7,8] [] (F:=pL _ _ _ _) (λ(a:Int)=>([(9,.i a)],[])) h eB ?_;intro k a h)|exact S0)⟩

instance cLd(p:aH):KC Tryz.prog (sS p) 28 [.agg (cH p)] (λr:Int=>(.i r)):=⟨call28,λr h=>by
 refine fnx xT {} _ func28 results28 ntmps28 ?_
 repeat' ((conv=>whnf);first|(refine S2 ?_ ?_<;>intro _ _ h)|(refine S1 ?_;intro _ _ h)|(refine xl1 [1,25,26] [1] (F:=pS _ _ _) (λ(a:Int)=>([(27,.i a)],[])) h eB ?_;intro k a h)|(refine cl call50 (λ_=>aDf _ _ 51 [] call51 (λ_ _ h=>KC.o h)) h ?_;intro _ h)|(refine xl1 [1,49,50] [1] (F:=sA _ _ _) (λ(a:Int)=>([(51,.i a)],[])) h eB ?_;intro k a h)|exact S0)⟩

theorem aYc(f:aD)(g:List aA){Q:Int->Prop}(h:vN f g Q):aX Tryz.prog 57 (Z2 f g) [] (λr' o'=>∃(r:Int),Q r/\r'=.i r/\o'=[]):=by
 unfold vN at h;refine fng xT {nd:=[10]} false [] (Z2 f g) [] [.tmp 4] func57 results57 ntmps57 ?_;refine cgq call43 (tS _ _ h) ?_ (λ_=>by rintro⟨_|_,_⟩<;>rfl);rintro⟨_|y4,e3⟩ h
 ·exact⟨rfl,[],λ_ _ _=>⟨(e3),h,rfl,by kernel_rfl⟩⟩
 ·exact⟨rfl,[],λ_ _ _=>⟨(e3),h,rfl,by kernel_rfl⟩⟩

instance cHq(a:Int)(e:Int)(c:Int):KC Tryz.prog (nA a e c) 100 [.i a,.i e,.i c] (λr:Bool=>(.b r)):=⟨call100,λr h=>fnw xT {} func100 results100 ntmps100⟩

instance cEu(a:Int)(j:dC):KC Tryz.prog (vY a j) 99 [.i a,.cp (lL j)] (λr:Bool=>(.b r)):=⟨call99,λr h=>fnw xT {} func99 results99 ntmps99⟩

instance cJd(k:dC):KC Tryz.prog (wE k) 58 [.agg (lL k)] (λr:Int=>(.i r)):=⟨call58,λr h=>fnw xT {} func58 results58 ntmps58⟩

theorem aKh(a0:aD)(a1:List aA){r:Int}(h:pD a0 a1=some r):Fn Tryz.prog 57 (Z2 a0 a1) ((λx:Int=>.i x) r):=aIx (enc:=λx:Int=>.i x) (aYc a0 a1 (aUj a0 a1 h (λx=>x=r) rfl))

instance bAe(a:dK):KC Tryz.prog (sB a) 31 [.agg (fO a)] (λr:Int=>(.i r)):=⟨call31,λr h=>by
 refine fnx xT {} _ func31 results31 ntmps31 ?_
 repeat' ((conv=>whnf);first|(refine S2 ?_ ?_<;>intro _ _ h)|(refine S1 ?_;intro _ _ h)|(refine cl call57 (λ_=>aKh _ _) h ?_;intro _ h)|exact S0)⟩

theorem aYd(g:aD)(s:List aA){Q:((List aG)×Int)->Prop}(h:vO g s Q):aX Tryz.prog 235 (Z2 g s) [] (λr' o'=>∃(r:(List aG)×Int),Q r/\r'=.tup [.d (.sl 4 (r.1.map cA)),.i r.2]/\o'=[]):=by
 unfold vO at h;refine mQ func235 rfl (rs:=[.tmp 4,.tmp 5]) results235 ntmps235 (f5 rfl) ?_;refine bH (aV ?_);refine cC rfl (mY (v:=.agg (bU g)) (aC rfl) rfl rfl rfl) ?_;rintro _ ⟨b1,rfl⟩;refine to (wV 4 (aC rfl)) ?_;refine au 4 ?_;refine to (sla 0 (bU g) rfl rfl bTv) (tm (.d (.sl 5 (s.map aL))) ?_);refine cC rfl (aIh (aC rfl) (.func _ _ call43) rfl rfl (tS _ _ h)) ?_;rintro _ ⟨_,_,⟨r2,h,rfl,rfl⟩,rfl⟩;refine au 3 ?_;refine cC rfl (dW (zs:=[.lit (.pointer none)]) (aC rfl) zeroValue135 rfl rfl) ?_;rintro _ ⟨b3,rfl⟩;refine cCv (enc:=dV) 17 rfl λw4=>?_;refine to (sst 1 rfl rfl sizeOf135 [.lit w4]) (au 8 ?_);refine tip h (λc5 h=>?_) (λc5 h=>?_)
 ·refine au 3 ?_;refine to (wV 4 (aC rfl)) ?_;refine au 2 ?_;exact eK ⟨rfl,_,[],[.box b1 0 (bU g),.box b3 0 [.lit w4],wT dV r2.1 w4],_,.two (.tmp 4 (v:=.d (.sl 4 ((([]:List aG)).map cA))) rfl) (.tmp 5 (v:=.i r2.2) rfl),.refl _,.same _,(([]:List aG),r2.2),h,rfl,rfl⟩
 ·refine au 3 ?_;refine cC rfl (dW (zs:=Z23) (aC rfl) zeroValue36 rfl rfl) ?_;rintro _ ⟨b6,rfl⟩;refine kY (qG 49 4) ?_;refine au 4 ?_;refine to (bFc (enc:=dV) (i:=1) (i2:=2) (aC rfl) rfl rfl rfl rfl bOe) ?_;obtain⟨x7,h8,h⟩:=aTq h;refine kY (bNk (enc:=dV) (k:=22) rfl h8) ?_;refine to (bXj (aC rfl) rfl rfl) ?_;refine aZ (aDh ?_);obtain⟨s9,x,h⟩:=aTq h;refine nJ ?_ bIz;refine aXj (cl:=false) (S:=(List aG)×Value) (S0:=(List aG)) (f:=44) (ps:=[24,25]) (λj=>j.1) (λj=>[.box b1 0 (bU g),.box b3 0 [.lit w4],wT dV r2.1 w4,.box b6 0 [.lit j.2],.arr j.2 49 4 (j.1.map cA)]) (bTc (λe:aB=>.agg (aN e)) (λm:aG=>.agg (cA m)) _) (([]:List aG),(.slice none 0 0)) ([]:List aG) s9 (bE [0,1,2,3,4] rfl rfl (le_refl _)) rfl call44 rfl (by decide) rfl rfl (λl J hy m0 h0=>zN (S:=(List aG)) J l _ (λ_ _ _ _ _ hJ hq=>hy _ _ _ _ hJ ⟨_,_,rfl,hq⟩) x7 _ m0 h0 x) ?_ ?_
  ·rintro⟨q,n⟩ _ _ ⟨e,m,rfl,h⟩;refine⟨rfl,?_⟩;refine bH (aV ?_);refine cC rfl (dW (zs:=[.j 0,.j 0]) (aC rfl) zeroValue140 rfl rfl) ?_;rintro _ ⟨F,rfl⟩;refine to (sst 5 rfl rfl sizeOf140 (aN e)) (aZ (aV ?_));refine cC rfl (dW (zs:=[.j 0,.j 0,.j 0,.j 0]) (aC rfl) zeroValue49 rfl rfl) ?_;rintro _ ⟨G,rfl⟩;refine to (sst 6 rfl rfl sizeOf49 (cA m)) (au 3 ?_);obtain⟨c,t,h⟩:=bns h;refine jZ (bVb (enc:=dV) (i:=2) rfl t) ?_;refine rK mix 10 [8,10] [(34,.b (cR e c.won))] ?_ ?_
   ·refine⟨[(27,0,.cp [.j c.Tree.Rounds,.sl 1 (c.Tree.Slots.map aP),.sl 1 (c.players.map aP),.mp false (c.won.map λp:aB×Int=>((λa:aB=>Value.agg ((aN a).map bD).toArray) p.1,aP p.2))]),(28,1,.cp [.j c.Tree.Rounds,.sl 1 (c.Tree.Slots.map aP),.sl 1 (c.players.map aP),.mp false (c.won.map λp:aB×Int=>((λa:aB=>Value.agg ((aN a).map bD).toArray) p.1,aP p.2))]),(29,2,.cp [.mp false (c.won.map λp:aB×Int=>((λa:aB=>Value.agg ((aN a).map bD).toArray) p.1,aP p.2))]),(30,3,.d (.mp false (c.won.map λp:aB×Int=>((λa:aB=>Value.agg ((aN a).map bD).toArray) p.1,aP p.2)))),(31,4,.agg (aN e)),(32,5,.tup [.i (bW e 0 c.won),.b (cR e c.won)]),(26,6,.tup [.i (bW e 0 c.won),.b (cR e c.won)]),(33,7,.i (bW e 0 c.won)),(34,8,.b (cR e c.won)),(11,9,.i (bW e 0 c.won))],?_,?_⟩
    · exact dk [0,1,2,3,0,405,6,7,7,8] ⟨go λS hS=>bXi (enc:=dV) (i:=1) (i2:=2) (aC rfl) (bN hS rfl) rfl rfl rfl bOe,
 go λS hS=>gQ (aC rfl) (bN hS rfl),
 go (zfc [.mp false (c.won.map λp:aB×Int=>((λa:aB=>Value.agg ((aN a).map bD).toArray) p.1,aP p.2))] rfl bVd),
 go (zlc rfl cGz),
 go (zla 5 (aN e) rfl rfl aTh),
 go λS hS=>aGt (enc:=aP) (agg:=false) (l:=c.won) (z:=0) (a:=e) (aC rfl) aEi underlying146 zeroValue3 (λ_ _=>.d (.lit _ rfl)) (bN hS rfl) rfl rfl (bN hS rfl) (jL (enc:=aN) e rfl),
 go (zm (.tup [.i (bW e 0 c.won),.b (cR e c.won)])),
 go (zex rfl rfl),
 go (zex rfl rfl),
 go (za (.i (bW e 0 c.won))),trivial⟩
    · exact kL (bG rfl (bL (ae rfl)))
   ·refine au 2 ?_;refine jZ (bZq (enc:=dV) (i:=2) rfl t) ?_;refine au 5 ?_;obtain⟨y,o,h⟩:=bns h;refine vI 7 [8,10] 44 y ?_ ?_
    ·refine bch o (λu o=>?_) (λu o=>?_)
     ·refine au 4 ?_;refine tk u (cEs (aC rfl) rfl rfl) ?_;refine au 2 ?_;obtain rfl:=sIn o;refine aZ (jR rfl (ae rfl) rfl)
     ·refine au 7 ?_;obtain rfl:=sIn o;refine aZ (jR rfl (ae rfl) rfl)
    ·refine aZ ?_;refine tih h (λA h=>?_) (λA h=>?_)
     ·refine au 2 ?_;refine to (sla 6 (cA m) rfl rfl bGq) (to (yA (aC rfl) aUd rfl rfl (rows:=([m]).map cA) rfl (gB (f:=cA) λ_=>rfl) rfl (by decide)) ?_);obtain⟨B,C,h⟩:=bns h;refine cC rfl (uQ (i:=4) (aC rfl) aUd rfl rfl rfl (λ_=>rfl) C rfl) ?_;rintro _ ⟨w,rfl⟩;refine to (sst 3 rfl rfl sizeOf36 [.lit w]) ?_;refine yY ?_;obtain rfl:=sIn h;exact⟨(B,w),rfl,bE [0,1,2,3,4] rfl rfl aRu⟩
     ·refine nD ?_;obtain rfl:=sIn h;exact⟨(q,n),rfl,bE [0,1,2,3,4] rfl rfl aRu⟩
  ·rintro⟨q,n⟩ E;subst E;refine au 6 ?_;exact eK ⟨rfl,_,[],[.box b1 0 (bU g),.box b3 0 [.lit w4],wT dV r2.1 w4,.box b6 0 [.lit n],.arr n 49 4 (q.map cA)],_,.two (.tmp 4 (v:=.d (.lit n)) rfl) (.tmp 5 (v:=.i 0) rfl),.refl _,aBv (.cons (.d (vT 4 rfl (gB (f:=cA) λ_=>rfl))) (.cons (.same _) .nil)),(q,0),h,rfl,rfl⟩

theorem aGf(e:List aG)(f:aG->Option Bool){r:Int}(a:Nat)(c:List AV)(j:∀args w,(callFunc a args).run Tryz.prog w=.ok (.enter a args) w)(l:∀(x0:aG) r,f x0=some r->Fn Tryz.prog a ([.agg (cA x0)]++c) (.b r))(h:mL e f=some r):Fn Tryz.prog 236 [.d (.sl 4 (e.map cA)),.fn a c] (.i r):=by
 unfold mL at h;refine oT [.tmp 4] func236 results236 ntmps236 ?_;refine au 12 ?_;refine fC (S:=Int) [0,1,7] (λs1=>[(8,.i s1)]) (λs1=>[]) (λk s1=>fS e f (e.length:Int) k s1) (λ_=>rfl) (0) h (bE [] rfl rfl (bG rfl (bL (ae rfl)))) ?_;rintro k2 g h;simp only[fS] at h;refine au 5 ?_;refine tih h (λc3 h=>?_) (λc3 h=>?_)
 ·refine au 10 ?_;refine tm (.fn a c) (au 2 ?_);obtain⟨x4,h5,h⟩:=bns h;refine to (six rfl rfl aUd.of (fM cA h5)) (to (aDd (cA x4) rfl bGq) ?_);obtain⟨r6,h7,h⟩:=bns h;refine to (pB (aC rfl) (.clo _ _ _ _ j rfl) (aEg rfl) rfl (BVs.refl _ _) (l _ _ h7) rfl) ?_;refine aZ ?_;refine tih h (λc8 h=>?_) (λc8 h=>?_)
  ·refine au 5 ?_;obtain rfl:=sIn h;exact rt
  ·refine nD ?_;refine au 4 ?_;exact⟨(w64 (g+1)),h,bE [] rfl rfl (bG rfl (bL (ae rfl)))⟩
 ·refine eU ?_;refine .inl ⟨rfl,?_⟩;simp only[uK] at h;refine au 4 ?_;obtain rfl:=sIn h;exact rt

instance bMm(m:aG)(n:Int)(o:Int):KC Tryz.prog (qI m n o) 237 [.agg (cA m),.cp [.j n],.cp [.j o]] (λr:Bool=>(.b r)):=⟨call237,λr h=>fnw xT {} func237 results237 ntmps237⟩

theorem aYe(a0:aD)(a1:List aA){r:(List aG)×Int}(h:pE a0 a1=some r):Fn Tryz.prog 235 (Z2 a0 a1) ((λx:(List aG)×Int=>.tup [.d (.sl 4 (x.1.map cA)),.i x.2]) r):=aIx (enc:=λx:(List aG)×Int=>.tup [.d (.sl 4 (x.1.map cA)),.i x.2]) (aYd a0 a1 (aUk a0 a1 h (λx=>x=r) rfl))

theorem aPj(d:aJ)(a:Int)(c:Int){r:aG×Bool}{d_0_Register_Days_v:Value}(h:oZ d a c=some r):Fn Tryz.prog 197 [.cp (bx0 d (Z3 d_0_Register_Days_v)),.i a,.i c] (.tup [.agg (cA r.1),.b r.2]):=by
 unfold oZ at h;refine fnx xT {} [.cell 6 49,.tmp 7] func197 results197 ntmps197 ?_;refine⟨by kernel_rfl,?_⟩;refine cd call235 (λ_=>aYe _ _) h λr4 h=>?_;refine⟨by kernel_rfl,?_⟩;refine cl call236 (λ_=>aGf _ _ 237 [.cp [.j a],.cp [.j c]] call237 (λ_ _ h=>KC.o h)) h λr7 h=>?_;refine br h (λh=>?_) λh=>?_
 ·cases h;exact⟨rfl,_,_,rfl,rfl,rfl,rfl,rfl⟩
 ·refine oi h λx9 h=>?_;cases h;exact⟨rfl,_,_,rfl,rfl,rfl,rfl,rfl⟩

theorem tB(a:aJ){r:Bool}{d_0_Register_Days_v:Value}(h:iX a=some r):Fn Tryz.prog 184 [.cp (bx0 a (Z3 d_0_Register_Days_v))] (.b r):=by
 unfold iX at h;refine fnx xT {} [.tmp 2] func184 results184 ntmps184 ?_;cases h;exact⟨rfl,rfl,rfl⟩

theorem aQr(c:aJ)(a:Int)(b:Int)(e:Int){r:Str×aJ}{d_0_b d_0_o:Nat}{d_0_Register_Notices_v:Value}{d_0_Register_Slips_v:Value}{d_0_Register_Days_v:Value}(h:lG c a b e=some r):aX Tryz.prog 132 [.bp d_0_b d_0_o 0,.i a,.i b,.i e] (Z1 d_0_b d_0_o c d_0_Register_Notices_v d_0_Register_Slips_v d_0_Register_Days_v) (λr' o'=>∃(f:Value) (g:Value),r'=.d (.lit (.string ⟨r.1.toArray⟩))/\o'=[.box d_0_b d_0_o (bx1 r.2 (.lit f) (.lit g) (Z3 d_0_Register_Days_v)),.arr f 166 5 (Z17 r),.arr g 60 5 (Z20 r)]):=by
 refine fng xT {} false [(d_0_b,d_0_o,undef),(0,0,d_0_Register_Notices_v),(0,0,d_0_Register_Slips_v)] [.bp 100000 0 0,.i a,.i b,.i e] [(100000,.box (Z7 c d_0_Register_Days_v)),(100001,.arr 166 5 (Z18 c)),(100002,.arr 60 5 (Z21 c))] [.tmp 8] func132 results132 ntmps132 ?_
 repeat' ((conv=>whnf);first|(refine S2 ?_ ?_<;>intro _ _ h)|(refine S1 ?_;intro _ _ h)|(refine cl call197 (λ_=>aPj _ _ _) h ?_;intro _ h)|(refine cl call184 (λ_=>tB _) h ?_;intro _ h)|exact S0)

theorem bDb(n:Int){r:Str}(h:strconv_Itoa n=some r):Fn Tryz.prog 188 [.i n] (.d (.lit (.string ⟨r.toArray⟩))):=cGi cFh (λn h0 h1 w ht=>Tryz.strconv_Itoa n h0 h1 w ht) h
instance cHx(n:Int):KC Tryz.prog (strconv_Itoa n) 188 [.i n] (λr:Str=>(.d (.lit (.string ⟨r.toArray⟩)))):=⟨call188,λ_ h=>bDb _ h⟩

theorem aGb(a:aJ)(b:Int)(c:Int){r:Str×aJ}{d_0_b d_0_o:Nat}{d_0_Register_Notices_v:Value}{d_0_Register_Slips_v:Value}{d_0_Register_Days_v:Value}(h:lY a b c=some r):aX Tryz.prog 185 [.bp d_0_b d_0_o 0,.i b,.i c] (Z1 d_0_b d_0_o a d_0_Register_Notices_v d_0_Register_Slips_v d_0_Register_Days_v) (λr' o'=>∃(e:Value) (f:Value),r'=.d (.lit (.string ⟨r.1.toArray⟩))/\o'=[.box d_0_b d_0_o (bx1 r.2 (.lit e) (.lit f) (Z3 d_0_Register_Days_v)),.arr e 166 5 (Z17 r),.arr f 60 5 (Z20 r)]):=by
 refine fng xT {} false [(d_0_b,d_0_o,undef),(0,0,d_0_Register_Notices_v),(0,0,d_0_Register_Slips_v)] [.bp 100000 0 0,.i b,.i c] [(100000,.box (Z7 a d_0_Register_Days_v)),(100001,.arr 166 5 (Z18 a)),(100002,.arr 60 5 (Z21 a))] [.tmp 6] func185 results185 ntmps185 ?_
 repeat' ((conv=>whnf);first|(refine S2 ?_ ?_<;>intro _ _ h)|(refine S1 ?_;intro _ _ h)|exact S0)

theorem aMw(c:aJ)(a:Int)(b:Int){r:Str×aJ}{d_0_b d_0_o:Nat}{d_0_Register_Notices_v:Value}{d_0_Register_Slips_v:Value}{d_0_Register_Days_v:Value}(h:fW c a b=some r):aX Tryz.prog 116 [.bp d_0_b d_0_o 0,.i a,.i b] (Z1 d_0_b d_0_o c d_0_Register_Notices_v d_0_Register_Slips_v d_0_Register_Days_v) (λr' o'=>∃(e:Value) (f:Value),r'=.d (.lit (.string ⟨r.1.toArray⟩))/\o'=[.box d_0_b d_0_o (bx1 r.2 (.lit e) (.lit f) (Z3 d_0_Register_Days_v)),.arr e 166 5 (Z17 r),.arr f 60 5 (Z20 r)]):=by
 unfold fW at h;refine fng xT {} false [(d_0_b,d_0_o,undef),(0,0,d_0_Register_Notices_v),(0,0,d_0_Register_Slips_v)] [.bp 100000 0 0,.i a,.i b] [(100000,.box (Z7 c d_0_Register_Days_v)),(100001,.arr 166 5 (Z18 c)),(100002,.arr 60 5 (Z21 c))] [.tmp 6] func116 results116 ntmps116 ?_;refine cl call184 (λ_=>tB _) h λr1 h=>?_;refine jg h (λx h=>?_) λb3 h=>?_
 ·refine br h (λh=>?_) λh=>?_
  ·exact jt h
  ·exact jt h
 ·refine br h (λh=>?_) λh=>?_
  ·cases h;exact⟨rfl,[100000,100001,100002],λ_ _ _=>⟨d_0_Register_Notices_v,d_0_Register_Slips_v,rfl,by kernel_rfl⟩⟩
  ·refine cg (α:=Str×aJ) [(100000,_),(100001,_),(100002,_)] [1018,2018] (λr5=>.d (.lit (.string ⟨r5.1.toArray⟩))) (λr5=>[some (.box (bx1 r5.2 (.hv 0 1018 0) (.hv 0 2018 0) (Z3 d_0_Register_Days_v))),none,none]) (λr5=>[(1018,.arr 166 5 (r5.2.Register.Notices.map cY)),(2018,.arr 60 5 (r5.2.Register.Slips.map aL))]) call185 (λ_ h q=>⟨_,aGb (d_0_b:=q.bb 100000) (d_0_o:=q.oo 100000) (d_0_Register_Notices_v:=q.ss 100001) (d_0_Register_Slips_v:=q.ss 100002) (d_0_Register_Days_v:=d_0_Register_Days_v) c (w64 (1-a)) b h,λ_ _ ⟨w0,w1,e1,e2⟩=>⟨_,rfl,[.s w0,.s w1],e1,e2.trans (by kernel_rfl)⟩⟩) h λr5 h=>?_;cases h;exact⟨rfl,[100000,1018,2018],λ_ _ s=>⟨s 1018,s 2018,rfl,by kernel_rfl⟩⟩

theorem bBn(b:aD)(c:List aA){Q:(Int×Int)->Prop}(h:xB b c Q):aX Tryz.prog 190 (Z2 b c) [] (λr' o'=>∃(r:Int×Int),Q r/\r'=.tup [.i r.1,.i r.2]/\o'=[]):=by
 unfold xB at h;refine fng xT {nd:=[11]} false [] (Z2 b c) [] [.tmp 4,.tmp 5] func190 results190 ntmps190 ?_;refine cgq call43 (tS _ _ h) ?_ (λ_=>by rintro⟨_|_,_⟩<;>rfl);rintro⟨_|y4,e3⟩ h
 ·refine brp h (λh=>?_) λh=>?_
  ·exact⟨rfl,[],rfl,λ_ _ _=>⟨(0,e3),h,rfl,by kernel_rfl⟩⟩
  ·refine⟨by kernel_rfl,?_⟩;exact cEh h
 ·refine brp h (λh=>?_) λh=>?_
  ·exact⟨rfl,[],rfl,λ_ _ _=>⟨(0,e3),h,rfl,by kernel_rfl⟩⟩
  ·refine⟨by kernel_rfl,?_⟩;have h:=bRh h;refine ol ?_;have h:=bRh h;refine cOs underlying146 ?_;refine⟨by kernel_rfl,?_⟩;exact⟨rfl,[],rfl,λ_ _ _=>⟨(w64 ((w64 ((y4.Tree.Slots.length:Int)-1))-(((y4.won.map λp:aB×Int=>((λa:aB=>Value.agg ((aN a).map bD).toArray) p.1,aP p.2))).length:Int)),0),h,rfl,by kernel_rfl⟩⟩

theorem bBo(a0:aD)(a1:List aA){r:Int×Int}(h:tT a0 a1=some r):Fn Tryz.prog 190 (Z2 a0 a1) ((λx:Int×Int=>.tup [.i x.1,.i x.2]) r):=aIx (enc:=λx:Int×Int=>.tup [.i x.1,.i x.2]) (bBn a0 a1 (aVs a0 a1 h (λx=>x=r) rfl))

theorem aQq(a:aJ){r:Str}{d_0_Register_Days_v:Value}(h:nI a=some r):Fn Tryz.prog 122 [.cp (bx0 a (Z3 d_0_Register_Days_v))] (.d (.lit (.string ⟨r.toArray⟩))):=by
 unfold nI at h;refine fnx xT {} [.tmp 2] func122 results122 ntmps122 ?_;refine⟨by kernel_rfl,?_⟩;refine cl call190 (λ_=>bBo _ _) h λr1 h=>?_;refine⟨by kernel_rfl,?_⟩;refine cl call188 KC.h h λr3 h=>?_;cases h;exact⟨rfl,rfl,rfl⟩

instance bMl(a:aJ):KC Tryz.prog (vG a) 191 [.cp (yO a)] (λr:aH×Bool=>(.tup [.agg (cH r.1),.b r.2])):=⟨call191,λr h=>fnw xT {} func191 results191 ntmps191⟩

instance aQp(a:aJ):KC Tryz.prog (qC a) 123 [.cp (yO a)] (λr:Str=>(.d (.lit (.string ⟨r.toArray⟩)))):=⟨call123,λr h=>fnw xT {} func123 results123 ntmps123⟩

instance bYk(g:iN)(k:aS):KC Tryz.prog (aDc g k) 300 [.agg (vV g),.agg (cN k)] (λr:uU=>(.agg (aLk r))):=⟨call300,λr h=>fnw xT {} func300 results300 ntmps300⟩

instance bXn(l:uU)(e:aS):KC Tryz.prog (aJt l e) 325 [.agg (aLk l),.agg (cN e)] (λr:Bool=>(.b r)):=⟨call325,λr h=>fnw xT {} func325 results325 ntmps325⟩

instance bSo(c:bB):KC Tryz.prog (sW c) 301 [.cp (vU c)] (λr:Int=>(.i r)):=⟨call301,λr h=>fnw xT {} func301 results301 ntmps301⟩

instance bYj(g:iN)(j:Int):KC Tryz.prog (aDb g j) 326 [.agg (vV g),.i j] (λr:Bool=>(.b r)):=⟨call326,λr h=>fnw xT {} func326 results326 ntmps326⟩

instance bTm(c:bB):KC Tryz.prog (zH c) 306 [.cp (vU c)] (λr:Bool=>(.b r)):=⟨call306,λr h=>fnw xT {} func306 results306 ntmps306⟩

instance bSp(c:bB)(f:Int):KC Tryz.prog (mJ c f) 305 [.cp (vU c),.i f] (λr:Int=>(.i r)):=⟨call305,λr h=>fnw xT {} func305 results305 ntmps305⟩

theorem kP(a:bB){r:bB}{m_0_b m_0_o:Nat}{m_0_Score_Board_Sets_v:Value}{m_0_ties_v:Value}{m_0_games_v:Value}(h:kO a=some r):aX Tryz.prog 299 [.bp m_0_b m_0_o 0] (Z5 m_0_b m_0_o a m_0_Score_Board_Sets_v m_0_ties_v m_0_games_v) (λr' o'=>∃(b:Value) (w4:Value) (w5:Value),r'=.tup []/\o'=[.box m_0_b m_0_o (bx2 r (.lit b) (.lit w4) (.lit w5)),.arr b 119 2 (Z14 r),.arr w4 4 1 (r.ties.map tW),.arr w5 405 7 (r.games.map fT)]):=by
 refine fng xT {} true [(m_0_b,m_0_o,undef),(0,0,m_0_Score_Board_Sets_v),(0,0,m_0_ties_v),(0,0,m_0_games_v)] [.bp 100000 0 0] [(100000,.box (Z24 a)),(100001,.arr 119 2 (Z14 a)),(100002,.arr 4 1 (a.ties.map tW)),(100003,.arr 405 7 (a.games.map fT))] [] func299 results299 ntmps299 ?_
 repeat' ((conv=>whnf);first|(refine S2 ?_ ?_<;>intro _ _ h)|(refine S1 ?_;intro _ _ h)|exact S0)

theorem bFt(d:iN)(a:Int){r:bB}(h:aLt d a=some r):aX Tryz.prog 265 [.agg (vV d),.i a] [] (λr' o'=>∃(b o:Nat) (w0 w1 w2:Value),r'=.bp b o 0/\o'=[.box b o (bx2 r (.lit w0) (.lit w1) (.lit w2)),.arr w0 119 2 (Z14 r),.arr w1 4 1 (r.ties.map tW),.arr w2 405 7 (r.games.map fT)]):=by
 unfold aLt at h;refine fng xT {ow:=[30008,1100008,2300008,2400008]} false [] [.agg (vV d),.i a] [] [.tmp 4] func265 results265 ntmps265 ?_;refine cg (α:=bB) [(9,_),(11008,_),(23008,_),(24008,_)] [1015,2015,3015] (λr3=>.tup []) (λr3=>[some (.box (bx2 r3 (.hv 0 1015 0) (.hv 0 2015 0) (.hv 0 3015 0))),none,none,none]) (λr3=>[(1015,.arr 119 2 (r3.Score.Board.Sets.map cN)),(2015,.arr 4 1 (r3.ties.map tW)),(3015,.arr 405 7 (r3.games.map fT))]) call299 (λ_ h q=>⟨_,kP (m_0_b:=q.bb 9) (m_0_o:=q.oo 9) (m_0_Score_Board_Sets_v:=q.ss 11008) (m_0_ties_v:=q.ss 23008) (m_0_games_v:=q.ss 24008) (bB.mk d (dN.mk (eL.mk ([]:List aS) Z13 Z13) 0 0 0 (-1)) a Z13 ([]:List Bool) ([]:List yI)) h,λ_ _ ⟨w0,w1,w2,e1,e2⟩=>⟨_,rfl,[.s w0,.s w1,.s w2],e1,e2.trans (by kernel_rfl)⟩⟩) h λr3 h=>?_;cases h;exact⟨rfl,[9,1015,2015,3015],λb o s=>⟨b 9,o 9,s 1015,s 2015,s 3015,rfl,by kernel_rfl⟩⟩

instance cMw(c:aS)(g:Int):KC Tryz.prog (aKz c g) 302 [.agg (cN c),.i g] (λr:aS=>(.agg (cN r))):=⟨call302,λr h=>fnw xT {} func302 results302 ntmps302⟩

instance cMx(c:aS):KC Tryz.prog (aGc c) 303 [.agg (cN c)] (λr:Int=>(.i r)):=⟨call303,λr h=>fnw xT {} func303 results303 ntmps303⟩

instance cJe(c:aS)(f:Int)(k:Int):KC Tryz.prog (zR c f k) 307 [.agg (cN c),.i f,.i k] (λr:Int=>(.i r)):=⟨call307,λr h=>fnw xT {} func307 results307 ntmps307⟩

instance bXm(d:iN)(l:uU)(j:Bool)(e:aS):KC Tryz.prog (aJs d l j e) 304 [.agg (vV d),.agg (aLk l),.b j,.agg (cN e)] (λr:Int=>(.i r)):=⟨call304,λr h=>fnw xT {} func304 results304 ntmps304⟩

theorem aQs(a:bB)(b:Int){r:bB}{m_0_b m_0_o:Nat}{m_0_Score_Board_Sets_v:Value}{m_0_ties_v:Value}{m_0_games_v:Value}(h:zI a b=some r):aX Tryz.prog 266 [.bp m_0_b m_0_o 0,.i b] (Z5 m_0_b m_0_o a m_0_Score_Board_Sets_v m_0_ties_v m_0_games_v) (λr' o'=>∃(l:Value) (w4:Value) (w5:Value),r'=.tup []/\o'=[.box m_0_b m_0_o (bx2 r (.lit l) (.lit w4) (.lit w5)),.arr l 119 2 (Z14 r),.arr w4 4 1 (r.ties.map tW),.arr w5 405 7 (r.games.map fT)]):=by
 unfold zI at h;refine fng xT {} true [(m_0_b,m_0_o,undef),(0,0,m_0_Score_Board_Sets_v),(0,0,m_0_ties_v),(0,0,m_0_games_v)] [.bp 100000 0 0,.i b] [(100000,.box (Z24 a)),(100001,.arr 119 2 (Z14 a)),(100002,.arr 4 1 (a.ties.map tW)),(100003,.arr 405 7 (a.games.map fT))] [] func266 results266 ntmps266 ?_;refine⟨by kernel_rfl,?_⟩;refine cl call300 KC.h h λr1 h=>?_;refine cl call301 KC.h h λr3 h=>?_;refine⟨by kernel_rfl,?_⟩;refine oiy h λx6 h7 h=>?_;refine⟨rfl,_,xZ tW h7,?_⟩;refine cl call302 KC.h h λr8 h=>?_;refine cl call303 KC.h h λt h=>?_;refine⟨by kernel_rfl,?_⟩;refine cl call304 KC.h h λo h=>?_;refine⟨by kernel_rfl,?_⟩;refine br h (λh=>?_) λh=>?_
 ·refine jg h (λx h=>?_) λu h=>?_
  ·refine br h (λh=>?_) λh=>?_
   ·refine⟨by decide,?_⟩;exact jt h
   ·exact jt h
  ·refine br h (λh=>?_) λh=>?_
   ·refine cl call305 KC.h h λv h=>?_;cases h;exact⟨.inl rfl,[100000,100001,100002,100003],λ_ _ _=>⟨m_0_Score_Board_Sets_v,m_0_ties_v,m_0_games_v,rfl,by kernel_rfl⟩⟩
   ·refine cl call305 KC.h h λw h=>?_;cases h;exact⟨.inl rfl,[100000,100001,100002,100003],λ_ _ _=>⟨m_0_Score_Board_Sets_v,m_0_ties_v,m_0_games_v,rfl,by kernel_rfl⟩⟩
 ·refine⟨by kernel_rfl,?_⟩;refine ol ?_;refine cl call305 KC.h h λy h=>?_;refine cl call306 KC.h h λz h=>?_;refine oap h λk h=>?_;refine⟨by kernel_rfl,?_⟩;refine cl call302 KC.h h λp h=>?_;refine⟨by kernel_rfl,?_⟩;refine jo h (λx h=>?_) λA h=>?_
  ·refine br h (λh=>?_) λh=>?_
   ·exact⟨by kernel_rfl,jt h⟩
   ·refine cl call307 KC.h h λB h=>?_;exact⟨by kernel_rfl,jt h⟩
  ·refine⟨by kernel_rfl,?_⟩;refine br h (λh=>?_) λh=>?_
   ·refine⟨by kernel_rfl,?_⟩;refine oap h λm h=>?_;refine⟨by kernel_rfl,?_⟩;refine cl call302 KC.h h λn h=>?_;refine⟨by kernel_rfl,?_⟩;refine bRk ?_;refine⟨by kernel_rfl,?_⟩;refine br h (λh=>?_) λh=>?_
    ·refine cl call303 KC.h h λC h=>?_;refine⟨by decide,?_⟩;refine jg h (λx h=>?_) λE h=>?_
     ·refine br h (λh=>?_) λh=>?_
      ·exact jt h
      ·exact jt h
     ·refine br h (λh=>?_) λh=>?_
      ·refine cg (α:=bB) [(100000,_),(155,_),(100002,_),(111,_)] [1220,2220,3220] (λc=>.tup []) (λc=>[some (.box (bx2 c (.hv 0 1220 0) (.hv 0 2220 0) (.hv 0 3220 0))),none,none,none]) (λc=>[(1220,.arr 119 2 (c.Score.Board.Sets.map cN)),(2220,.arr 4 1 (c.ties.map tW)),(3220,.arr 405 7 (c.games.map fT))]) call299 (λ_ h q=>⟨_,kP (m_0_b:=q.bb 100000) (m_0_o:=q.oo 100000) (m_0_Score_Board_Sets_v:=q.ss 155) (m_0_ties_v:=q.ss 100002) (m_0_games_v:=q.ss 111) (bB.mk a.rules (dN.mk (eL.mk m Z13 Z13) a.Score.Server (w64 (a.Score.Ends+1)) a.Score.Balls o) a.first n a.ties k) h,λ_ _ ⟨w0,w1,w2,e1,e2⟩=>⟨_,rfl,[.s w0,.s w1,.s w2],e1,e2.trans (by kernel_rfl)⟩⟩) h λc h=>?_;cases h;exact⟨.inr rfl,[100000,1220,2220,3220],λ_ _ s=>⟨s 1220,s 2220,s 3220,rfl,by kernel_rfl⟩⟩
      ·refine cg (α:=bB) [(100000,_),(155,_),(100002,_),(111,_)] [1220,2220,3220] (λd=>.tup []) (λd=>[some (.box (bx2 d (.hv 0 1220 0) (.hv 0 2220 0) (.hv 0 3220 0))),none,none,none]) (λd=>[(1220,.arr 119 2 (d.Score.Board.Sets.map cN)),(2220,.arr 4 1 (d.ties.map tW)),(3220,.arr 405 7 (d.games.map fT))]) call299 (λ_ h q=>⟨_,kP (m_0_b:=q.bb 100000) (m_0_o:=q.oo 100000) (m_0_Score_Board_Sets_v:=q.ss 155) (m_0_ties_v:=q.ss 100002) (m_0_games_v:=q.ss 111) (bB.mk a.rules (dN.mk (eL.mk m Z13 Z13) a.Score.Server a.Score.Ends a.Score.Balls o) a.first n a.ties k) h,λ_ _ ⟨w0,w1,w2,e1,e2⟩=>⟨_,rfl,[.s w0,.s w1,.s w2],e1,e2.trans (by kernel_rfl)⟩⟩) h λd h=>?_;cases h;exact⟨.inr rfl,[100000,1220,2220,3220],λ_ _ s=>⟨s 1220,s 2220,s 3220,rfl,by kernel_rfl⟩⟩
    ·refine cl call303 KC.h h λF h=>?_;refine⟨by decide,?_⟩;refine jg h (λx h=>?_) λG h=>?_
     ·refine br h (λh=>?_) λh=>?_
      ·exact jt h
      ·exact jt h
     ·refine br h (λh=>?_) λh=>?_
      ·refine cg (α:=bB) [(100000,_),(155,_),(100002,_),(111,_)] [1220,2220,3220] (λe=>.tup []) (λe=>[some (.box (bx2 e (.hv 0 1220 0) (.hv 0 2220 0) (.hv 0 3220 0))),none,none,none]) (λe=>[(1220,.arr 119 2 (e.Score.Board.Sets.map cN)),(2220,.arr 4 1 (e.ties.map tW)),(3220,.arr 405 7 (e.games.map fT))]) call299 (λ_ h q=>⟨_,kP (m_0_b:=q.bb 100000) (m_0_o:=q.oo 100000) (m_0_Score_Board_Sets_v:=q.ss 155) (m_0_ties_v:=q.ss 100002) (m_0_games_v:=q.ss 111) (bB.mk a.rules (dN.mk (eL.mk m Z13 Z13) a.Score.Server (w64 (a.Score.Ends+1)) a.Score.Balls a.Score.Winner) a.first n a.ties k) h,λ_ _ ⟨w0,w1,w2,e1,e2⟩=>⟨_,rfl,[.s w0,.s w1,.s w2],e1,e2.trans (by kernel_rfl)⟩⟩) h λe h=>?_;cases h;exact⟨.inr rfl,[100000,1220,2220,3220],λ_ _ s=>⟨s 1220,s 2220,s 3220,rfl,by kernel_rfl⟩⟩
      ·refine cg (α:=bB) [(100000,_),(155,_),(100002,_),(111,_)] [1220,2220,3220] (λf=>.tup []) (λf=>[some (.box (bx2 f (.hv 0 1220 0) (.hv 0 2220 0) (.hv 0 3220 0))),none,none,none]) (λf=>[(1220,.arr 119 2 (f.Score.Board.Sets.map cN)),(2220,.arr 4 1 (f.ties.map tW)),(3220,.arr 405 7 (f.games.map fT))]) call299 (λ_ h q=>⟨_,kP (m_0_b:=q.bb 100000) (m_0_o:=q.oo 100000) (m_0_Score_Board_Sets_v:=q.ss 155) (m_0_ties_v:=q.ss 100002) (m_0_games_v:=q.ss 111) (bB.mk a.rules (dN.mk (eL.mk m Z13 Z13) a.Score.Server a.Score.Ends a.Score.Balls a.Score.Winner) a.first n a.ties k) h,λ_ _ ⟨w0,w1,w2,e1,e2⟩=>⟨_,rfl,[.s w0,.s w1,.s w2],e1,e2.trans (by kernel_rfl)⟩⟩) h λf h=>?_;cases h;exact⟨.inr rfl,[100000,1220,2220,3220],λ_ _ s=>⟨s 1220,s 2220,s 3220,rfl,by kernel_rfl⟩⟩
   ·refine cl call303 KC.h h λH h=>?_;refine⟨by decide,?_⟩;refine jg h (λx h=>?_) λI h=>?_
    ·refine br h (λh=>?_) λh=>?_
     ·exact jt h
     ·exact jt h
    ·refine br h (λh=>?_) λh=>?_
     ·refine cg (α:=bB) [(100000,_),(100001,_),(100002,_),(111,_)] [1220,2220,3220] (λg=>.tup []) (λg=>[some (.box (bx2 g (.hv 0 1220 0) (.hv 0 2220 0) (.hv 0 3220 0))),none,none,none]) (λg=>[(1220,.arr 119 2 (g.Score.Board.Sets.map cN)),(2220,.arr 4 1 (g.ties.map tW)),(3220,.arr 405 7 (g.games.map fT))]) call299 (λ_ h q=>⟨_,kP (m_0_b:=q.bb 100000) (m_0_o:=q.oo 100000) (m_0_Score_Board_Sets_v:=q.ss 100001) (m_0_ties_v:=q.ss 100002) (m_0_games_v:=q.ss 111) (bB.mk a.rules (dN.mk (eL.mk a.Score.Board.Sets p Z13) a.Score.Server (w64 (a.Score.Ends+1)) a.Score.Balls a.Score.Winner) a.first a.won a.ties k) h,λ_ _ ⟨w0,w1,w2,e1,e2⟩=>⟨_,rfl,[.s w0,.s w1,.s w2],e1,e2.trans (by kernel_rfl)⟩⟩) h λg h=>?_;cases h;exact⟨.inr rfl,[100000,1220,2220,3220],λ_ _ s=>⟨s 1220,s 2220,s 3220,rfl,by kernel_rfl⟩⟩
     ·refine cg (α:=bB) [(100000,_),(100001,_),(100002,_),(111,_)] [1220,2220,3220] (λj=>.tup []) (λj=>[some (.box (bx2 j (.hv 0 1220 0) (.hv 0 2220 0) (.hv 0 3220 0))),none,none,none]) (λj=>[(1220,.arr 119 2 (j.Score.Board.Sets.map cN)),(2220,.arr 4 1 (j.ties.map tW)),(3220,.arr 405 7 (j.games.map fT))]) call299 (λ_ h q=>⟨_,kP (m_0_b:=q.bb 100000) (m_0_o:=q.oo 100000) (m_0_Score_Board_Sets_v:=q.ss 100001) (m_0_ties_v:=q.ss 100002) (m_0_games_v:=q.ss 111) (bB.mk a.rules (dN.mk (eL.mk a.Score.Board.Sets p Z13) a.Score.Server a.Score.Ends a.Score.Balls a.Score.Winner) a.first a.won a.ties k) h,λ_ _ ⟨w0,w1,w2,e1,e2⟩=>⟨_,rfl,[.s w0,.s w1,.s w2],e1,e2.trans (by kernel_rfl)⟩⟩) h λj h=>?_;cases h;exact⟨.inr rfl,[100000,1220,2220,3220],λ_ _ s=>⟨s 1220,s 2220,s 3220,rfl,by kernel_rfl⟩⟩

theorem bKj(C:dC)(w:Int)(e:List Int){r:(Option bB)×Int}(h:aHu C w e=some r):Fn Tryz.prog 227 [.agg (lL C),.i w,.d (Z12 e)] (.tup [zY vU r.1,.i r.2]):=by
 unfold aHu at h;refine fnx xT {} [.tmp 6,.tmp 7] func227 results227 ntmps227 ?_;refine cl call58 KC.h h λr2 h=>?_;refine br h (λh=>?_) λh=>?_
 ·cases h;exact⟨rfl,_,_,rfl,rfl,rfl,rfl,rfl⟩
 ·refine jg h (λx h=>?_) λb4 h=>?_
  ·refine br h (λh=>?_) λh=>?_
   ·exact jt h
   ·exact jt h
  ·refine br h (λh=>?_) λh=>?_
   ·cases h;exact⟨rfl,_,_,rfl,rfl,rfl,rfl,rfl⟩
   ·refine ol ?_;refine br h (λh=>?_) λh=>?_
    ·cases h;exact⟨rfl,_,_,rfl,rfl,rfl,rfl,rfl⟩
    ·refine cg (α:=bB) [] [29,1029,2029,3029] (λ_=>.bp 29 0 0) (λ_=>[]) (λr6=>[(29,.box (bx2 r6 (.hv 0 1029 0) (.hv 0 2029 0) (.hv 0 3029 0))),(1029,.arr 119 2 (r6.Score.Board.Sets.map cN)),(2029,.arr 4 1 (r6.ties.map tW)),(3029,.arr 405 7 (r6.games.map fT))]) call265 (λ_ h q=>⟨_,bFt _ _ h,λ_ _ ⟨b,o,w0,w1,w2,e1,e2⟩=>⟨_,rfl,[.b b o,.s w0,.s w1,.s w2],e1,e2.trans (by kernel_rfl)⟩⟩) h λr6 h=>?_;refine ol ?_;refine xlp [9,30,31] [] (λ((y,z,n,p,a,f,g,t,u,v,j,l,c):Int×(List aS)×(List Bool)×(List yI)×iN×aS×aS×Int×Int×Int×Int×Int×aS)=>([(32,.i y)],[(1029,.arr 119 2 (z.map cN)),(2029,.arr 4 1 (n.map tW)),(3029,.arr 405 7 (p.map fT)),(29,.box [.j a.Format.Sets,.j a.Format.Games,.k a.Format.NoAd,.j a.Format.Tie,.j a.Format.To,.j a.Format.LastTie,.j a.Format.LastTo,.j a.Format.First,.j a.Format.Then,.k a.Format.Doubles,.hv 0 1029 0,.j f.A,.j f.B,.j g.A,.j g.B,.j t,.j u,.j v,.j j,.j l,.j c.A,.j c.B,.hv 0 2029 0,.hv 0 3029 0])])) (λk ((y,z,n,p,a,f,g,t,u,v,j,l,c):Int×(List aS)×(List Bool)×(List yI)×iN×aS×aS×Int×Int×Int×Int×Int×aS)=>aAc e (e.length:Int) k y z n p a f g t u v j l c) (0,r6.Score.Board.Sets,r6.ties,r6.games,r6.rules,r6.Score.Board.Games,r6.Score.Board.Points,r6.Score.Server,r6.Score.Ends,r6.Score.Balls,r6.Score.Winner,r6.first,r6.won) h (lev []) ?_;rintro k9 ⟨y,z,n,p,a,f,g,t,u,v,j,l,c⟩ h;simp only[aAc] at h;refine br h (λh=>?_) λh=>?_
     ·refine oi h λE h=>?_;refine jg h (λx h=>?_) λF h=>?_
      ·refine br h (λh=>?_) λh=>?_
       ·exact jt h
       ·exact jt h
      ·refine jg h (λx h=>?_) λG h=>?_
       ·refine br h (λh=>?_) λh=>?_
        ·exact jt h
        ·exact jt h
       ·refine br h (λh=>?_) λh=>?_
        ·cases h;exact⟨rfl,_,_,rfl,rfl,rfl,rfl,rfl⟩
        ·refine cg (α:=bB) [(29,_),(1029,_),(2029,_),(3029,_)] [1052,2052,3052] (λm=>.tup []) (λm=>[some (.box (bx2 m (.hv 0 1052 0) (.hv 0 2052 0) (.hv 0 3052 0))),none,none,none]) (λm=>[(1052,.arr 119 2 (m.Score.Board.Sets.map cN)),(2052,.arr 4 1 (m.ties.map tW)),(3052,.arr 405 7 (m.games.map fT))]) call266 (λ_ h q=>⟨_,aQs (m_0_b:=q.bb 29) (m_0_o:=q.oo 29) (m_0_Score_Board_Sets_v:=q.ss 1029) (m_0_ties_v:=q.ss 2029) (m_0_games_v:=q.ss 3029) (bB.mk a (dN.mk (eL.mk z f g) t u v j) l c n p) E h,λ_ _ ⟨w0,w1,w2,e1,e2⟩=>⟨_,rfl,[.s w0,.s w1,.s w2],e1,e2.trans (by kernel_rfl)⟩⟩) h λm h=>?_;exact⟨(w64 (y+1),m.Score.Board.Sets,m.ties,m.games,m.rules,m.Score.Board.Games,m.Score.Board.Points,m.Score.Server,m.Score.Ends,m.Score.Balls,m.Score.Winner,m.first,m.won),h,lev [(1029,1052),(2029,2052),(3029,3052)]⟩
     ·simp only[aQm] at h;cases h;exact⟨rfl,_,_,rfl,rfl,rfl,rfl,rfl⟩
instance cLw(C:dC)(w:Int)(e:List Int):KC Tryz.prog (aHu C w e) 227 [.agg (lL C),.i w,.d (Z12 e)] (λr:(Option bB)×Int=>(.tup [zY vU r.1,.i r.2])):=⟨call227,λ_ h=>bKj _ _ _ h⟩

theorem bKi(c:dC)(b:Int)(a:List Int){r:dN×Int}(h:aHt c b a=some r):Fn Tryz.prog 186 [.agg (lL c),.i b,.d (Z12 a)] (.tup [.agg (aUx r.1),.i r.2]):=by
 unfold aHt at h;refine fnx xT {} [.cell 6 287,.tmp 7] func186 results186 ntmps186 ?_;refine cdo call227 KC.h h (λe5 h=>?_) λy6 e5 h=>?_
 ·refine br h (λh=>?_) λh=>?_
  ·cases h;exact⟨rfl,_,_,rfl,rfl,rfl,rfl,rfl⟩
  ·cases h
 ·refine br h (λh=>?_) λh=>?_
  ·cases h;exact⟨rfl,_,_,rfl,rfl,rfl,rfl,rfl⟩
  ·have h:=cOm h;cases h;exact⟨rfl,_,_,rfl,rfl,rfl,rfl,rfl⟩
instance cLv(c:dC)(b:Int)(a:List Int):KC Tryz.prog (aHt c b a) 186 [.agg (lL c),.i b,.d (Z12 a)] (λr:dN×Int=>(.tup [.agg (aUx r.1),.i r.2])):=⟨call186,λ_ h=>bKi _ _ _ h⟩

theorem aPi(a:aJ)(b:Int){r:Str×aJ}{d_0_b d_0_o:Nat}{d_0_Register_Notices_v:Value}{d_0_Register_Slips_v:Value}{d_0_Register_Days_v:Value}(h:oY a b=some r):aX Tryz.prog 128 [.bp d_0_b d_0_o 0,.i b] (Z1 d_0_b d_0_o a d_0_Register_Notices_v d_0_Register_Slips_v d_0_Register_Days_v) (λr' o'=>∃(e:Value) (f:Value),r'=.d (.lit (.string ⟨r.1.toArray⟩))/\o'=[.box d_0_b d_0_o (bx1 r.2 (.lit e) (.lit f) (Z3 d_0_Register_Days_v)),.arr e 166 5 (Z17 r),.arr f 60 5 (Z20 r)]):=by
 unfold oY at h;refine fng xT {lr:=[(6,[30])]} false [(d_0_b,d_0_o,undef),(0,0,d_0_Register_Notices_v),(0,0,d_0_Register_Slips_v)] [.bp 100000 0 0,.i b] [(100000,.box (Z7 a d_0_Register_Days_v)),(100001,.arr 166 5 (Z18 a)),(100002,.arr 60 5 (Z21 a))] [.tmp 4] func128 results128 ntmps128 ?_;refine cl call184 (λ_=>tB _) h λr1 h=>?_;refine jg h (λx h=>?_) λb3 h=>?_
 ·refine br h (λh=>?_) λh=>?_
  ·exact jt h
  ·exact jt h
 ·refine br h (λh=>?_) λh=>?_
  ·cases h;exact⟨rfl,[100000,100001,100002],λ_ _ _=>⟨d_0_Register_Notices_v,d_0_Register_Slips_v,rfl,by kernel_rfl⟩⟩
  ·refine ol ?_;refine br h (λh=>?_) λh=>?_
   ·cases h;exact⟨rfl,[100000,100001,100002],λ_ _ _=>⟨d_0_Register_Notices_v,d_0_Register_Slips_v,rfl,by kernel_rfl⟩⟩
   ·refine cow call169 (λ_=>rR _) h λr5 h=>?_;refine oap h λx8 h=>?_;refine⟨by kernel_rfl,?_⟩;refine cd call186 KC.h h λg h=>?_;refine⟨by kernel_rfl,?_⟩;refine br h (λh=>?_) λh=>?_
    ·refine cg (α:=Str×aJ) [(100000,_),(100001,_),(100002,_)] [1052,2052] (λc=>.d (.lit (.string ⟨c.1.toArray⟩))) (λc=>[some (.box (bx1 c.2 (.hv 0 1052 0) (.hv 0 2052 0) (Z3 d_0_Register_Days_v))),none,none]) (λc=>[(1052,.arr 166 5 (c.2.Register.Notices.map cY)),(2052,.arr 60 5 (c.2.Register.Slips.map aL))]) call185 (λ_ h q=>⟨_,aGb (d_0_b:=q.bb 100000) (d_0_o:=q.oo 100000) (d_0_Register_Notices_v:=q.ss 100001) (d_0_Register_Slips_v:=q.ss 100002) (d_0_Register_Days_v:=d_0_Register_Days_v) a g.1.Winner 1 h,λ_ _ ⟨w0,w1,e1,e2⟩=>⟨_,rfl,[.s w0,.s w1],e1,e2.trans (by kernel_rfl)⟩⟩) h λc h=>?_;cases h;exact⟨rfl,[100000,1052,2052],λ_ _ s=>⟨s 1052,s 2052,rfl,by kernel_rfl⟩⟩
    ·cases h;exact⟨rfl,[100000,100001,100002],λ_ _ _=>⟨d_0_Register_Notices_v,d_0_Register_Slips_v,rfl,by kernel_rfl⟩⟩

theorem bAz(s sep:Str){r:List Str}(h:strings_Split s sep=some r):Fn Tryz.prog 101 [.d (.lit (.string ⟨s.toArray⟩)),.d (.lit (.string ⟨sep.toArray⟩))] (.d (.sl 1 (r.map wG))):=cCp cFg (λs sep m w h1 h2 h3=>Tryz.strings_Split s sep m w h1 h2 h3) h
instance cFa(s sep:Str):KC Tryz.prog (strings_Split s sep) 101 [.d (.lit (.string ⟨s.toArray⟩)),.d (.lit (.string ⟨sep.toArray⟩))] (λr:List Str=>(.d (.sl 1 (r.map wG)))):=⟨call101,λ_ h=>bAz _ _ h⟩

instance cCa(l:Str):KC Tryz.prog (aMx l) 102 [.d (.lit (.string ⟨l.toArray⟩))] (λr:Int×Bool=>(.tup [.i r.1,.b r.2])):=⟨call102,λr h=>by
 refine fnx xT {} _ func102 results102 ntmps102 ?_
 repeat' ((conv=>whnf);first|(refine S2 ?_ ?_<;>intro _ _ h)|(refine S1 ?_;intro _ _ h)|refine cBt (a:=l) (b:=([]:Str)) ?_|refine cEn (a:=l) underlying9 ?_|(refine cNo underlying9 h ?_;intro _ h)|refine cBu (a:=l) (b:=([48]:Str)) ?_|(refine cKs underlying9 underlying279 underlying5 h ?_;intro _ h)|(refine xl2 [24,25] [] (F:=zG _ _) (λ(a:Int) (b:Int)=>([(4,.i a),(26,.i b)],[])) h eB ?_;intro k a b h)|exact S0)⟩

instance bAg(u:Str):KC Tryz.prog (sC u) 60 [.d (.lit (.string ⟨u.toArray⟩))] (λr:Str×(List Int)×Bool=>(.tup [.d (.lit (.string ⟨r.1.toArray⟩)),.d (.sl 1 (r.2.1.map aP)),.b r.2.2])):=⟨call60,λr h=>by
 refine fnx xT {ow:=[3,3]} _ func60 results60 ntmps60 ?_
 repeat' ((conv=>whnf);first|(refine S2 ?_ ?_<;>intro _ _ h)|(refine S1 ?_;intro _ _ h)|(refine xl2 [5,13,14] [] (F:=aAo _ _ _) (λ(a:Int) (b:(List Int))=>([(3,.d (.hv 0 3 0)),(15,.i a)],[(3,.arr 3 1 (b.map aP))])) h eB ?_;intro k a b h)|exact S0)⟩

instance bTe(n:Int)(j:Int)(g:Int):KC Tryz.prog (jK n j g) 62 [.i n,.i j,.i g] (λr:Bool=>(.b r)):=⟨call62,λr h=>fnw xT {} func62 results62 ntmps62⟩

instance bUp(o:oA)(y:List mC):KC Tryz.prog (vC o y) 34 [.agg (aFa o),.d (.sl 5 (y.map cY))] (λr:Int=>(.i r)):=⟨call34,λr h=>by
 refine fnx xT {} _ func34 results34 ntmps34 ?_
 repeat' ((conv=>whnf);first|(refine S2 ?_ ?_<;>intro _ _ h)|(refine S1 ?_;intro _ _ h)|(refine xl1 [1] [] (F:=wF _) (λ(a:Int)=>([(5,.i a)],[])) h eB ?_;intro k a h)|exact S0)⟩

instance bTd(n:Int)(j:Int)(g:Int):KC Tryz.prog (gY n j g) 67 [.i n,.i j,.i g] (λr:Bool=>(.b r)):=⟨call67,λr h=>fnw xT {} func67 results67 ntmps67⟩

instance bUo(o:dC)(z:Int):KC Tryz.prog (qZ o z) 68 [.agg (lL o),.i z] (λr:Bool=>(.b r)):=⟨call68,λr h=>fnw xT {} func68 results68 ntmps68⟩

instance bUn(o:dC):KC Tryz.prog (vB o) 36 [.agg (lL o)] (λr:Int=>(.i r)):=⟨call36,λr h=>fnw xT {} func36 results36 ntmps36⟩

instance bTk(n:Int)(j:Int)(g:Int):KC Tryz.prog (cU n j g) 26 [.i n,.i j,.i g] (λr:Bool=>(.b r)):=⟨call26,λr h=>fnw xT {} func26 results26 ntmps26⟩

instance bNh(A:bO):KC Tryz.prog (gW A) 49 [.agg (bS A)] (λr:Bool=>(.b r)):=⟨call49,λr h=>fnw xT {} func49 results49 ntmps49⟩

instance bUu(B:bK)(p:Int)(v:Int):KC Tryz.prog (vD B p v) 27 [.agg (aW B),.i p,.i v] (λr:Bool=>(.b r)):=⟨call27,λr h=>by
 refine fnx xT {} _ func27 results27 ntmps27 ?_
 repeat' ((conv=>whnf);first|(refine S2 ?_ ?_<;>intro _ _ h)|(refine S1 ?_;intro _ _ h)|(refine xl1 [1,2,3] [3] (F:=jQ _ _ _) (λ(a:Int)=>([(7,.i a)],[])) h eB ?_;intro k a h)|(refine xl1 [1,2,3] [3] (F:=lK _ _ _) (λ(a:Int)=>([(8,.i a)],[])) h eB ?_;intro k a h)|exact S0)⟩

instance bUt(C:aH):KC Tryz.prog (oE C) 7 [.agg (cH C)] (λr:Int=>(.i r)):=⟨call7,λr h=>by
 refine fnx xT {} _ func7 results7 ntmps7 ?_
 repeat' ((conv=>whnf);first|(refine S2 ?_ ?_<;>intro _ _ h)|(refine S1 ?_;intro _ _ h)|(refine xl1 [1] [1] (F:=eI _) (λ(a:Int)=>([(3,.i a)],[])) h eB ?_;intro k a h)|(refine xl1 [1,3] [1] (F:=jP _ _ _) (λ(a:Int)=>([(4,.i a)],[])) h eB ?_;intro k a h)|(refine xl1 [1] [1] (F:=lJ _) (λ(a:Int)=>([(6,.i a)],[])) h eB ?_;intro k a h)|exact S0)⟩

instance bYh(E:aD)(q:List bR):KC Tryz.prog (mS E ([]:List aA) q) 37 [.agg (bU E),.d (.sl 5 (([]:List aA).map aL)),.d (.sl 3 (q.map fR))] (λr:(List bK)×(List aG)×Int=>(.tup [.d (.sl 6 (r.1.map aW)),.d (.sl 4 (r.2.1.map cA)),.i r.2.2])):=⟨call37,λr h=>by
 refine fnx xT {ow:=[11,17,30019,30118,300019,300118],lt:=[(158,[19,3118])]} _ func37 results37 ntmps37 ?_
 repeat' ((conv=>whnf);first|(refine S2 ?_ ?_<;>intro _ _ h)|(refine S1 ?_;intro _ _ h)|(refine xl1 [1,2,3] [3] (F:=iK _ _ _) (λ(a:Int)=>([(10,.i a)],[])) h eB ?_;intro k a h)|(refine xl2 [1,2,3,12] [3] (F:=iL _ _ _ _) (λ(a:Int) (b:(List aG))=>([(11,.d (.hv 0 11 0)),(14,.i a)],[(11,.arr 49 4 (b.map cA))])) h eB ?_;intro k a b h)|(refine xl2 [2,11] [11] (F:=fQ _ _) (λ(a:Int) (b:(List bK))=>([(17,.d (.hv 0 17 0)),(18,.i a)],[(17,.arr 97 6 (b.map aW))])) h eB ?_;intro k a b h)|(refine xl6 [2,11,17,18,19] [11,17] (F:=kK _ _ _ _ _) (λ(a:Int) (b:(List Int)) (c:bO) (d:(List Int)) (e:Int) (f:Int)=>([(20,.i a)],[(3118,.arr 3 1 (b.map aP)),(19,.box [.j c.Low,.j c.High,.hv 0 3118 0,.sl 1 (d.map aP),.j e,.j f])])) h eB ?_;intro k a b c d e f h)|exact S0)⟩

instance bUv(x:dK):KC Tryz.prog (oF x) 13 [.agg (fO x)] (λr:Int=>(.i r)):=⟨call13,λr h=>fnw xT {} func13 results13 ntmps13⟩

instance bZi(x:dK)(t:List Str):KC Tryz.prog (yM x t) 12 [.agg (fO x),.d (.sl 1 (t.map wG))] (λr:Bool=>(.b r)):=⟨call12,λr h=>by
 refine fnx xT {} _ func12 results12 ntmps12 ?_
 repeat' ((conv=>whnf);first|(refine S2 ?_ ?_<;>intro _ _ h)|(refine S1 ?_;intro _ _ h)|(refine xl1 [1,2] [2] (F:=nF _ _) (λ(a:Int)=>([(5,.i a)],[])) h eB ?_;intro k a h)|(refine xl1 [1] [] (F:=zF _) (λ(a:Int)=>([(6,.i a)],[])) h eB ?_;intro k a h)|refine cEn underlying9 ?_|exact S0)⟩

theorem bMk(g:aH)(e:Int){r:cE}(h:uP g e=some r):Fn Tryz.prog 96 [.agg (cH g),.i e] (.agg (bX r)):=by
 unfold uP at h;refine hZ func96 rfl (rs:=[.cell 4 209]) results96 ntmps96 (f5 rfl) ?_;refine bH (aV ?_);refine cC rfl (mY (v:=.agg (cH g)) (aC rfl) rfl rfl rfl) ?_;rintro _ ⟨b1,rfl⟩;refine cC rfl (dW (zs:=[.j 0,.j 0,.j 0,.j 0,.j 0,.j 0,.j 0,.j 0,.j 0,.j 0]) (aC rfl) zeroValue209 rfl rfl) ?_;rintro _ ⟨b2,rfl⟩;refine au 4 ?_;refine to (jI (aC rfl) cIc (zs:=[.j 0,.j 0,.j 0,.j 0,.j 0,.j 0,.j 0,.j 0,.j 0,.j 0]) rfl rfl rfl rfl (es:=[.j e,.j 0,.j 0,.j 0,.j 0,.j 0,.j 0,.j 0,.j 0,.j 0]) rfl) ?_;refine cC rfl (dW (zs:=[.j 0,.j 0,.j 0,.j 0,.j 0,.j 0,.j 0,.j 0,.j 0,.j 0]) (aC rfl) zeroValue209 rfl rfl) ?_;rintro _ ⟨b3,rfl⟩;refine to (sst 2 rfl rfl sizeOf209 (bX (cE.mk e (A3.mk 0 0 0) (A6.mk 0 0 0 0 0 0)))) (au 7 ?_);obtain⟨x4,h5,h⟩:=bns h;refine to (six rfl rfl aLa.of (fM aO h5)) (au 5 ?_);refine fC (S:=Int×cE) [4,5,14,15] (λs6=>[(16,.i s6.1)]) (λs6=>[.box b2 0 (bX Z22),.box b3 0 (bX s6.2)]) (λk s6=>oX x4 (x4.length:Int) Z22 k s6.1 s6.2) (λ_=>rfl) (0,(cE.mk e (A3.mk 0 0 0) (A6.mk 0 0 0 0 0 0))) h (bE [1,2] rfl rfl (bG rfl (bL (ae rfl)))) ?_;rintro k7 ⟨f,c⟩ h;simp only[oX] at h;refine au 5 ?_;refine tih h (λc8 h=>?_) (λc8 h=>?_)
 ·refine au 6 ?_;obtain⟨x9,p,h⟩:=bns h;refine to (six rfl rfl aLb.of (fM bS p)) (to (aDd (bS x9) rfl aXt) ?_);refine cC rfl (dW (zs:=[.j 0,.j 0]) (aC rfl) zeroValue81 rfl rfl) ?_;rintro _ ⟨q,rfl⟩;refine ta (.i f) (to (sst 2 rfl rfl sizeOf81 (bS x9)) (au 6 ?_));obtain⟨s,m,h⟩:=bns h;refine to (aFj (aC rfl) rfl rfl bBj (iU m).1 (iU m).2) ?_;refine to (eY (i:=1) (ds:=(bX c)) rfl rfl rfl rfl rfl sizeOf3 rfl (aC rfl) (bIg m rfl) (ds':=(bX (cE.mk c.number (c.free.set f x9.Low) c.ends))) (A3.updI (a:=c.free) m (λqq=>(bX (cE.mk c.number qq c.ends))) rfl rfl rfl)) ?_;refine yY ?_;refine au 4 ?_;exact⟨(w64 (f+1),(cE.mk c.number (c.free.set f x9.Low) c.ends)),h,bE [0,1] rfl rfl (bG rfl (bL (ae rfl)))⟩
 ·refine eU ?_;refine .inl ⟨rfl,?_⟩;simp only[aJk] at h;refine bH (aV (to (sla 1 (bX c) rfl rfl aLy) (to (sst 0 rfl rfl sizeOf209 (bX c)) (aZ ?_))));obtain rfl:=sIn h;exact eK ⟨rfl,_,[.box b2 0 (bX c),.box b3 0 (bX c)],.one (.cell 4 209 rfl (i:=0) rfl aLy (es:=(bX c)) rfl rfl),.refl _,.same _⟩
instance aVm(g:aH)(e:Int):KC Tryz.prog (uP g e) 96 [.agg (cH g),.i e] (λr:cE=>(.agg (bX r))):=⟨call96,λ_ h=>bMk _ _ h⟩

instance aJl(o:aE)(n:Int):KC Tryz.prog (uC o n) 173 [.agg (aM o),.i n] (λr:Bool=>(.b r)):=⟨call173,λr h=>by
 refine fnx xT {} _ func173 results173 ntmps173 ?_
 repeat' ((conv=>whnf);first|(refine S2 ?_ ?_<;>intro _ _ h)|(refine S1 ?_;intro _ _ h)|refine cNi ?_|exact S0)⟩

instance bLi(j:List aF)(l:aF):KC Tryz.prog (pP j l) 253 [.d Z25,.agg (aK l)] (λr:Int=>(.i r)):=⟨call253,λr h=>by
 refine fnx xT {} _ func253 results253 ntmps253 ?_
 repeat' ((conv=>whnf);first|(refine S2 ?_ ?_<;>intro _ _ h)|(refine S1 ?_;intro _ _ h)|(refine xl1 [0,3,7] [3] (F:=iH _ _ _) (λ(a:Int)=>([(8,.i a)],[])) h eB ?_;intro k a h)|exact S0)⟩

instance aGw(j:List aF)(l:aF):KC Tryz.prog (nB j l) 218 [.d Z25,.agg (aK l)] (λr:Bool=>(.b r)):=⟨call218,λr h=>fnw xT {} func218 results218 ntmps218⟩

theorem aFz(a:dQ)(e:aF){r:Int}{c:Nat}(h:oG a e=some r):Fn Tryz.prog 174 [.cp (Z0 a c),.agg (aK e)] (.i r):=by
 unfold oG at h;refine oT [.tmp 4] func174 results174 ntmps174 ?_;refine bH (aV ?_);refine cC rfl (mY (v:=.agg (aK e)) (aC rfl) rfl rfl rfl) ?_;rintro _ ⟨b1,rfl⟩;refine au 4 ?_;obtain⟨b2,h3,h⟩:=bns h;refine rK mix 13 [] [(17,.b b2)] ?_ ?_
 ·refine bch h3 (λc4 h3=>?_) (λc4 h3=>?_)
  ·obtain rfl:=sIn h3;refine⟨[(5,0,.cp (Z0 a c)),(6,1,.cp (Z0 a c)),(7,2,.cp [fA 3 aK a.old]),(8,3,.d (fA 3 aK a.old)),(9,4,.b a.old.isNone),(10,5,.b a.old.isNone),(11,6,.tup []),(12,7,.tup []),(13,8,.tup []),(14,9,.tup []),(15,10,.tup []),(16,11,.tup []),(17,12,.b true)],?_,?_⟩
   · exact dk [0,1,2,3,4,5,6,607,608,609,6,61011,612] ⟨go (zm (.cp (Z0 a c))),
 go λS hS=>gQ (aC rfl) (bN hS rfl),
 go (zfc [fA 3 aK a.old] rfl aRl),
 go (zlc rfl bJd),
 go λS hS=>bOk (aC rfl) (bN hS rfl) underlying43,
 go (zm (.b a.old.isNone)),
 gp c4,
 gp c4,
 gp c4,
 gp c4,
 gp c4,
 gp c4,
 go (zpt (.b true) c4),trivial⟩
   · exact kL (bG rfl (bL trivial))
  ·obtain⟨r5,h6,h3⟩:=bns h3;obtain rfl:=sIn h3;refine⟨[(5,0,.cp (Z0 a c)),(6,1,.cp (Z0 a c)),(7,2,.cp [fA 3 aK a.old]),(8,3,.d (fA 3 aK a.old)),(9,4,.b a.old.isNone),(10,5,.b a.old.isNone),(11,6,.cp (Z0 a c)),(12,7,.cp (Z0 a c)),(13,8,.cp [fA 3 aK a.old]),(14,9,.d (fA 3 aK a.old)),(15,10,.agg (aK e)),(16,11,.b r5),(17,12,.b r5)],?_,?_⟩
   · exact dk [0,1,2,3,4,5,6,607,608,609,6,61011,612] ⟨go (zm (.cp (Z0 a c))),
 go λS hS=>gQ (aC rfl) (bN hS rfl),
 go (zfc [fA 3 aK a.old] rfl aRl),
 go (zlc rfl bJd),
 go λS hS=>bOk (aC rfl) (bN hS rfl) underlying43,
 go (zm (.b a.old.isNone)),
 gt c4 (zm (.cp (Z0 a c))),
 gt c4 λS hS=>gQ (aC rfl) (bN hS rfl),
 gt c4 (zfc [fA 3 aK a.old] rfl aRl),
 gt c4 (zlc rfl bJd),
 gt c4 (zla 0 (aK e) rfl rfl aIo),
 gt c4 λS hS=>pB (aC rfl) (.func _ _ call218) (ev2 (bN hS rfl) (ev2 (bN hS rfl) evn)) rfl (.cons (.d (cJu _)) (.cons (.same _) .nil)) ((aGw _ _).h _ h6) rfl,
 go (zpf (.b r5) c4),trivial⟩
   · exact kL (bG rfl (bL trivial))
 ·refine aZ ?_;refine tih h (λc7 h=>?_) (λc7 h=>?_)
  ·refine au 4 ?_;obtain rfl:=sIn h;refine jZ (aAh (aEb (l:=[4]) (ae rfl))) ?_;exact rt
  ·refine au 5 ?_;obtain rfl:=sIn h;refine jZ (aAh (aEb (l:=[4]) (ae rfl))) ?_;exact rt

instance cHi(f:Int)(g:Int)(j:aH):KC Tryz.prog (aCu f g j) 254 [.i f,.i g,.cp (cH j)] (λr:Bool=>(.b r)):=⟨call254,λr h=>fnw xT {} func254 results254 ntmps254⟩

instance bJp(k:aH)(m:Int)(n:Int):KC Tryz.prog (aHo k m n) 219 [.agg (cH k),.i m,.i n] (λr:Bool=>(.b r)):=⟨call219,λr h=>fnw xT {} func219 results219 ntmps219⟩

theorem aKw(f:cE)(j:aH)(g:aF)(e:Int){r:Int×Int×cE}{d_0_b d_0_o:Nat}{d_0_post:List D}(h:pT f j g e=some r):aX Tryz.prog 175 [.bp d_0_b d_0_o 0,.agg (cH j),.agg (aK g),.i e] [.box d_0_b d_0_o ((bX f)++d_0_post)] (λr' o'=>r'=.tup [.i r.1,.i r.2.1]/\o'=[.box d_0_b d_0_o ((bX r.2.2)++d_0_post)]):=by
 unfold pT at h;refine bTt func175 rfl (rs:=[.tmp 8,.tmp 9]) results175 ntmps175 (f5 rfl) ?_;refine bH (aV ?_);refine cC rfl (mY (v:=.agg (cH j)) (aC rfl) rfl rfl rfl) ?_;rintro _ ⟨b1,rfl⟩;refine cC rfl (mY (v:=.agg (aK g)) (aC rfl) rfl rfl rfl) ?_;rintro _ ⟨b2,rfl⟩;refine au 4 ?_;obtain⟨u3,h4,h⟩:=bns h;obtain⟨x5,h6,h⟩:=bns h;refine rK mix 14 [0,3,5,6] [(18,.i (f.free.at g.Court)),(25,.i x5.Earliest)] ?_ ?_
 ·refine⟨[(12,0,.bp d_0_b d_0_o 0),(13,1,.bp b2 0 2),(14,2,.i g.Court),(15,3,.bp d_0_b d_0_o 0),(16,4,.bp d_0_b d_0_o 1),(17,5,.bp d_0_b d_0_o (1+g.Court.toNat*1)),(18,6,.i (f.free.at g.Court)),(19,7,.bp b1 0 2),(20,8,.d (.sl 6 (j.Jobs.map aW))),(21,9,.bp b2 0 0),(22,10,.i g.Job),(23,11,.cp [.j x5.Length.Low,.j x5.Length.High,.sl 1 (x5.After.map aP),.sl 1 (x5.With.map aP),.j x5.Due,.j x5.Earliest]),(24,12,.cp [.j x5.Earliest]),(25,13,.i x5.Earliest)],?_,?_⟩
  · exact dk [0,0,2,1,4,305,6,0,8,0,10,911,12,13] ⟨go (zm (.bp d_0_b d_0_o 0)),
 go (zf rfl bIa),
 go (zl 2 rfl rfl rfl mT),
 go λS hS=>qK (aC rfl) (bN hS rfl),
 go (zf rfl aRm),
 go λS hS=>aFj (aC rfl) (bN hS rfl) (bN hS rfl) bBj (iU h4).1 (iU h4).2,
 go λS hS=>qQ (aC rfl) (bN hS rfl) (i:=0) rfl (A3.cellI (a:=f.free) h4 rfl rfl rfl) mT,
 go (zf rfl aOb),
 go (zl 1 rfl rfl rfl aZp),
 go (zf rfl aWd),
 go (zl 2 rfl rfl rfl mT),
 go (zix rfl rfl bAs.of (fM aW h6)),
 go (zfc [.j x5.Earliest] rfl cAh),
 go (zlc rfl mT),trivial⟩
  · exact kL (bG rfl (bG rfl (bL (ae rfl))))
 ·refine to (bSk (aC rfl) rfl rfl) ?_;refine au 6 ?_;refine to (qK (aC rfl) rfl) ?_;refine to (sf rfl bEe) (to (sla 0 (cFz f.ends) rfl rfl cFe) (au 3 ?_));refine fC (S:=Int×Int) [0,3,5,6,30] (λs7=>[(8,.i s7.1),(31,.i s7.2)]) (λs7=>[.box d_0_b d_0_o ((bX f)++d_0_post),.box b1 0 (cH j),.box b2 0 (aK g)]) (λk s7=>kN e f.ends f j g k s7.1 s7.2) (λ_=>rfl) (max (f.free.at g.Court) x5.Earliest,0) h (bE [0,1,2] rfl rfl (bG rfl (bG rfl (bL (ae rfl))))) ?_;rintro k8 ⟨c,m⟩ h;simp only[kN] at h;refine au 5 ?_;refine tih h (λc9 h=>?_) (λc9 h=>?_)
  ·refine au 6 ?_;obtain⟨A,t,h⟩:=bns h;refine to (bMr (aC rfl) rfl rfl bMz mT (iU t) (A6.celzI (a:=f.ends) t rfl rfl rfl rfl rfl rfl)) ?_;refine au 8 ?_;obtain⟨u,n,h⟩:=bns h;refine vI 6 [0,3,5,6,8,11,30,31] 43 u ?_ ?_
   ·refine bch n (λp n=>?_) (λp n=>?_)
    ·refine tk p (sla 1 (cH j) rfl rfl aLz) (au 3 ?_);obtain⟨x,y,n⟩:=bns n;refine tk p (scr call219 ((bJp _ _ _).h _ y)) (to (spt (.b x) p) ?_);obtain rfl:=sIn n;refine aZ (jR rfl (ae rfl) rfl)
    ·refine au 6 ?_;obtain rfl:=sIn n;refine aZ (jR rfl (ae rfl) rfl)
   ·refine aZ ?_;refine tih h (λz h=>?_) (λz h=>?_)
    ·refine au 6 ?_;refine to (bSk (aC rfl) rfl rfl) ?_;refine ta (.i (max c (w64 ((f.ends.at m)+j.Rest)))) ?_;refine yY ?_;refine au 4 ?_;exact⟨(max c (w64 ((f.ends.at m)+j.Rest)),w64 (m+1)),h,bE [0,1,2] rfl rfl (bG rfl (bG rfl (bL (ae rfl))))⟩
    ·refine nD ?_;refine au 4 ?_;exact⟨(c,w64 (m+1)),h,bE [0,1,2] rfl rfl (bG rfl (bG rfl (bL (ae rfl))))⟩
  ·refine eU ?_;refine .inl ⟨rfl,?_⟩;simp only[vF] at h;refine au 8 ?_;obtain⟨B,q,h⟩:=bns h;refine yE mix 14 [8,9] (λo=>[(59,.i g.Job),(61,.i (w64 (c+e))),(66,.bp d_0_b d_0_o 4)]) (λo=>[.box d_0_b d_0_o ((bX (cE.mk f.number (f.free.set g.Court (w64 (c+e))) f.ends))++d_0_post),.box b1 0 (cH j),.box b2 0 (aK g)]) ?_ ?_
   ·refine⟨0,λo=>[(54,0,.bp d_0_b d_0_o 0),(55,1,.bp b2 0 2),(56,2,.i g.Court),(57,3,.bp d_0_b d_0_o 0),(58,4,.bp b2 0 0),(59,5,.i g.Job),(60,6,.i (w64 (c+e))),(61,7,.i (w64 (c+e))),(62,8,.bp d_0_b d_0_o 0),(63,9,.bp d_0_b d_0_o 1),(64,10,.bp d_0_b d_0_o (1+g.Court.toNat*1)),(65,12,.bp d_0_b d_0_o 0),(66,13,.bp d_0_b d_0_o 4)],λo=>[([(11,.box d_0_b d_0_o ((bX (cE.mk f.number (f.free.set g.Court (w64 (c+e))) f.ends))++d_0_post))],.box d_0_b d_0_o ((bX f)++d_0_post)),([],.box b1 0 (cH j)),([],.box b2 0 (aK g))],?_,?_⟩
    · exact xok [(0,12),(0,12),(2,12),(0,0),(0,0),(5,0),(0,12),(0,0),(1,12),(9,12),(310,12),(711,0),(4,0),(13,0)] ⟨λ_ _ w _ k=>xp w (ym k (.bp d_0_b d_0_o 0)),
 λ_ _ w _ k=>xp w (yf k rfl bIa),
 λ_ _ w _ k=>xp w (yl k 2 rfl (og k rfl rfl) rfl mT),
 λ_ _ w _ k=>xp w (ym k (.bp d_0_b d_0_o 0)),
 λ_ _ w _ k=>xp w (yf k rfl aWd),
 λ_ _ w _ k=>xp w (yl k 2 rfl (og k rfl rfl) rfl mT),
 λ_ _ w _ k=>xp w (ym k (.i (w64 (c+e)))),
 λ_ _ w _ k=>xp w (ym k (.i (w64 (c+e)))),
 λ_ _ w _ k=>xp w (qK (aC rfl) (bN k rfl)),
 λ_ _ w _ k=>xp w (yf k rfl aRm),
 λ_ _ w _ k=>xp w (aFj (aC rfl) (bN k rfl) (bN k rfl) bBj (iU q).1 (iU q).2),
 λ_ _ _ _ k=>xs 0 k rfl rfl (eY (i:=0) (ds:=((bX f)++d_0_post)) (bN k rfl) (og k rfl rfl) (bN k rfl) rfl rfl sizeOf3 rfl (aC rfl) (bIg q rfl) (ds':=((bX (cE.mk f.number (f.free.set g.Court (w64 (c+e))) f.ends))++d_0_post)) (A3.updI (a:=f.free) q (λqq=>((bX (cE.mk f.number qq f.ends))++d_0_post)) rfl rfl rfl)),
 λ_ _ w _ k=>xp w (qK (aC rfl) (bN k rfl)),
 fun _ _ w _ k=>xp w (yf k rfl bEe),trivial⟩
    · exactλo=>kL (bG rfl (bG rfl (bG rfl (bL (ae rfl)))))
   ·intro o;obtain⟨C,s,h⟩:=bns h;refine to (aFj (aC rfl) rfl rfl bMz (iU s).1 (iU s).2) ?_;refine to (eY (i:=0) (ds:=((bX (cE.mk f.number (f.free.set g.Court (w64 (c+e))) f.ends))++d_0_post)) rfl rfl rfl rfl rfl sizeOf3 rfl (aC rfl) (bIg s rfl) (ds':=((bX (cE.mk f.number (f.free.set g.Court (w64 (c+e))) (f.ends.set g.Job (w64 (c+e)))))++d_0_post)) (A6.updI (a:=f.ends) s (λqq=>((bX (cE.mk f.number (f.free.set g.Court (w64 (c+e))) qq))++d_0_post)) rfl rfl rfl rfl rfl rfl)) ?_;refine au 8 ?_;obtain rfl:=sIn h;refine jZ (bE [0] rfl rfl (bL (l:=[8,9]) (ae rfl))) ?_;exact eK ⟨rfl,_,.two _ _,rfl,rfl⟩

theorem aQo (kr : Nat):∀(c:dQ) (n:List (aE×Int)) (j:aE) {r:(List aF)×Bool×Z16} {g:Nat} {u:List Nat} {t:Nat} (_h:cF kr c n j=some r),aX Tryz.prog 95 [.cp [.sl 1 (c.Program.Days.map aO),.j c.Program.Rest,.sl 6 (c.Program.Jobs.map aW),.j c.days,fA 3 aK c.old,.lit (.map (some g))],.agg (aM j)] [.map g (n.map λp:aE×Int=>((λa:aE=>Value.agg ((aM a).map bD).toArray) p.1,(λv:Int=>AV.i v) p.2)) u t] (λr' o'=>∃(d1:List Nat) (d2:Nat),r'=.tup [.d (.sl 3 (r.1.map aK)),.b r.2.1]/\o'=[.map g (r.2.2.map λp:aE×Int=>((λa:aE=>Value.agg ((aM a).map bD).toArray) p.1,(λv:Int=>AV.i v) p.2)) d1 d2]):=by
  induction kr with
  |zero=>intros;rename_i h;cases h
  | succ kr ih=>
    intro c n j r g u t h;simp only[cF] at h;refine bPp func95 rfl (rs:=[.tmp 4,.tmp 5]) results95 ntmps95 (f5 rfl) ?_;refine bH (aV ?_);refine cC rfl (mY (v:=.agg (aM j)) (aC rfl) rfl rfl rfl) ?_;rintro _ ⟨b1,rfl⟩;refine to (wV 3 (aC rfl)) ?_;refine au 2 ?_;refine bKx (by repeat (first|exact cKp|apply cGv|apply cBk)) ?_;refine bH (bH ?_);obtain⟨u2,h3,h⟩:=bns h;refine rK mix 10 [0,3] [(21,.i j.done),(29,.i (w64 ((w64 (1*2^(min (c.Program.Jobs.length:Int).toNat 64)))-1)))] ?_ ?_
    ·refine⟨[(20,0,.bp b1 0 10),(21,1,.i j.done),(22,2,.cp [.sl 1 (c.Program.Days.map aO),.j c.Program.Rest,.sl 6 (c.Program.Jobs.map aW),.j c.days,fA 3 aK c.old,.lit (.map (some g))]),(23,3,.cp [.sl 1 (c.Program.Days.map aO),.j c.Program.Rest,.sl 6 (c.Program.Jobs.map aW),.j c.days,fA 3 aK c.old,.lit (.map (some g))]),(24,4,.cp [.sl 1 (c.Program.Days.map aO),.j c.Program.Rest,.sl 6 (c.Program.Jobs.map aW)]),(25,5,.cp [.sl 6 (c.Program.Jobs.map aW)]),(26,6,.d (.sl 6 (c.Program.Jobs.map aW))),(27,7,.i (c.Program.Jobs.length:Int)),(28,8,.i (w64 (1*2^(min (c.Program.Jobs.length:Int).toNat 64)))),(29,9,.i (w64 ((w64 (1*2^(min (c.Program.Jobs.length:Int).toNat 64)))-1)))],?_,?_⟩
     · exact dk [0,1,0,3,4,5,6,7,8,9] ⟨go (zf rfl aRo),
 go (zl 1 rfl rfl rfl mT),
 go (zm (.cp [.sl 1 (c.Program.Days.map aO),.j c.Program.Rest,.sl 6 (c.Program.Jobs.map aW),.j c.days,fA 3 aK c.old,.lit (.map (some g))])),
 go λS hS=>gQ (aC rfl) (bN hS rfl),
 go (zfc [.sl 1 (c.Program.Days.map aO),.j c.Program.Rest,.sl 6 (c.Program.Jobs.map aW)] rfl xK),
 go (zfc [.sl 6 (c.Program.Jobs.map aW)] rfl aOb),
 go (zlc rfl aZp),
 go (zle rfl bAs.of),
 go λS hS=>bGb (aC rfl) rfl (bN hS rfl) (aYw h3),
 go (zar rfl rfl rfl),trivial⟩
     · exact kL (bG rfl (bG rfl (bL (ae rfl))))
    ·refine au 2 ?_;refine tih h (λc4 h=>?_) (λc4 h=>?_)
     ·refine bH (aV (to (wV 3 (aC rfl)) ?_));refine au 2 ?_;obtain rfl:=sIn h;refine jZ (bE [0] rfl rfl (bL (l:=[4,5]) (ae rfl))) ?_;exact eK ⟨rfl,_,.two _ _,_,_,rfl,rfl⟩
     ·refine au 3 ?_;refine yE mix 9 [0,3] (λX5=>[(34,.d (.lit (.map (some g)))),(37,.i (w64 ((bW j 0 n)+1))),(39,.i (nY j n u t))]) (λX5=>[.map g ((jA j 0 n).map λp:aE×Int=>((λa:aE=>Value.agg ((aM a).map bD).toArray) p.1,(λv:Int=>AV.i v) p.2)) (mbs j n u t) (mck j n t),.box b1 0 (aM j)]) ?_ ?_
      ·refine⟨0,λX5=>[(31,0,.cp [.sl 1 (c.Program.Days.map aO),.j c.Program.Rest,.sl 6 (c.Program.Jobs.map aW),.j c.days,fA 3 aK c.old,.lit (.map (some g))]),(32,1,.cp [.sl 1 (c.Program.Days.map aO),.j c.Program.Rest,.sl 6 (c.Program.Jobs.map aW),.j c.days,fA 3 aK c.old,.lit (.map (some g))]),(33,2,.cp [.lit (.map (some g))]),(34,3,.d (.lit (.map (some g)))),(35,4,.agg (aM j)),(36,5,.i (bW j 0 n)),(37,6,.i (w64 ((bW j 0 n)+1))),(38,7,.tup [.i (bW j 0 n),.i (nY j n u t)]),(39,8,.i (nY j n u t))],λX5=>[([(7,.map g ((jA j 0 n).map λp:aE×Int=>((λa:aE=>Value.agg ((aM a).map bD).toArray) p.1,(λv:Int=>AV.i v) p.2)) (mbs j n u t) (mck j n t))],.map g (n.map λp:aE×Int=>((λa:aE=>Value.agg ((aM a).map bD).toArray) p.1,(λv:Int=>AV.i v) p.2)) u t),([],.box b1 0 (aM j))],?_,?_⟩
       · exact xok [(0,8),(1,8),(2,8),(3,8),(0,8),(405,0),(6,0),(405,0),(8,0)] ⟨λ_ _ w _ k=>xp w (ym k (.cp [.sl 1 (c.Program.Days.map aO),.j c.Program.Rest,.sl 6 (c.Program.Jobs.map aW),.j c.days,fA 3 aK c.old,.lit (.map (some g))])),
 λ_ _ w _ k=>xp w (gQ (aC rfl) (bN k rfl)),
 λ_ _ w _ k=>xp w (yfc k [.lit (.map (some g))] rfl bEd),
 λ_ _ w _ k=>xp w (ylc k rfl bOf),
 λ_ _ w _ k=>xp w (yla k 1 (aM j) rfl (og k rfl rfl) aHz),
 λ_ _ w _ k=>xp w (aSx (av:=(λv:Int=>AV.i v)) (l:=n) (z:=0) (a:=j) (m:=0) (aC rfl) bCd underlying202 zeroValue3 (λ_ _=>.d (.lit _ rfl)) (bN k rfl) (og2 rfl) rfl (bN k rfl) (jL (enc:=aM) j rfl)),
 λ_ _ w _ k=>xp w (yar k rfl rfl rfl),
 λX5 S hw hi hS=>bLc (X:=X5) (p:=0) hS rfl rfl rfl (hw X5) rfl rfl rfl (yD (aPp (av:=(λv:Int=>AV.i v)) (l:=n) (z:=0) (a:=j) (m:=0) (aC rfl) bCd underlying202 zeroValue3 (λ_ _=>.d (.lit _ rfl)) (bN hS rfl) (og hS rfl rfl) rfl (bN hS rfl) (jL (enc:=aM) j rfl)) (by rintro _ rfl;exact Ent.refl _)),
 fun _ _ w _ k=>xp w (yex k rfl rfl),trivial⟩
       · exactλX5=>kL (bG rfl (bG rfl (bG rfl (bL (ae rfl)))))
      ·intro X5;refine to (aQl (kv:=(λa:aE=>Value.agg ((aM a).map bD).toArray)) (av:=(λv:Int=>AV.i v)) (l:=n) (z:=0) (v:=w64 ((bW j 0 n)+1)) (a:=j) (m:=0) rfl rfl rfl rfl rfl) ?_;refine aZ (bH ?_);refine rK mix 5 [0,3] [(43,.d (.lit (.map (some g)))),(44,.agg (aM j))] ?_ ?_
       ·refine⟨[(40,0,.cp [.sl 1 (c.Program.Days.map aO),.j c.Program.Rest,.sl 6 (c.Program.Jobs.map aW),.j c.days,fA 3 aK c.old,.lit (.map (some g))]),(41,1,.cp [.sl 1 (c.Program.Days.map aO),.j c.Program.Rest,.sl 6 (c.Program.Jobs.map aW),.j c.days,fA 3 aK c.old,.lit (.map (some g))]),(42,2,.cp [.lit (.map (some g))]),(43,3,.d (.lit (.map (some g)))),(44,4,.agg (aM j))],?_,?_⟩
        · exact dk [0,1,2,3,0] ⟨go (zm (.cp [.sl 1 (c.Program.Days.map aO),.j c.Program.Rest,.sl 6 (c.Program.Jobs.map aW),.j c.days,fA 3 aK c.old,.lit (.map (some g))])),
 go λS hS=>gQ (aC rfl) (bN hS rfl),
 go (zfc [.lit (.map (some g))] rfl bEd),
 go (zlc rfl bOf),
 go (zla 1 (aM j) rfl rfl aHz),trivial⟩
        · exact kL (bG rfl (bG rfl (bL (ae rfl))))
       ·refine to (aPo (av:=(λv:Int=>AV.i v)) (l:=(dE j (w64 ((bW j 0 n)+1)) n)) (z:=0) (a:=j) (m:=0) (aC rfl) bCd underlying202 zeroValue3 (λ_ _=>.d (.lit _ rfl)) rfl rfl rfl rfl (jL (enc:=aM) j rfl)) ?_;refine au 2 ?_;refine tih h (λc6 h=>?_) (λc6 h=>?_)
        ·refine bH (aV (to (wV 3 (aC rfl)) ?_));refine au 2 ?_;obtain rfl:=sIn h;refine jZ (bE [0] rfl rfl (bL (l:=[4,5]) (ae rfl))) ?_;exact eK ⟨rfl,_,.two _ _,_,_,rfl,rfl⟩
        ·refine aBk (bH ?_);refine bXw ?_;refine au 4 ?_;refine to (gQ (aC rfl) rfl) ?_;refine to (sfc [.sl 1 (c.Program.Days.map aO),.j c.Program.Rest,.sl 6 (c.Program.Jobs.map aW)] rfl xK) (to (sfc [.sl 6 (c.Program.Jobs.map aW)] rfl aOb) (au 5 ?_));refine fC (S:=Int×Z16×(List Nat)×Nat) [0,3,51,52] (λs7=>[(53,.i s7.1)]) (λs7=>[.map g (s7.2.1.map λp:aE×Int=>((λa:aE=>Value.agg ((aM a).map bD).toArray) p.1,(λv:Int=>AV.i v) p.2)) s7.2.2.1 s7.2.2.2,.box b1 0 (aM j)]) (λk s7=>cP (cF kr) c.Program c.days c.old c.Program.Jobs (c.Program.Jobs.length:Int) j k s7.1 s7.2.1) (λ_=>rfl) (0,(dE j (w64 ((bW j 0 n)+1)) n),(mbs j n u t),(mck j n t)) h (bE [0,1] rfl rfl (bG rfl (bL (ae rfl)))) ?_;rintro a3 ⟨e,M,b3,b4⟩ h;simp only[cP] at h;refine au 5 ?_;refine tih h (λd3 h=>?_) (λd3 h=>?_)
         ·refine au 6 ?_;obtain⟨y,d4,h⟩:=bns h;refine to (six rfl rfl bAs.of (fM aW d4)) (to (aDd (aW y) rfl cJj) ?_);refine cC rfl (dW (zs:=[.j 0,.j 0,.sl 1 ((([]:List Int)).map aP),.sl 1 ((([]:List Int)).map aP),.j 0,.j 0]) (aC rfl) zeroValue97 rfl rfl) ?_;rintro _ ⟨G,rfl⟩;refine ta (.i e) (to (sst 2 rfl rfl sizeOf97 (aW y)) (au 4 ?_));refine to (sla 1 (aM j) rfl rfl aHz) (tm (.i e) ?_);obtain⟨h1,d5,h⟩:=bns h;refine to (scr call173 ((aJl _ _).h _ d5)) (aZ ?_);refine tih h (λd6 h=>?_) (λd6 h=>?_)
          ·refine eU ?_;refine .inl ⟨rfl,?_⟩;simp only[fV] at h;refine au 4 ?_;exact⟨(w64 (e+1),M,b3,b4),h,bE [0,1] rfl rfl (bG rfl (bL (ae rfl)))⟩
          ·refine au 10 ?_;refine fC (S:=Int) [0,3,6,7,51,52,53,62,63] (λb5=>[(64,.i b5)]) (λb5=>[.map g (M.map λp:aE×Int=>((λa:aE=>Value.agg ((aM a).map bD).toArray) p.1,(λv:Int=>AV.i v) p.2)) b3 b4,.box b1 0 (aM j),.box G 0 (aW y)]) (λk b5=>gX (cF kr) (cP (cF kr) c.Program c.days c.old c.Program.Jobs (c.Program.Jobs.length:Int) j a3) c.Program c.days c.old e c.Program.Jobs (c.Program.Jobs.length:Int) e y.After (y.After.length:Int) M j y k b5) (λ_=>rfl) (0) h (bE [0,1,2] rfl rfl (bG rfl (bL (ae rfl)))) ?_;rintro h2 a9 h;simp only[gX] at h;refine au 5 ?_;refine tih h (λd7 h=>?_) (λd7 h=>?_)
           ·refine au 5 ?_;obtain⟨d8,d9,h⟩:=bns h;refine to (six rfl rfl aUc.of (fM aP d9)) (au 5 ?_);refine to (sla 1 (aM j) rfl rfl aHz) (tm (.i d8) ?_);obtain⟨h4,e0,h⟩:=bns h;refine to (scr call173 ((aJl _ _).h _ e0)) (to (sn rfl) (aZ ?_));refine tih h (λe1 h=>?_) (λe1 h=>?_)
            ·refine eU ?_;refine .inr ⟨by decide,?_⟩;refine .inr ⟨by decide,?_⟩;refine .inl ⟨rfl,?_⟩;simp only[fV] at h;refine au 4 ?_;exact⟨(w64 (e+1),M,b3,b4),h,bE [0,1] rfl rfl (bG rfl (bL (ae rfl)))⟩
            ·refine nD ?_;refine au 4 ?_;exact⟨(w64 (a9+1)),h,bE [0,1,2] rfl rfl (bG rfl (bL (ae rfl)))⟩
           ·refine eU ?_;refine .inl ⟨rfl,?_⟩;simp only[rO] at h;refine au 7 ?_;refine aIj ?_;refine fC (S:=Int×Z16×(List Nat)×Nat) [0,3,6,7,51,52,53] (λV=>[(10,.i V.1)]) (λV=>[.map g (V.2.1.map λp:aE×Int=>((λa:aE=>Value.agg ((aM a).map bD).toArray) p.1,(λv:Int=>AV.i v) p.2)) V.2.2.1 V.2.2.2,.box b1 0 (aM j),.box G 0 (aW y)]) (λk V=>eJ (cF kr) (cP (cF kr) c.Program c.days c.old c.Program.Jobs (c.Program.Jobs.length:Int) j a3) c.Program c.days c.old e c.Program.Jobs (c.Program.Jobs.length:Int) e j y k V.1 V.2.1) (λ_=>rfl) (j.day.number,M,b3,b4) h (bE [0,1,2] rfl rfl (bG rfl (bL (ae rfl)))) ?_;rintro c2 ⟨o,O,b0,b2⟩ h;simp only[eJ] at h;refine au 5 ?_;refine to (gQ (aC rfl) rfl) ?_;refine to (sfc [.j c.days] rfl bVe) (au 3 ?_);obtain⟨e2,a6,h⟩:=bns h;refine vI 5 [0,3,6,7,10,51,52,53] 87 e2 ?_ ?_
            ·refine bch a6 (λe3 a6=>?_) (λe3 a6=>?_)
             ·refine au 5 ?_;obtain rfl:=sIn a6;refine aZ (jR rfl (ae rfl) rfl)
             ·refine au 5 ?_;obtain rfl:=sIn a6;refine aZ (jR rfl (ae rfl) rfl)
            ·refine aZ ?_;refine tih h (λe4 h=>?_) (λe4 h=>?_)
             ·refine au 6 ?_;refine to (sla 1 (bX j.day) rfl rfl aLy) ?_;refine cC rfl (dW (zs:=[.j 0,.j 0,.j 0,.j 0,.j 0,.j 0,.j 0,.j 0,.j 0,.j 0]) (aC rfl) zeroValue209 rfl rfl) ?_;rintro _ ⟨N,rfl⟩;refine to (sst 3 rfl rfl sizeOf209 (bX j.day)) (au 10 ?_);refine tih h (λe5 h=>?_) (λe5 h=>?_)
              ·refine au 2 ?_;refine to (gQ (aC rfl) rfl) ?_;refine to (sfc [.sl 1 (c.Program.Days.map aO),.j c.Program.Rest,.sl 6 (c.Program.Jobs.map aW)] rfl xK) (to (aDd (cH c.Program) rfl aLz) (tm (.i o) ?_));obtain⟨A,e6,h⟩:=bns h;refine to (scr call96 ((aVm _ _).h _ e6)) (to (sst 3 rfl rfl sizeOf209 (bX A)) (au 4 ?_));refine to (gQ (aC rfl) rfl) ?_;refine to (sfc [.sl 1 (c.Program.Days.map aO),.j c.Program.Rest,.sl 6 (c.Program.Jobs.map aW)] rfl xK) (to (sfc [.sl 1 (c.Program.Days.map aO)] rfl aWc) (au 2 ?_));obtain⟨c3,e7,h⟩:=bns h;refine to (six rfl rfl aLa.of (fM aO e7)) (au 4 ?_);refine aIj ?_;refine fC (S:=Int×Z16×(List Nat)×Nat) [0,3,6,7,10,11,51,52,53,110,111] (λW=>[(112,.i W.1)]) (λW=>[.map g (W.2.1.map λp:aE×Int=>((λa:aE=>Value.agg ((aM a).map bD).toArray) p.1,(λv:Int=>AV.i v) p.2)) W.2.2.1 W.2.2.2,.box b1 0 (aM j),.box G 0 (aW y),.box N 0 (bX A)]) (λk W=>dZ (cF kr) (cP (cF kr) c.Program c.days c.old c.Program.Jobs (c.Program.Jobs.length:Int) j a3) (eJ (cF kr) (cP (cF kr) c.Program c.days c.old c.Program.Jobs (c.Program.Jobs.length:Int) j a3) c.Program c.days c.old e c.Program.Jobs (c.Program.Jobs.length:Int) e j y c2) c.Program c.days c.old e o c.Program.Jobs (c.Program.Jobs.length:Int) e c3 (c3.length:Int) j y A k W.1 W.2.1) (λ_=>rfl) (0,O,b0,b2) h (bE [0,1,2,3] rfl rfl (bG rfl (bL (ae rfl)))) ?_;rintro h5 ⟨q,B,P,Q⟩ h;simp only[dZ] at h;refine au 5 ?_;refine tih h (λe8 h=>?_) (λe8 h=>?_)
               ·refine au 6 ?_;obtain⟨a4,e9,h⟩:=bns h;refine to (six rfl rfl aLb.of (fM bS e9)) (to (aDd (bS a4) rfl aXt) ?_);refine cC rfl (dW (zs:=[.j 0,.j 0]) (aC rfl) zeroValue81 rfl rfl) ?_;rintro _ ⟨b6,rfl⟩;refine ta (.i q) (to (sst 4 rfl rfl sizeOf81 (bS a4)) (au 6 ?_));refine to (jI (aC rfl) bXu (zs:=[.j 0,.j 0,.j 0]) rfl rfl rfl rfl (es:=[.j e,.j o,.j q]) rfl) ?_;refine cC rfl (dW (zs:=[.j 0,.j 0,.j 0]) (aC rfl) zeroValue51 rfl rfl) ?_;rintro _ ⟨b7,rfl⟩;refine to (sst 5 rfl rfl sizeOf51 (aK (aF.mk e o q))) (aZ (bH ?_));obtain⟨h6,f0,h⟩:=bns h;obtain⟨K,f1,h⟩:=bns h;refine yE mix 14 [0,3,6,7,10,11,13,14,51,52,53,110,111,112] (λE=>[(15,.bp (E 13).b 0 0),(133,.agg (aM (aE.mk A (bOr j.done (w64 (1*2^(min e.toNat 64)))) (w64 (j.moves-K)))))]) (λE=>[.map g (B.map λp:aE×Int=>((λa:aE=>Value.agg ((aM a).map bD).toArray) p.1,(λv:Int=>AV.i v) p.2)) P Q,.box b1 0 (aM j),.box G 0 (aW y),.box N 0 (bX A),.box b6 0 (bS a4),.box b7 0 (aK (aF.mk e o q)),.box (E 13).b 0 Z4]) ?_ ?_
                ·refine⟨1,λE=>[(121,0,.agg (bX A)),(122,1,.bp b1 0 10),(123,2,.i j.done),(124,3,.i e),(125,4,.i (w64 (1*2^(min e.toNat 64)))),(126,5,.i (bOr j.done (w64 (1*2^(min e.toNat 64))))),(127,6,.bp b1 0 11),(128,7,.i j.moves),(129,8,.cp [.sl 1 (c.Program.Days.map aO),.j c.Program.Rest,.sl 6 (c.Program.Jobs.map aW),.j c.days,fA 3 aK c.old,.lit (.map (some g))]),(130,9,.agg (aK (aF.mk e o q))),(131,10,.i K),(132,11,.i (w64 (j.moves-K))),(133,12,.agg (aM (aE.mk A (bOr j.done (w64 (1*2^(min e.toNat 64)))) (w64 (j.moves-K))))),(15,13,.bp (E 13).b 0 0)],λE=>[([],.map g (B.map λp:aE×Int=>((λa:aE=>Value.agg ((aM a).map bD).toArray) p.1,(λv:Int=>AV.i v) p.2)) P Q),([],.box b1 0 (aM j)),([],.box G 0 (aW y)),([],.box N 0 (bX A)),([],.box b6 0 (bS a4)),([],.box b7 0 (aK (aF.mk e o q))),([(13,.box (E 13).b 0 Z4)],nob)],?_,?_⟩
                 · exact xok [(0,0),(0,0),(2,0),(0,0),(4,0),(305,0),(0,0),(7,0),(0,0),(0,0),(910,0),(811,0),(10612,0),(0,0)] ⟨λ_ _ w _ k=>xp w (yla k 3 (bX A) rfl (og k rfl rfl) aLy),
 λ_ _ w _ k=>xp w (yf k rfl aRo),
 λ_ _ w _ k=>xp w (yl k 1 rfl (og k rfl rfl) rfl mT),
 λ_ _ w _ k=>xp w (ym k (.i e)),
 λ_ _ w _ k=>xp w (bGb (aC rfl) rfl (bN k rfl) (aYw f0)),
 λ_ _ w _ k=>xp w (bAm (aC rfl) (bN k rfl) (bN k rfl) (.inr (.inl ⟨rfl,rfl⟩))),
 λ_ _ w _ k=>xp w (yf k rfl aRp),
 λ_ _ w _ k=>xp w (yl k 1 rfl (og k rfl rfl) rfl mT),
 λ_ _ w _ k=>xp w (ym k (.cp [.sl 1 (c.Program.Days.map aO),.j c.Program.Rest,.sl 6 (c.Program.Jobs.map aW),.j c.days,fA 3 aK c.old,.lit (.map (some g))])),
 λ_ _ w _ k=>xp w (yla k 5 (aK (aF.mk e o q)) rfl (og k rfl rfl) aIo),
 λ_ _ w _ k=>xp w (pB (aC rfl) (.func _ _ call174) (ev2 (bN k rfl) (ev2 (bN k rfl) evn)) rfl (BVs.refl _ _) (aFz _ _ f1) rfl),
 λ_ _ w _ k=>xp w (yar k rfl rfl rfl),
 λ_ _ w _ k=>xp w (jI (aC rfl) bDc (zs:=[.j 0,.j 0,.j 0,.j 0,.j 0,.j 0,.j 0,.j 0,.j 0,.j 0,.j 0,.j 0]) rfl rfl rfl (pa2 (bN k rfl) (pa2 (bN k rfl) (pa2 (bN k rfl) pan))) (es:=[.j A.number,.j A.free.x0,.j A.free.x1,.j A.free.x2,.j A.ends.x0,.j A.ends.x1,.j A.ends.x2,.j A.ends.x3,.j A.ends.x4,.j A.ends.x5,.j (bOr j.done (w64 (1*2^(min e.toNat 64)))),.j (w64 (j.moves-K))]) rfl),
 fun E S hw hi hS =>bBe (X:=E) (p:=6) (v:=λx=>.bp x.b 0 0) (mo:=λx=>.box x.b 0 Z4) hS hi rfl rfl (λ_=>rfl) hw (λ_=>rfl) (λ_=>rfl) (λ_=>rfl) (λ_=>⟨rfl,rfl,.inr rfl,⟨rfl,rfl,.inr rfl,⟨rfl,rfl,.inr rfl,⟨rfl,rfl,.inr rfl,⟨rfl,rfl,.inr rfl,⟨rfl,rfl,.inr rfl,⟨rfl,rfl,.inr rfl,⟨rfl,rfl,.inr rfl,⟨rfl,rfl,.inr rfl,⟨rfl,rfl,.inr rfl,⟨rfl,rfl,.inr rfl,⟨rfl,rfl,.inr rfl,⟨rfl,rfl,.inr rfl,⟨rfl,rfl,.inl rfl,trivial⟩⟩⟩⟩⟩⟩⟩⟩⟩⟩⟩⟩⟩⟩) (λ_=>⟨trivial,rfl,⟨trivial,rfl,⟨trivial,rfl,⟨trivial,rfl,⟨trivial,rfl,⟨trivial,rfl,⟨⟨rfl,.inl rfl,trivial⟩,rfl,trivial⟩⟩⟩⟩⟩⟩⟩) (yD (dW (zs:=[.j 0,.j 0,.j 0,.j 0,.j 0,.j 0,.j 0,.j 0,.j 0,.j 0,.j 0,.j 0]) (aC rfl) zeroValue212 rfl rfl) (by rintro _ ⟨w,rfl⟩;exact⟨⟨w,undef⟩,bE [0,1,2,3,4,5,7] rfl rfl (le_refl _)⟩)),trivial⟩
                 · exactλE=>kL (bG rfl (bG rfl (bL (ae rfl))))
                ·intro E;refine to (sst 6 rfl rfl sizeOf212 (aM (aE.mk A (bOr j.done (w64 (1*2^(min e.toNat 64)))) (w64 (j.moves-K))))) (au 3 ?_);obtain⟨H,f2,h⟩:=bns h;refine yE mix 14 [0,3,6,7,10,11,13,14,15,51,52,53,110,111,112] (λY=>[(146,.i H.2.1)]) (λY=>[.map g (B.map λp:aE×Int=>((λa:aE=>Value.agg ((aM a).map bD).toArray) p.1,(λv:Int=>AV.i v) p.2)) P Q,.box b1 0 (aM j),.box G 0 (aW y),.box N 0 (bX A),.box b6 0 (bS a4),.box b7 0 (aK (aF.mk e o q)),.box (E 13).b 0 (aM (aE.mk H.2.2 (bOr j.done (w64 (1*2^(min e.toNat 64)))) (w64 (j.moves-K))))]) ?_ ?_
                 ·refine⟨0,λY=>[(135,0,.bp (E 13).b 0 0),(136,1,.cp [.sl 1 (c.Program.Days.map aO),.j c.Program.Rest,.sl 6 (c.Program.Jobs.map aW),.j c.days,fA 3 aK c.old,.lit (.map (some g))]),(137,2,.cp [.sl 1 (c.Program.Days.map aO),.j c.Program.Rest,.sl 6 (c.Program.Jobs.map aW),.j c.days,fA 3 aK c.old,.lit (.map (some g))]),(138,3,.cp [.sl 1 (c.Program.Days.map aO),.j c.Program.Rest,.sl 6 (c.Program.Jobs.map aW)]),(139,4,.agg (cH c.Program)),(140,5,.agg (aK (aF.mk e o q))),(141,6,.bp G 0 0),(142,7,.bp G 0 1),(143,8,.i y.Length.High),(144,9,.tup [.i H.1,.i H.2.1]),(134,10,.tup [.i H.1,.i H.2.1]),(145,11,.i H.1),(146,12,.i H.2.1),(16,13,.i H.1)],λY=>[([],.map g (B.map λp:aE×Int=>((λa:aE=>Value.agg ((aM a).map bD).toArray) p.1,(λv:Int=>AV.i v) p.2)) P Q),([],.box b1 0 (aM j)),([],.box G 0 (aW y)),([],.box N 0 (bX A)),([],.box b6 0 (bS a4)),([],.box b7 0 (aK (aF.mk e o q))),([(9,.box (E 13).b 0 (aM (aE.mk H.2.2 (bOr j.done (w64 (1*2^(min e.toNat 64)))) (w64 (j.moves-K)))))],.box (E 13).b 0 (aM (aE.mk A (bOr j.done (w64 (1*2^(min e.toNat 64)))) (w64 (j.moves-K)))))],?_,?_⟩
                  · exact xok [(0,10),(0,10),(2,10),(3,10),(4,10),(0,10),(0,10),(7,10),(8,10),(1050609,0),(10,0),(1011,0),(1011,0),(1012,0)] ⟨λ_ _ w _ k=>xp w (yf k rfl aRn),
 λ_ _ w _ k=>xp w (ym k (.cp [.sl 1 (c.Program.Days.map aO),.j c.Program.Rest,.sl 6 (c.Program.Jobs.map aW),.j c.days,fA 3 aK c.old,.lit (.map (some g))])),
 λ_ _ w _ k=>xp w (gQ (aC rfl) (bN k rfl)),
 λ_ _ w _ k=>xp w (yfc k [.sl 1 (c.Program.Days.map aO),.j c.Program.Rest,.sl 6 (c.Program.Jobs.map aW)] rfl xK),
 λ_ _ w _ k=>xp w (cMp k (cH c.Program) rfl aLz),
 λ_ _ w _ k=>xp w (yla k 5 (aK (aF.mk e o q)) rfl (og k rfl rfl) aIo),
 λ_ _ w _ k=>xp w (yf k rfl bId),
 λ_ _ w _ k=>xp w (yf k rfl aWe),
 λ_ _ w _ k=>xp w (yl k 2 rfl (og k rfl rfl) rfl mT),
 λY S hw hi hS=>bLc (X:=Y) (p:=6) hS rfl rfl rfl (hw Y) rfl rfl rfl (yD (aXf ((bUx 6 (x:=.box (E 13).b 0 (aM (aE.mk A (bOr j.done (w64 (1*2^(min e.toNat 64)))) (w64 (j.moves-K))))) (og hS rfl rfl)).trans (bE [6,0,1,2,3,4,5] rfl rfl (le_refl _))) (uG (passed:=[.box (E 13).b 0 ((bX A)++[.j (bOr j.done (w64 (1*2^(min e.toNat 64)))),.j (w64 (j.moves-K))])]) (aC rfl) rfl (.func _ _ call175) (ev2 (bN hS rfl) (ev2 (bN hS rfl) (ev2 (bN hS rfl) (ev2 (bN hS rfl) evn)))) rfl (aKw A c.Program (aF.mk e o q) y.Length.High (d_0_post:=[.j (bOr j.done (w64 (1*2^(min e.toNat 64)))),.j (w64 (j.moves-K))]) f2))) (by rintro _ ⟨_,_,⟨rfl,rfl⟩,rfl⟩;exact bE [1,2,3,4,5,6,0] rfl rfl (le_refl _))),
 λ_ _ w _ k=>xp w (ym k (.tup [.i H.1,.i H.2.1])),
 λ_ _ w _ k=>xp w (yex k rfl rfl),
 λ_ _ w _ k=>xp w (yex k rfl rfl),
 fun _ _ w _ k => xp w (ya k (.i H.1)),trivial⟩
                  · exactλY=>kL (bG rfl (bL (ae rfl)))
                 ·intro Y;refine au 9 ?_;obtain⟨f3,a7,h⟩:=bns h;refine vI 4 [0,3,6,7,10,11,14,15,51,52,53,110,111,112] 155 f3 ?_ ?_
                  ·refine bch a7 (λf4 a7=>?_) (λf4 a7=>?_)
                   ·refine au 4 ?_;obtain rfl:=sIn a7;refine aZ (jR rfl (ae rfl) rfl)
                   ·refine au 4 ?_;obtain rfl:=sIn a7;refine aZ (jR rfl (ae rfl) rfl)
                  ·refine aZ ?_;refine tih h (λf5 h=>?_) (λf5 h=>?_)
                   ·refine eU ?_;refine .inl ⟨rfl,?_⟩;refine au 4 ?_;exact⟨(w64 (q+1),B,P,Q),h,bE [0,1,2,3] rfl rfl (bG rfl (bL (ae rfl)))⟩
                   ·refine au 4 ?_;refine to (sla 6 (aM (aE.mk H.2.2 (bOr j.done (w64 (1*2^(min e.toNat 64)))) (w64 (j.moves-K)))) rfl rfl aHz) ?_;obtain⟨c0,f6,h⟩:=bns h;refine cC rfl (uG (passed:=[.map g (B.map λp:aE×Int=>((λa:aE=>Value.agg ((aM a).map bD).toArray) p.1,(λv:Int=>AV.i v) p.2)) P Q]) (aC rfl) rfl (.func _ _ call95) rfl rfl (ih c B (aE.mk H.2.2 (bOr j.done (w64 (1*2^(min e.toNat 64)))) (w64 (j.moves-K))) f6)) ?_;rintro _ ⟨_,_,⟨c7,c8,rfl,rfl⟩,rfl⟩;refine au 10 ?_;refine tih h (λf7 h=>?_) (λf7 h=>?_)
                    ·refine bH (aV (to (sla 5 (aK (aF.mk e o q)) rfl rfl aIo) (to (aXd (aC rfl) bGc rfl rfl (rows:=([(aF.mk e o q)]).map aK) rfl (gB (f:=aK) λ_=>rfl) rfl (by decide)) ?_)));refine tm (.d (.sl 3 (c0.1.map aK))) ?_;obtain⟨h7,f8,h⟩:=bns h;refine to (bKh (.d (.weak _ _)) (bEz (nn:=true) (f:=aK) (xs:=[(aF.mk e o q)]) (ys:=c0.1) (aC rfl) bGc rfl rfl (λ_=>rfl) f8 rfl)) ?_;refine au 3 ?_;obtain rfl:=sIn h;refine jZ (bE [0] rfl rfl (bL (l:=[4,5]) (ae rfl))) ?_;exact eK ⟨rfl,_,.two _ _,_,_,rfl,rfl⟩
                    ·refine nD ?_;refine au 4 ?_;exact⟨(w64 (q+1),c0.2.2,c7,c8),h,bE [0,1,2,3] rfl rfl (bG rfl (bL (ae rfl)))⟩
               ·refine eU ?_;refine .inl ⟨rfl,?_⟩;simp only[rQ] at h;simp only[rP] at h;refine au 5 ?_;exact⟨(w64 (o+1),B,P,Q),h,bE [0,1,2] rfl rfl (bG rfl (bL (ae rfl)))⟩
              ·refine au 4 ?_;refine to (gQ (aC rfl) rfl) ?_;refine to (sfc [.sl 1 (c.Program.Days.map aO),.j c.Program.Rest,.sl 6 (c.Program.Jobs.map aW)] rfl xK) (to (sfc [.sl 1 (c.Program.Days.map aO)] rfl aWc) (au 2 ?_));obtain⟨c5,f9,h⟩:=bns h;refine to (six rfl rfl aLa.of (fM aO f9)) (au 4 ?_);refine aIj ?_;refine fC (S:=Int×Z16×(List Nat)×Nat) [0,3,6,7,10,11,51,52,53,110,111] (λZ=>[(112,.i Z.1)]) (λZ=>[.map g (Z.2.1.map λp:aE×Int=>((λa:aE=>Value.agg ((aM a).map bD).toArray) p.1,(λv:Int=>AV.i v) p.2)) Z.2.2.1 Z.2.2.2,.box b1 0 (aM j),.box G 0 (aW y),.box N 0 (bX j.day)]) (λk Z=>dZ (cF kr) (cP (cF kr) c.Program c.days c.old c.Program.Jobs (c.Program.Jobs.length:Int) j a3) (eJ (cF kr) (cP (cF kr) c.Program c.days c.old c.Program.Jobs (c.Program.Jobs.length:Int) j a3) c.Program c.days c.old e c.Program.Jobs (c.Program.Jobs.length:Int) e j y c2) c.Program c.days c.old e o c.Program.Jobs (c.Program.Jobs.length:Int) e c5 (c5.length:Int) j y j.day k Z.1 Z.2.1) (λ_=>rfl) (0,O,b0,b2) h (bE [0,1,2,3] rfl rfl (bG rfl (bL (ae rfl)))) ?_;rintro h8 ⟨s,C,T,U⟩ h;simp only[dZ] at h;refine au 5 ?_;refine tih h (λg0 h=>?_) (λg0 h=>?_)
               ·refine au 6 ?_;obtain⟨a5,g1,h⟩:=bns h;refine to (six rfl rfl aLb.of (fM bS g1)) (to (aDd (bS a5) rfl aXt) ?_);refine cC rfl (dW (zs:=[.j 0,.j 0]) (aC rfl) zeroValue81 rfl rfl) ?_;rintro _ ⟨b8,rfl⟩;refine ta (.i s) (to (sst 4 rfl rfl sizeOf81 (bS a5)) (au 6 ?_));refine to (jI (aC rfl) bXu (zs:=[.j 0,.j 0,.j 0]) rfl rfl rfl rfl (es:=[.j e,.j o,.j s]) rfl) ?_;refine cC rfl (dW (zs:=[.j 0,.j 0,.j 0]) (aC rfl) zeroValue51 rfl rfl) ?_;rintro _ ⟨b9,rfl⟩;refine to (sst 5 rfl rfl sizeOf51 (aK (aF.mk e o s))) (aZ (bH ?_));obtain⟨h9,g2,h⟩:=bns h;obtain⟨L,g3,h⟩:=bns h;refine yE mix 14 [0,3,6,7,10,11,13,14,51,52,53,110,111,112] (λF=>[(15,.bp (F 13).b 0 0),(133,.agg (aM (aE.mk j.day (bOr j.done (w64 (1*2^(min e.toNat 64)))) (w64 (j.moves-L)))))]) (λF=>[.map g (C.map λp:aE×Int=>((λa:aE=>Value.agg ((aM a).map bD).toArray) p.1,(λv:Int=>AV.i v) p.2)) T U,.box b1 0 (aM j),.box G 0 (aW y),.box N 0 (bX j.day),.box b8 0 (bS a5),.box b9 0 (aK (aF.mk e o s)),.box (F 13).b 0 Z4]) ?_ ?_
                ·refine⟨1,λF=>[(121,0,.agg (bX j.day)),(122,1,.bp b1 0 10),(123,2,.i j.done),(124,3,.i e),(125,4,.i (w64 (1*2^(min e.toNat 64)))),(126,5,.i (bOr j.done (w64 (1*2^(min e.toNat 64))))),(127,6,.bp b1 0 11),(128,7,.i j.moves),(129,8,.cp [.sl 1 (c.Program.Days.map aO),.j c.Program.Rest,.sl 6 (c.Program.Jobs.map aW),.j c.days,fA 3 aK c.old,.lit (.map (some g))]),(130,9,.agg (aK (aF.mk e o s))),(131,10,.i L),(132,11,.i (w64 (j.moves-L))),(133,12,.agg (aM (aE.mk j.day (bOr j.done (w64 (1*2^(min e.toNat 64)))) (w64 (j.moves-L))))),(15,13,.bp (F 13).b 0 0)],λF=>[([],.map g (C.map λp:aE×Int=>((λa:aE=>Value.agg ((aM a).map bD).toArray) p.1,(λv:Int=>AV.i v) p.2)) T U),([],.box b1 0 (aM j)),([],.box G 0 (aW y)),([],.box N 0 (bX j.day)),([],.box b8 0 (bS a5)),([],.box b9 0 (aK (aF.mk e o s))),([(13,.box (F 13).b 0 Z4)],nob)],?_,?_⟩
                 · exact xok [(0,0),(0,0),(2,0),(0,0),(4,0),(305,0),(0,0),(7,0),(0,0),(0,0),(910,0),(811,0),(10612,0),(0,0)] ⟨λ_ _ w _ k=>xp w (yla k 3 (bX j.day) rfl (og k rfl rfl) aLy),
 λ_ _ w _ k=>xp w (yf k rfl aRo),
 λ_ _ w _ k=>xp w (yl k 1 rfl (og k rfl rfl) rfl mT),
 λ_ _ w _ k=>xp w (ym k (.i e)),
 λ_ _ w _ k=>xp w (bGb (aC rfl) rfl (bN k rfl) (aYw g2)),
 λ_ _ w _ k=>xp w (bAm (aC rfl) (bN k rfl) (bN k rfl) (.inr (.inl ⟨rfl,rfl⟩))),
 λ_ _ w _ k=>xp w (yf k rfl aRp),
 λ_ _ w _ k=>xp w (yl k 1 rfl (og k rfl rfl) rfl mT),
 λ_ _ w _ k=>xp w (ym k (.cp [.sl 1 (c.Program.Days.map aO),.j c.Program.Rest,.sl 6 (c.Program.Jobs.map aW),.j c.days,fA 3 aK c.old,.lit (.map (some g))])),
 λ_ _ w _ k=>xp w (yla k 5 (aK (aF.mk e o s)) rfl (og k rfl rfl) aIo),
 λ_ _ w _ k=>xp w (pB (aC rfl) (.func _ _ call174) (ev2 (bN k rfl) (ev2 (bN k rfl) evn)) rfl (BVs.refl _ _) (aFz _ _ g3) rfl),
 λ_ _ w _ k=>xp w (yar k rfl rfl rfl),
 λ_ _ w _ k=>xp w (jI (aC rfl) bDc (zs:=[.j 0,.j 0,.j 0,.j 0,.j 0,.j 0,.j 0,.j 0,.j 0,.j 0,.j 0,.j 0]) rfl rfl rfl (pa2 (bN k rfl) (pa2 (bN k rfl) (pa2 (bN k rfl) pan))) (es:=[.j j.day.number,.j j.day.free.x0,.j j.day.free.x1,.j j.day.free.x2,.j j.day.ends.x0,.j j.day.ends.x1,.j j.day.ends.x2,.j j.day.ends.x3,.j j.day.ends.x4,.j j.day.ends.x5,.j (bOr j.done (w64 (1*2^(min e.toNat 64)))),.j (w64 (j.moves-L))]) rfl),
 fun F S hw hi hS =>bBe (X:=F) (p:=6) (v:=λx=>.bp x.b 0 0) (mo:=λx=>.box x.b 0 Z4) hS hi rfl rfl (λ_=>rfl) hw (λ_=>rfl) (λ_=>rfl) (λ_=>rfl) (λ_=>⟨rfl,rfl,.inr rfl,⟨rfl,rfl,.inr rfl,⟨rfl,rfl,.inr rfl,⟨rfl,rfl,.inr rfl,⟨rfl,rfl,.inr rfl,⟨rfl,rfl,.inr rfl,⟨rfl,rfl,.inr rfl,⟨rfl,rfl,.inr rfl,⟨rfl,rfl,.inr rfl,⟨rfl,rfl,.inr rfl,⟨rfl,rfl,.inr rfl,⟨rfl,rfl,.inr rfl,⟨rfl,rfl,.inr rfl,⟨rfl,rfl,.inl rfl,trivial⟩⟩⟩⟩⟩⟩⟩⟩⟩⟩⟩⟩⟩⟩) (λ_=>⟨trivial,rfl,⟨trivial,rfl,⟨trivial,rfl,⟨trivial,rfl,⟨trivial,rfl,⟨trivial,rfl,⟨⟨rfl,.inl rfl,trivial⟩,rfl,trivial⟩⟩⟩⟩⟩⟩⟩) (yD (dW (zs:=[.j 0,.j 0,.j 0,.j 0,.j 0,.j 0,.j 0,.j 0,.j 0,.j 0,.j 0,.j 0]) (aC rfl) zeroValue212 rfl rfl) (by rintro _ ⟨w,rfl⟩;exact⟨⟨w,undef⟩,bE [0,1,2,3,4,5,7] rfl rfl (le_refl _)⟩)),trivial⟩
                 · exactλF=>kL (bG rfl (bG rfl (bL (ae rfl))))
                ·intro F;refine to (sst 6 rfl rfl sizeOf212 (aM (aE.mk j.day (bOr j.done (w64 (1*2^(min e.toNat 64)))) (w64 (j.moves-L))))) (au 3 ?_);obtain⟨I,g4,h⟩:=bns h;refine yE mix 14 [0,3,6,7,10,11,13,14,15,51,52,53,110,111,112] (λa2=>[(146,.i I.2.1)]) (λa2=>[.map g (C.map λp:aE×Int=>((λa:aE=>Value.agg ((aM a).map bD).toArray) p.1,(λv:Int=>AV.i v) p.2)) T U,.box b1 0 (aM j),.box G 0 (aW y),.box N 0 (bX j.day),.box b8 0 (bS a5),.box b9 0 (aK (aF.mk e o s)),.box (F 13).b 0 (aM (aE.mk I.2.2 (bOr j.done (w64 (1*2^(min e.toNat 64)))) (w64 (j.moves-L))))]) ?_ ?_
                 ·refine⟨0,λa2=>[(135,0,.bp (F 13).b 0 0),(136,1,.cp [.sl 1 (c.Program.Days.map aO),.j c.Program.Rest,.sl 6 (c.Program.Jobs.map aW),.j c.days,fA 3 aK c.old,.lit (.map (some g))]),(137,2,.cp [.sl 1 (c.Program.Days.map aO),.j c.Program.Rest,.sl 6 (c.Program.Jobs.map aW),.j c.days,fA 3 aK c.old,.lit (.map (some g))]),(138,3,.cp [.sl 1 (c.Program.Days.map aO),.j c.Program.Rest,.sl 6 (c.Program.Jobs.map aW)]),(139,4,.agg (cH c.Program)),(140,5,.agg (aK (aF.mk e o s))),(141,6,.bp G 0 0),(142,7,.bp G 0 1),(143,8,.i y.Length.High),(144,9,.tup [.i I.1,.i I.2.1]),(134,10,.tup [.i I.1,.i I.2.1]),(145,11,.i I.1),(146,12,.i I.2.1),(16,13,.i I.1)],λa2=>[([],.map g (C.map λp:aE×Int=>((λa:aE=>Value.agg ((aM a).map bD).toArray) p.1,(λv:Int=>AV.i v) p.2)) T U),([],.box b1 0 (aM j)),([],.box G 0 (aW y)),([],.box N 0 (bX j.day)),([],.box b8 0 (bS a5)),([],.box b9 0 (aK (aF.mk e o s))),([(9,.box (F 13).b 0 (aM (aE.mk I.2.2 (bOr j.done (w64 (1*2^(min e.toNat 64)))) (w64 (j.moves-L)))))],.box (F 13).b 0 (aM (aE.mk j.day (bOr j.done (w64 (1*2^(min e.toNat 64)))) (w64 (j.moves-L)))))],?_,?_⟩
                  · exact xok [(0,10),(0,10),(2,10),(3,10),(4,10),(0,10),(0,10),(7,10),(8,10),(1050609,0),(10,0),(1011,0),(1011,0),(1012,0)] ⟨λ_ _ w _ k=>xp w (yf k rfl aRn),
 λ_ _ w _ k=>xp w (ym k (.cp [.sl 1 (c.Program.Days.map aO),.j c.Program.Rest,.sl 6 (c.Program.Jobs.map aW),.j c.days,fA 3 aK c.old,.lit (.map (some g))])),
 λ_ _ w _ k=>xp w (gQ (aC rfl) (bN k rfl)),
 λ_ _ w _ k=>xp w (yfc k [.sl 1 (c.Program.Days.map aO),.j c.Program.Rest,.sl 6 (c.Program.Jobs.map aW)] rfl xK),
 λ_ _ w _ k=>xp w (cMp k (cH c.Program) rfl aLz),
 λ_ _ w _ k=>xp w (yla k 5 (aK (aF.mk e o s)) rfl (og k rfl rfl) aIo),
 λ_ _ w _ k=>xp w (yf k rfl bId),
 λ_ _ w _ k=>xp w (yf k rfl aWe),
 λ_ _ w _ k=>xp w (yl k 2 rfl (og k rfl rfl) rfl mT),
 λa2 S hw hi hS=>bLc (X:=a2) (p:=6) hS rfl rfl rfl (hw a2) rfl rfl rfl (yD (aXf ((bUx 6 (x:=.box (F 13).b 0 (aM (aE.mk j.day (bOr j.done (w64 (1*2^(min e.toNat 64)))) (w64 (j.moves-L))))) (og hS rfl rfl)).trans (bE [6,0,1,2,3,4,5] rfl rfl (le_refl _))) (uG (passed:=[.box (F 13).b 0 ((bX j.day)++[.j (bOr j.done (w64 (1*2^(min e.toNat 64)))),.j (w64 (j.moves-L))])]) (aC rfl) rfl (.func _ _ call175) (ev2 (bN hS rfl) (ev2 (bN hS rfl) (ev2 (bN hS rfl) (ev2 (bN hS rfl) evn)))) rfl (aKw j.day c.Program (aF.mk e o s) y.Length.High (d_0_post:=[.j (bOr j.done (w64 (1*2^(min e.toNat 64)))),.j (w64 (j.moves-L))]) g4))) (by rintro _ ⟨_,_,⟨rfl,rfl⟩,rfl⟩;exact bE [1,2,3,4,5,6,0] rfl rfl (le_refl _))),
 λ_ _ w _ k=>xp w (ym k (.tup [.i I.1,.i I.2.1])),
 λ_ _ w _ k=>xp w (yex k rfl rfl),
 λ_ _ w _ k=>xp w (yex k rfl rfl),
 fun _ _ w _ k => xp w (ya k (.i I.1)),trivial⟩
                  · exactλa2=>kL (bG rfl (bL (ae rfl)))
                 ·intro a2;refine au 9 ?_;obtain⟨g5,a8,h⟩:=bns h;refine vI 4 [0,3,6,7,10,11,14,15,51,52,53,110,111,112] 155 g5 ?_ ?_
                  ·refine bch a8 (λg6 a8=>?_) (λg6 a8=>?_)
                   ·refine au 4 ?_;obtain rfl:=sIn a8;refine aZ (jR rfl (ae rfl) rfl)
                   ·refine au 4 ?_;obtain rfl:=sIn a8;refine aZ (jR rfl (ae rfl) rfl)
                  ·refine aZ ?_;refine tih h (λg7 h=>?_) (λg7 h=>?_)
                   ·refine eU ?_;refine .inl ⟨rfl,?_⟩;refine au 4 ?_;exact⟨(w64 (s+1),C,T,U),h,bE [0,1,2,3] rfl rfl (bG rfl (bL (ae rfl)))⟩
                   ·refine au 4 ?_;refine to (sla 6 (aM (aE.mk I.2.2 (bOr j.done (w64 (1*2^(min e.toNat 64)))) (w64 (j.moves-L)))) rfl rfl aHz) ?_;obtain⟨c1,g8,h⟩:=bns h;refine cC rfl (uG (passed:=[.map g (C.map λp:aE×Int=>((λa:aE=>Value.agg ((aM a).map bD).toArray) p.1,(λv:Int=>AV.i v) p.2)) T U]) (aC rfl) rfl (.func _ _ call95) rfl rfl (ih c C (aE.mk I.2.2 (bOr j.done (w64 (1*2^(min e.toNat 64)))) (w64 (j.moves-L))) g8)) ?_;rintro _ ⟨_,_,⟨c9,d0,rfl,rfl⟩,rfl⟩;refine au 10 ?_;refine tih h (λg9 h=>?_) (λg9 h=>?_)
                    ·refine bH (aV (to (sla 5 (aK (aF.mk e o s)) rfl rfl aIo) (to (aXd (aC rfl) bGc rfl rfl (rows:=([(aF.mk e o s)]).map aK) rfl (gB (f:=aK) λ_=>rfl) rfl (by decide)) ?_)));refine tm (.d (.sl 3 (c1.1.map aK))) ?_;obtain⟨i0,h0,h⟩:=bns h;refine to (bKh (.d (.weak _ _)) (bEz (nn:=true) (f:=aK) (xs:=[(aF.mk e o s)]) (ys:=c1.1) (aC rfl) bGc rfl rfl (λ_=>rfl) h0 rfl)) ?_;refine au 3 ?_;obtain rfl:=sIn h;refine jZ (bE [0] rfl rfl (bL (l:=[4,5]) (ae rfl))) ?_;exact eK ⟨rfl,_,.two _ _,_,_,rfl,rfl⟩
                    ·refine nD ?_;refine au 4 ?_;exact⟨(w64 (s+1),c1.2.2,c9,d0),h,bE [0,1,2,3] rfl rfl (bG rfl (bL (ae rfl)))⟩
               ·refine eU ?_;refine .inl ⟨rfl,?_⟩;simp only[rQ] at h;simp only[rP] at h;refine au 5 ?_;exact⟨(w64 (o+1),C,T,U),h,bE [0,1,2] rfl rfl (bG rfl (bL (ae rfl)))⟩
             ·refine eU ?_;refine .inl ⟨rfl,?_⟩;simp only[wJ] at h;simp only[fV] at h;refine au 4 ?_;exact⟨(w64 (e+1),O,b0,b2),h,bE [0,1] rfl rfl (bG rfl (bL (ae rfl)))⟩
         ·refine eU ?_;refine .inl ⟨rfl,?_⟩;simp only[wI] at h;refine bH (aV (to (wV 3 (aC rfl)) ?_));refine au 2 ?_;obtain rfl:=sIn h;refine jZ (bE [0] rfl rfl (bL (l:=[4,5]) (ae rfl))) ?_;exact eK ⟨rfl,_,.two _ _,_,_,rfl,rfl⟩
theorem aSs(j:dQ)(e:List (aE×Int))(k:aE){r:(List aF)×Bool×(List (aE×Int))}{c:Nat}{f:List Nat}{g:Nat}(h:aAn j e k=some r):aX Tryz.prog 95 [.cp (Z0 j c),.agg (aM k)] [.map c (e.map λp:aE×Int=>((λa:aE=>Value.agg ((aM a).map bD).toArray) p.1,(λv:Int=>AV.i v) p.2)) f g] (λr' o'=>∃(l:List Nat) (m:Nat),r'=.tup [.d (.sl 3 (r.1.map aK)),.b r.2.1]/\o'=[.map c (r.2.2.map λp:aE×Int=>((λa:aE=>Value.agg ((aM a).map bD).toArray) p.1,(λv:Int=>AV.i v) p.2)) l m]):=aQo BIG _ _ _ h

theorem bJo(c:aH)(e:Int)(f:Option (List aF))(g:Int){r:(List aF)×Bool}(h:yV c e f g=some r):Fn Tryz.prog 54 [.agg (cH c),.i e,.d (fA 3 aK f),.i g] (.tup [.d (.sl 3 (r.1.map aK)),.b r.2]):=by
 unfold yV at h;refine oT [.tmp 8,.tmp 9] func54 results54 ntmps54 ?_;refine bH (aV ?_);refine cC rfl (mY (v:=.agg (cH c)) (aC rfl) rfl rfl rfl) ?_;rintro _ ⟨b1,rfl⟩;refine to (wV 3 (aC rfl)) ?_;refine au 4 ?_;refine to (sla 0 (cH c) rfl rfl aLz) (au 2 ?_);refine cC rfl (aSy (aC rfl)) ?_;rintro _ ⟨r2,rfl⟩;refine to (jI (aC rfl) cIb (zs:=[.sl 1 ((([]:List (List bO))).map aO),.j 0,.sl 6 ((([]:List bK)).map aW),.j 0,.sl 3 ((([]:List aF)).map aK),.lit (.map none)]) rfl rfl rfl rfl (es:=[.sl 1 (c.Days.map aO),.j c.Rest,.sl 6 (c.Jobs.map aW),.j e,fA 3 aK f,.lit (.map (some r2))]) rfl) ?_;refine cC rfl (mY (v:=.agg [.sl 1 (c.Days.map aO),.j c.Rest,.sl 6 (c.Jobs.map aW),.j e,fA 3 aK f,.lit (.map (some r2))]) (aC rfl) rfl rfl rfl) ?_;rintro _ ⟨b3,rfl⟩;refine au 8 ?_;refine tih h (λc4 h=>?_) (λc4 h=>?_)
 ·refine bH ?_;refine rK mix 5 [] [(8,.d (.sl 3 ((([]:List aF)).map aK))),(22,.b (decide ((c.Jobs.length:Int)=0)))] ?_ ?_
  ·refine⟨[(19,0,.bp b1 0 2),(20,1,.d (.sl 6 (c.Jobs.map aW))),(21,2,.i (c.Jobs.length:Int)),(22,3,.b (decide ((c.Jobs.length:Int)=0))),(8,4,.d (.sl 3 ((([]:List aF)).map aK)))],?_,?_⟩
   · exact dk [0,1,2,3,0] ⟨go (zf rfl aOb),
 go (zl 0 rfl rfl rfl aZp),
 go (zle rfl bAs.of),
 go (zcm rfl rfl rfl),
 go λS hS=>wV 3 (aC rfl),trivial⟩
   · exact kL (bG rfl (bG rfl (bL trivial)))
  ·refine au 2 ?_;obtain rfl:=sIn h;refine jZ (aAh (aEb (l:=[8,9]) (ae rfl))) ?_;exact eK ⟨rfl,_,.two _ _,rfl,rfl⟩
 ·refine au 4 ?_;refine to (sla 0 (cH c) rfl rfl aLz) ?_;obtain⟨r5,h6,h⟩:=bns h;refine to (scr call96 ((aVm _ _).h _ h6)) (tm (.i g) (to (jI (aC rfl) bDc (zs:=[.j 0,.j 0,.j 0,.j 0,.j 0,.j 0,.j 0,.j 0,.j 0,.j 0,.j 0,.j 0]) rfl rfl rfl rfl (es:=[.j r5.number,.j r5.free.x0,.j r5.free.x1,.j r5.free.x2,.j r5.ends.x0,.j r5.ends.x1,.j r5.ends.x2,.j r5.ends.x3,.j r5.ends.x4,.j r5.ends.x5,.j 0,.j g]) rfl) ?_));apply cIj [.box b1 0 (cH c),.map r2 (([]:List (aE×Int)).map λp:aE×Int=>((λa:aE=>Value.agg ((aM a).map bD).toArray) p.1,(λv:Int=>AV.i v) p.2)) ([]) 0] [.box b3 0 [.sl 1 (c.Days.map aO),.j c.Rest,.sl 6 (c.Jobs.map aW),.j e,fA 3 aK f,.lit (.map (some r2))]] rfl;exact aIa (k:=23) (v:=.cp [.sl 1 (c.Days.map aO),.j c.Rest,.sl 6 (c.Jobs.map aW),.j e,fA 3 aK f,.lit (.map (some r2))]) (aTi 0 rfl rfl (dvc (.same _) (dvc (.same _) (dvc (.same _) (dvc (.same _) (dvc (.same _) (dvc (.same _) dvn))))))) (aIa (k:=16) (v:=.cp [.sl 1 (c.Days.map aO),.j c.Rest,.sl 6 (c.Jobs.map aW),.j e,fA 3 aK f,.lit (.map (some r2))]) (aTi 0 rfl rfl (dvc (.same _) (dvc (.same _) (dvc (.same _) (dvc (.same _) (dvc (.same _) (dvc (.same _) dvn))))))) (aIa (k:=10) (v:=.cp [.sl 1 (c.Days.map aO),.j c.Rest,.sl 6 (c.Jobs.map aW),.j e,fA 3 aK f,.lit (.map (some r2))]) (aTi 0 rfl rfl (dvc (.same _) (dvc (.same _) (dvc (.same _) (dvc (.same _) (dvc (.same _) (dvc (.same _) dvn))))))) (bYz _ _)));obtain⟨r7,h8,h⟩:=bns h;refine kY (bE [1,0] rfl rfl (le_refl _)) ?_;refine cC rfl (uG (passed:=[.map r2 (([]:List (aE×Int)).map λp:aE×Int=>((λa:aE=>Value.agg ((aM a).map bD).toArray) p.1,(λv:Int=>AV.i v) p.2)) ([]) 0]) (aC rfl) rfl (.func _ _ call95) rfl rfl (aSs (dQ.mk c e f) ([]:List (aE×Int)) (aE.mk r5 0 g) h8)) ?_;rintro _ ⟨_,_,⟨s,q,rfl,rfl⟩,rfl⟩;refine au 5 ?_;obtain rfl:=sIn h;refine jZ (aAh (aEb (l:=[8,9]) (ae rfl))) ?_;exact eK ⟨rfl,_,.two _ _,rfl,rfl⟩
instance cLe(c:aH)(e:Int)(f:Option (List aF))(g:Int):KC Tryz.prog (yV c e f g) 54 [.agg (cH c),.i e,.d (fA 3 aK f),.i g] (λr:(List aF)×Bool=>(.tup [.d (.sl 3 (r.1.map aK)),.b r.2])):=⟨call54,λ_ h=>bJo _ _ _ _ h⟩

instance cMv(c:aH):KC Tryz.prog (aKv c) 29 [.agg (cH c)] (λr:Int×(List aF)×Bool=>(.tup [.i r.1,.d (.sl 3 (r.2.1.map aK)),.b r.2.2])):=⟨call29,λr h=>by
 refine fnx xT {} _ func29 results29 ntmps29 ?_
 repeat' ((conv=>whnf);first|(refine S2 ?_ ?_<;>intro _ _ h)|(refine S1 ?_;intro _ _ h)|(refine xl1 [1,11] [1] (F:=uB _ _) (λ(a:Int)=>([(12,.i a)],[])) h eB ?_;intro k a h)|exact S0)⟩

instance cMt(c:aH):KC Tryz.prog (aKs c) 8 [.agg (cH c)] (λr:(List aF)×Int=>(.tup [.d (.sl 3 (r.1.map aK)),.i r.2])):=⟨call8,λr h=>fnw xT {} func8 results8 ntmps8⟩

instance bZj(m:List aF)(n:Int):KC Tryz.prog (tV m n) 55 [.d (.sl 3 (m.map aK)),.i n] (λr:Bool=>(.b r)):=⟨call55,λr h=>by
 refine fnx xT {} _ func55 results55 ntmps55 ?_
 repeat' ((conv=>whnf);first|(refine S2 ?_ ?_<;>intro _ _ h)|(refine S1 ?_;intro _ _ h)|(refine xl1 [0,1] [] (F:=nG _ _) (λ(a:Int)=>([(5,.i a)],[])) h eB ?_;intro k a h)|exact S0)⟩

instance bQn(c:aH)(j:List aF)(o:aF):KC Tryz.prog (sM c j o) 30 [.agg (cH c),.d Z25,.agg (aK o)] (λr:Bool=>(.b r)):=⟨call30,λr h=>by
 refine fnx xT {} _ func30 results30 ntmps30 ?_
 repeat' ((conv=>whnf);first|(refine S2 ?_ ?_<;>intro _ _ h)|(refine S1 ?_;intro _ _ h)|(refine xl1 [1,3,5] [3,5] (F:=iC _ _ _) (λ(a:Int)=>([(7,.i a)],[])) h eB ?_;intro k a h)|(refine xl1 [1,3,5] [3,5] (F:=kD _ _ _) (λ(a:Int)=>([(8,.i a)],[])) h eB ?_;intro k a h)|exact S0)⟩

instance bQm(c:aH)(j:List aF):KC Tryz.prog (oQ c j) 9 [.agg (cH c),.d Z25] (λr:Bool=>(.b r)):=⟨call9,λr h=>by
 refine fnx xT {} _ func9 results9 ntmps9 ?_
 repeat' ((conv=>whnf);first|(refine S2 ?_ ?_<;>intro _ _ h)|(refine S1 ?_;intro _ _ h)|(refine xl1 [1,2] [2] (F:=kC _ _) (λ(a:Int)=>([(5,.i a)],[])) h eB ?_;intro k a h)|exact S0)⟩

theorem aMf(kr:Nat):∀(a:Int) {r:Str} (_h:qF kr a=some r),Fn Tryz.prog 10 [.i a] (.d (.lit (.string ⟨r.toArray⟩))):=by
  induction kr with
  |zero=>intros;rename_i h;cases h
  | succ kr ih=>
    intro a r h;simp only[qF] at h;refine fnx xT {} [.tmp 2] func10 results10 ntmps10 ?_;refine br h (λh=>?_) λh=>?_
    ·refine cEo underlying9 h λx1 h=>?_;cases h;exact⟨rfl,rfl,rfl⟩
    ·refine⟨by kernel_rfl,?_⟩;refine⟨by decide,?_⟩;refine cl call10 (λ_=>ih _) h λr3 h=>?_;refine⟨by decide,?_⟩;refine⟨by decide,?_⟩;refine cEo underlying9 h λx5 h=>?_;refine cEm h λx7 h=>?_;refine⟨by kernel_rfl,?_⟩;cases h;exact⟨rfl,rfl,rfl⟩
theorem aNv(c:Int){r:Str}(h:bV c=some r):Fn Tryz.prog 10 [.i c] (.d (.lit (.string ⟨r.toArray⟩))):=aMf BIG _ h
instance bQo(c:Int):KC Tryz.prog (bV c) 10 [.i c] (λr:Str=>(.d (.lit (.string ⟨r.toArray⟩)))):=⟨call10,λ_ h=>aNv _ h⟩

instance bQj:KC Tryz.prog (sH) 14 [] (λr:dK=>(.agg (fO r))):=⟨call14,λr h=>fnw xT {} func14 results14 ntmps14⟩

instance bQf:KC Tryz.prog (aFn) 39 [] (λr:dC×(List Int)=>(.tup [.agg (lL r.1),.d (.sl 1 (r.2.map aP))])):=⟨call39,λr h=>fnw xT {} func39 results39 ntmps39⟩

instance bQh:KC Tryz.prog (xC) 16 [] (λr:yH=>(.agg (aNx r))):=⟨call16,λr h=>fnw xT {} func16 results16 ntmps16⟩

instance cDo(e:Int):KC Tryz.prog (aGj e) 241 [.i e] (λr:Bool=>(.b r)):=⟨call241,λr h=>fnw xT {} func241 results241 ntmps241⟩

instance cFt(e:Int)(j:Int):KC Tryz.prog (aRi e j) 206 [.i e,.i j] (λr:Bool=>(.b r)):=⟨call206,λr h=>fnw xT {} func206 results206 ntmps206⟩

instance bOs(e:List Int):KC Tryz.prog (aDv e) 149 [.d (.sl 1 (e.map aP))] (λr:Bool=>(.b r)):=⟨call149,λr h=>by
 refine fnx xT {} _ func149 results149 ntmps149 ?_
 repeat' ((conv=>whnf);first|(refine S2 ?_ ?_<;>intro _ _ h)|(refine S1 ?_;intro _ _ h)|(refine xl1 [0] [] (F:=tD _) (λ(a:Int)=>([(3,.i a)],[])) h eB ?_;intro k a h)|exact S0)⟩

instance cHl(c:Int)(g:Int)(f:Int):KC Tryz.prog (jB c g f) 150 [.i c,.i g,.i f] (λr:Bool=>(.b r)):=⟨call150,λr h=>fnw xT {} func150 results150 ntmps150⟩

instance cEq(l:dX):KC Tryz.prog (aGs l) 74 [.agg (oK l)] (λr:Bool=>(.b r)):=⟨call74,λr h=>fnw xT {} func74 results74 ntmps74⟩

theorem aHd(x:List Int){r:List Int}{x_v:Value}{e:TypeId}(h:slices_Sort_int x=some r):aX Tryz.prog 151 [.d (Z3 x_v)] [.arr x_v e 1 (x.map aP)] (λr' o'=>r'=.tup []/\o'=[.arr x_v e 1 (r.map aP)]):=by
 unfold slices_Sort_int at h;split at h
 ·cases h;exact bSt (λblk off cap zs w=>Tryz.slices_Sort_int blk off cap zs w) (λq cap w=>Tryz.slices_Sort_int_none q cap w) (by assumption)
 ·cases h

theorem bAb(c:dX){r:(List Int)}(h:pU c=some r):Fn Tryz.prog 152 [.agg (oK c)] (.d (.sl 1 (r.map aP))):=by
 unfold pU at h;refine fnx xT {ow:=[3]} [.tmp 2] func152 results152 ntmps152 ?_;refine ol ?_;refine xlp [7,8] [] (λ((a,b):Int×(List Int))=>([(3,.d (.hv 0 3 0)),(9,.i a)],[(3,.arr 3 1 (b.map aP))])) (λk ((a,b):Int×(List Int))=>rD c.Teams (c.Teams.length:Int) k a b) (0,([]:List Int)) h (lev []) ?_;rintro k4 ⟨a,b⟩ h;simp only[rD] at h;refine br h (λh=>?_) λh=>?_
 ·refine oi h λx5 h=>?_;refine oap h λx8 h=>?_;refine br h (λh=>?_) λh=>?_
  ·refine oap h λg h=>?_;exact⟨(w64 (a+1),g),h,lev [(3,25)]⟩
  ·exact⟨(w64 (a+1),x8),h,lev [(3,17)]⟩
 ·simp only[aJp] at h;refine cg (α:=(List Int)) [(3,_)] [] (λf=>.tup []) (λf=>[some (.arr 3 1 (f.map aP))]) (λ_=>[]) call151 (λ_ h q=>⟨_,aHd (x_v:=q.ss 3) (e:=3) b h,λ_ _ ⟨e1,e2⟩=>⟨_,rfl,[],e1,e2.trans (by kernel_rfl)⟩⟩) h λf h=>?_;cases h;exact⟨rfl,rfl,rfl⟩
instance cEr(c:dX):KC Tryz.prog (pU c) 152 [.agg (oK c)] (λr:(List Int)=>(.d (.sl 1 (r.map aP)))):=⟨call152,λ_ h=>bAb _ h⟩

theorem aPq(b:List Int){r:(List Int)}{s_0_v:Value}(h:aGe b=some r):aX Tryz.prog 209 [.d (Z3 s_0_v)] [.arr s_0_v 3 1 (b.map aP)] (λr' o'=>∃w0:Value,r'=.d (.lit w0)/\o'=[.arr w0 3 1 (r.map aP)]):=by
 refine fng xT {ow:=[2]} false [(0,0,s_0_v)] [.d (.hv 0 100000 0)] [(100000,.arr 3 1 (b.map aP))] [.tmp 2] func209 results209 ntmps209 ?_
 repeat' ((conv=>whnf);first|(refine S2 ?_ ?_<;>intro _ _ h)|(refine S1 ?_;intro _ _ h)|(refine xl1 [0] [100000] (F:=uJ _) (λ(a:Int)=>([(3,.i a)],[])) h eB ?_;intro k a h)|exact S0)

theorem aUp(a:List Int){r:Bool}(h:sT a=some r):Fn Tryz.prog 153 [.d (Z12 a)] (.b r):=by
 unfold sT at h;refine fnx xT {} [.tmp 2] func153 results153 ntmps153 ?_;refine cow call169 (λ_=>rR _) h λr1 h=>?_;refine cg [(4,_)] [5] (λ_=>.d (.hv 0 5 0)) (λ_=>[none]) (λr4=>[(5,.arr 3 1 (r4.map aP))]) call209 (λ_ h q=>⟨_,aPq (s_0_v:=q.ss 4) r1 h,λ_ _ ⟨w0,e1,e2⟩=>⟨_,rfl,[.s w0],e1,e2.trans (by kernel_rfl)⟩⟩) h λr4 h=>?_;refine ol ?_;refine ol ?_;cases h;exact⟨rfl,rfl,rfl⟩
instance bYi(a:List Int):KC Tryz.prog (sT a) 153 [.d (Z12 a)] (λr:Bool=>(.b r)):=⟨call153,λ_ h=>aUp _ h⟩

theorem aKb(c:List Int)(n:List rX)(m:rX->Option (Int×Bool)){r:Bool}(a:Nat)(e:List AV)(p:∀args w,(callFunc a args).run Tryz.prog w=.ok (.enter a args) w)(q:∀(x0:rX) r,m x0=some r->Fn Tryz.prog a ([.agg (sO x0)]++e) (.tup [.i r.1,.b r.2]))(h:uD c n m=some r):Fn Tryz.prog 156 [.d (Z12 c),.d (.sl 2 (n.map sO)),.fn a e] (.b r):=by
 unfold uD at h;refine oT [.tmp 6] func156 results156 ntmps156 ?_;refine au 6 ?_;refine to (yB 3 1 (.inl rfl) (aC rfl)) ?_;refine au 9 ?_;refine fC (S:=Int×(List Int)×Value) [0,2,12,13] (λs2=>[(7,.d (.lit s2.2.2)),(14,.i s2.1)]) (λs2=>[.arr s2.2.2 3 1 (s2.2.1.map aP)]) (λk s2=>mV c m n (n.length:Int) k s2.1 s2.2.1) (λ_=>rfl) (0,([]:List Int),(.slice none 0 0)) h (bE [0] rfl rfl (bG rfl (bG rfl (bL (ae rfl))))) ?_;rintro k4 ⟨o,y,w3⟩ h;simp only[mV] at h;refine au 5 ?_;refine tih h (λc5 h=>?_) (λc5 h=>?_)
 ·refine au 5 ?_;obtain⟨x6,h7,h⟩:=bns h;refine to (six rfl rfl cEx.of (fM sO h7)) (to (aDd (sO x6) rfl bMu) ?_);refine cC rfl (dW (zs:=[.j 0,.j 0]) (aC rfl) zeroValue126 rfl rfl) ?_;rintro _ ⟨b8,rfl⟩;refine to (sst 1 rfl rfl sizeOf126 (sO x6)) (au 3 ?_);refine tm (.fn a e) (to (sla 1 (sO x6) rfl rfl bMu) ?_);obtain⟨r9,z,h⟩:=bns h;refine to (pB (aC rfl) (.clo _ _ _ _ p rfl) (aEg rfl) rfl (BVs.refl _ _) (q _ _ z) rfl) ?_;refine au 12 ?_;obtain⟨t,g,h⟩:=bns h;refine vI 5 [0,2,7,10,12,13,14] 31 t ?_ ?_
  ·refine bch g (λu g=>?_) (λu g=>?_)
   ·refine au 5 ?_;obtain rfl:=sIn g;refine aZ (jR rfl (ae rfl) rfl)
   ·refine au 2 ?_;obtain⟨I,A,g⟩:=bns g;refine tk u (scr call53 ((pO _ _).h _ A)) (au 2 ?_);obtain rfl:=sIn g;refine aZ (jR rfl (ae rfl) rfl)
  ·refine tm (.b t) ?_;obtain⟨B,j,h⟩:=bns h;refine vI 4 [0,2,7,10,12,13,14] 36 B ?_ ?_
   ·refine bch j (λs j=>?_) (λs j=>?_)
    ·refine au 4 ?_;obtain rfl:=sIn j;refine aZ (jR rfl (ae rfl) rfl)
    ·refine au 2 ?_;obtain⟨C,E,j⟩:=bns j;refine tk s (sc call53 ((pO _ _).h _ E) (.cons (.d (vT 0 rfl (gB (f:=aP) λ_=>rfl))) (.cons (.same _) .nil))) (to (spf (.b C) s) ?_);obtain rfl:=sIn j;refine aZ (jR rfl (ae rfl) rfl)
   ·refine aZ ?_;refine tih h (λF h=>?_) (λF h=>?_)
    ·refine bH ?_;cases h
    ·refine au 4 ?_;refine to (yA (aC rfl) aUc rfl rfl (rows:=([r9.1]).map aP) rfl (gB (f:=aP) λ_=>rfl) rfl (by decide)) ?_;obtain⟨G,H,h⟩:=bns h;refine cC rfl (uQ (i:=0) (aC rfl) aUc rfl rfl rfl (λ_=>rfl) H rfl) ?_;rintro _ ⟨v,rfl⟩;refine ta (.d (.lit v)) ?_;refine yY ?_;refine au 4 ?_;exact⟨(w64 (o+1),G,v),h,bE [0] rfl rfl (bG rfl (bG rfl (bL (ae rfl))))⟩
 ·refine eU ?_;refine .inl ⟨rfl,?_⟩;simp only[xW] at h;refine au 4 ?_;obtain rfl:=sIn h;refine jZ (aAh (aEb (l:=[6]) (ae rfl))) ?_;exact rt

instance bWy(x:rX):KC Tryz.prog (aJm x) 154 [.agg (sO x)] (λr:Int×Bool=>(.tup [.i r.1,.b r.2])):=⟨call154,λr h=>fnw xT {} func154 results154 ntmps154⟩

theorem aKc(c:List Int)(n:List qS)(m:qS->Option (Int×Bool)){r:Bool}(a:Nat)(e:List AV)(p:∀args w,(callFunc a args).run Tryz.prog w=.ok (.enter a args) w)(q:∀(x0:qS) r,m x0=some r->Fn Tryz.prog a ([.agg (sP x0)]++e) (.tup [.i r.1,.b r.2]))(h:uE c n m=some r):Fn Tryz.prog 157 [.d (Z12 c),.d (.sl 3 (n.map sP)),.fn a e] (.b r):=by
 unfold uE at h;refine oT [.tmp 6] func157 results157 ntmps157 ?_;refine au 6 ?_;refine to (yB 3 1 (.inl rfl) (aC rfl)) ?_;refine au 9 ?_;refine fC (S:=Int×(List Int)×Value) [0,2,12,13] (λs2=>[(7,.d (.lit s2.2.2)),(14,.i s2.1)]) (λs2=>[.arr s2.2.2 3 1 (s2.2.1.map aP)]) (λk s2=>mW c m n (n.length:Int) k s2.1 s2.2.1) (λ_=>rfl) (0,([]:List Int),(.slice none 0 0)) h (bE [0] rfl rfl (bG rfl (bG rfl (bL (ae rfl))))) ?_;rintro k4 ⟨o,y,w3⟩ h;simp only[mW] at h;refine au 5 ?_;refine tih h (λc5 h=>?_) (λc5 h=>?_)
 ·refine au 5 ?_;obtain⟨x6,h7,h⟩:=bns h;refine to (six rfl rfl cEy.of (fM sP h7)) (to (aDd (sP x6) rfl bMv) ?_);refine cC rfl (dW (zs:=[.j 0,.j 0,.j 0]) (aC rfl) zeroValue128 rfl rfl) ?_;rintro _ ⟨b8,rfl⟩;refine to (sst 1 rfl rfl sizeOf128 (sP x6)) (au 3 ?_);refine tm (.fn a e) (to (sla 1 (sP x6) rfl rfl bMv) ?_);obtain⟨r9,z,h⟩:=bns h;refine to (pB (aC rfl) (.clo _ _ _ _ p rfl) (aEg rfl) rfl (BVs.refl _ _) (q _ _ z) rfl) ?_;refine au 12 ?_;obtain⟨t,g,h⟩:=bns h;refine vI 5 [0,2,7,10,12,13,14] 31 t ?_ ?_
  ·refine bch g (λu g=>?_) (λu g=>?_)
   ·refine au 5 ?_;obtain rfl:=sIn g;refine aZ (jR rfl (ae rfl) rfl)
   ·refine au 2 ?_;obtain⟨I,A,g⟩:=bns g;refine tk u (scr call53 ((pO _ _).h _ A)) (au 2 ?_);obtain rfl:=sIn g;refine aZ (jR rfl (ae rfl) rfl)
  ·refine tm (.b t) ?_;obtain⟨B,j,h⟩:=bns h;refine vI 4 [0,2,7,10,12,13,14] 36 B ?_ ?_
   ·refine bch j (λs j=>?_) (λs j=>?_)
    ·refine au 4 ?_;obtain rfl:=sIn j;refine aZ (jR rfl (ae rfl) rfl)
    ·refine au 2 ?_;obtain⟨C,E,j⟩:=bns j;refine tk s (sc call53 ((pO _ _).h _ E) (.cons (.d (vT 0 rfl (gB (f:=aP) λ_=>rfl))) (.cons (.same _) .nil))) (to (spf (.b C) s) ?_);obtain rfl:=sIn j;refine aZ (jR rfl (ae rfl) rfl)
   ·refine aZ ?_;refine tih h (λF h=>?_) (λF h=>?_)
    ·refine bH ?_;cases h
    ·refine au 4 ?_;refine to (yA (aC rfl) aUc rfl rfl (rows:=([r9.1]).map aP) rfl (gB (f:=aP) λ_=>rfl) rfl (by decide)) ?_;obtain⟨G,H,h⟩:=bns h;refine cC rfl (uQ (i:=0) (aC rfl) aUc rfl rfl rfl (λ_=>rfl) H rfl) ?_;rintro _ ⟨v,rfl⟩;refine ta (.d (.lit v)) ?_;refine yY ?_;refine au 4 ?_;exact⟨(w64 (o+1),G,v),h,bE [0] rfl rfl (bG rfl (bG rfl (bL (ae rfl))))⟩
 ·refine eU ?_;refine .inl ⟨rfl,?_⟩;simp only[xX] at h;refine au 4 ?_;obtain rfl:=sIn h;refine jZ (aAh (aEb (l:=[6]) (ae rfl))) ?_;exact rt

instance bWz(x:qS):KC Tryz.prog (aJn x) 155 [.agg (sP x)] (λr:Int×Bool=>(.tup [.i r.1,.b r.2])):=⟨call155,λr h=>fnw xT {} func155 results155 ntmps155⟩

theorem aWx(g:dX){r:Bool}(h:qV g=some r):Fn Tryz.prog 75 [.agg (oK g)] (.b r):=by
 unfold qV at h;refine fnx xT {ow:=[3]} [.tmp 2] func75 results75 ntmps75 ?_;refine ol ?_;refine br h (λh=>?_) λh=>?_
 ·cases h
 ·refine ol ?_;refine xlp [1,18,19] [1] (λ((j,a):Int×(List Int))=>([(3,.d (.hv 0 3 0)),(20,.i j)],[(3,.arr 3 1 (a.map aP))])) (λk ((j,a):Int×(List Int))=>tK g.Teams (g.Teams.length:Int) g k j a) (0,([]:List Int)) h (lev []) ?_;rintro k4 ⟨j,a⟩ h;simp only[tK] at h;refine br h (λh=>?_) λh=>?_
  ·refine oi h λx5 h=>?_;refine cl call150 KC.h h λr8 h=>?_;refine jg h (λx h=>?_) λp h=>?_
   ·refine br h (λh=>?_) λh=>?_
    ·exact jt h
    ·refine cl call150 KC.h h λs h=>?_;exact jt h
   ·refine jg h (λx h=>?_) λt h=>?_
    ·refine br h (λh=>?_) λh=>?_
     ·exact jt h
     ·refine cl call150 KC.h h λu h=>?_;exact jt h
    ·refine br h (λh=>?_) λh=>?_
     ·cases h
     ·refine oap h λn h=>?_;exact⟨(w64 (j+1),n),h,lev [(3,44)]⟩
  ·simp only[tJ] at h;refine cg (α:=(List Int)) [(3,_)] [] (λl=>.tup []) (λl=>[some (.arr 3 1 (l.map aP))]) (λ_=>[]) call151 (λ_ h q=>⟨_,aHd (x_v:=q.ss 3) (e:=3) a h,λ_ _ ⟨e1,e2⟩=>⟨_,rfl,[],e1,e2.trans (by kernel_rfl)⟩⟩) h λl h=>?_;refine cd call152 KC.h h λm h=>?_;refine cl call153 KC.h h λv h=>?_;refine jg h (λx h=>?_) λw h=>?_
   ·refine br h (λh=>?_) λh=>?_
    ·exact jt h
    ·refine cl call153 KC.h h λy h=>?_;exact jt h
   ·refine br h (λh=>?_) λh=>?_
    ·cases h
    ·refine ol ?_;refine xlp [1,3,6,60,61] [1,3] (λ(c:Int)=>([(62,.i c)],[])) (λk (c:Int)=>tL m g.Tree.Slots (g.Tree.Slots.length:Int) g l k c) (0) h (lev []) ?_;rintro z c h;simp only[tL] at h;refine br h (λh=>?_) λh=>?_
     ·refine oi h λA h=>?_;refine jg h (λx h=>?_) λB h=>?_
      ·refine br h (λh=>?_) λh=>?_
       ·refine cl call53 KC.h h λC h=>?_;exact jt h
       ·exact jt h
      ·refine br h (λh=>?_) λh=>?_
       ·cases h
       ·exact⟨(w64 (c+1)),h,lev []⟩
     ·simp only[aHb] at h;refine ol ?_;refine xlp [1,3,6,76,77] [1,3] (λ(f:Int)=>([(78,.i f)],[])) (λk (f:Int)=>tM m g.Slips (g.Slips.length:Int) g l k f) (0) h (lev []) ?_;rintro E f h;simp only[tM] at h;refine br h (λh=>?_) λh=>?_
      ·refine oi h λF h=>?_;refine jg h (λx h=>?_) λG h=>?_
       ·refine br h (λh=>?_) λh=>?_
        ·refine cl call53 KC.h h λH h=>?_;exact jt h
        ·exact jt h
       ·refine br h (λh=>?_) λh=>?_
        ·cases h
        ·exact⟨(w64 (f+1)),h,lev []⟩
      ·simp only[aHc] at h;refine cl call156 (λ_=>aKb _ _ _ 154 [] call154 (λ_ _ h=>KC.o h)) h λI h=>?_;refine jg h (λx h=>?_) λK h=>?_
       ·refine br h (λh=>?_) λh=>?_
        ·refine cl call157 (λ_=>aKc _ _ _ 155 [] call155 (λ_ _ h=>KC.o h)) h λL h=>?_;exact jt h
        ·exact jt h
       ·cases h;exact⟨rfl,rfl,rfl⟩
instance cBy(g:dX):KC Tryz.prog (qV g) 75 [.agg (oK g)] (λr:Bool=>(.b r)):=⟨call75,λ_ h=>aWx _ h⟩

theorem aJw(a:List aT){r:(List aT)}(h:uI a=some r):aX Tryz.prog 210 [.d (.sl 4 (a.map bP))] [] (λr' o'=>∃(w0:Value),r'=.d (.lit w0)/\o'=[.arr w0 130 4 (r.map bP)]):=by
 unfold uI at h;refine fng xT {ow:=[2,2,5],nd:=[4]} false [] [.d (.sl 4 (a.map bP))] [] [.tmp 2] func210 results210 ntmps210 ?_;refine onl underlying74 λb2 h3=>?_;refine ob2 (λc4=>?_) λ_=>?_
 ·obtain rfl:=aOr (h3 c4)
  simp[app] at h
  subst h;exact⟨rfl,[70002],λ_ _ s=>⟨s 70002,rfl,by kernel_rfl⟩⟩
 ·refine oap h λx6 h=>?_;cases h;exact⟨rfl,[7],λ_ _ s=>⟨s 7,rfl,by kernel_rfl⟩⟩

theorem wM(e:List aT)(f:Int)(o:Int)(m:aT->aT->Option Int){r:(List aT)}{a:Value}(g:Nat)(j:List AV)(q:∀args w,(callFunc g args).run Tryz.prog w=.ok (.enter g args) w)(s:∀(x0:aT) (x1:aT) r,m x0 x1=some r->Fn Tryz.prog g ([.agg (bP x0),.agg (bP x1)]++j) (.i r))(h:kR e f o m=some r):aX Tryz.prog 277 [.d (.lit a),.i f,.i o,.fn g j] (Z8 a e) (λr' o'=>r'=.tup []/\o'=[.arr a 130 4 (r.map bP)]):=by
 unfold kR at h;refine wB func277 rfl (rs:=[]) results277 ntmps277 (f5 rfl) ?_;refine au 7 ?_;refine fC (S:=Int) [0,1,2,3] (λs1=>[(8,.i s1)]) (λs1=>(Z8 a e)) (λk s1=>eF f o m e k s1) (λ_=>rfl) (w64 (f+1)) h (bE [0] rfl rfl (bG rfl (bL (ae rfl)))) ?_;rintro k2 n h;simp only[eF] at h;refine au 7 ?_;refine tih h (λc3 h=>?_) (λc3 h=>?_)
 ·refine au 8 ?_;refine aIj ?_;refine fC (S:=Int) [0,1,2,3,8] (λs4=>[(9,.i s4)]) (λs4=>(Z8 a e)) (λk s4=>jD (eF f o m e k2) f o m n e k s4) (λ_=>rfl) (n) h (bE [0] rfl rfl (bG rfl (bL (ae rfl)))) ?_;rintro k5 c h;simp only[jD] at h;refine bH (bH ?_);obtain⟨b6,h7,h⟩:=bns h;refine rK mix 17 [0,1,2,3,8,9] [(34,.b b6)] ?_ ?_
  ·refine bch h7 (λc8 h7=>?_) (λc8 h7=>?_)
   ·obtain⟨x9,t,h7⟩:=bns h7;obtain⟨u,v,h7⟩:=bns h7;obtain⟨p,x,h7⟩:=bns h7;obtain rfl:=sIn h7;refine⟨[(18,0,.i c),(19,1,.i f),(20,2,.b (decide (f<c))),(21,3,.b (decide (f<c))),(22,4,.fn g j),(23,5,.d (.lit a)),(24,6,.i c),(25,7,.ep a 4 c.toNat 0),(26,8,.agg (bP x9)),(27,9,.d (.lit a)),(28,10,.i c),(29,11,.i (w64 (c-1))),(30,12,.ep a 4 (w64 (c-1)).toNat 0),(31,13,.agg (bP u)),(32,14,.i p),(33,15,.b (decide (p<0))),(34,16,.b (decide (p<0)))],?_,?_⟩
    · exact dk [0,0,102,3,4,4,4,40607,408,4,4,411,41012,413,4050914,415,416] ⟨go (zm (.i c)),
 go (zm (.i f)),
 go (zcm rfl rfl rfl),
 go (zm (.b (decide (f<c)))),
 gt c8 (zm (.fn g j)),
 gt c8 (zm (.d (.lit a))),
 gt c8 (zm (.i c)),
 gt c8 (zia 0 rfl rfl rfl bSr.of (fM bP t)),
 gt c8 λS hS=>aPn (aC rfl) (bN hS rfl) (l:=0) rfl (xZ bP t) bMw (es:=(bP x9)) rfl rfl,
 gt c8 (zm (.d (.lit a))),
 gt c8 (zm (.i c)),
 gt c8 (zar rfl rfl rfl),
 gt c8 (zia 0 rfl rfl rfl bSr.of (fM bP v)),
 gt c8 λS hS=>aPn (aC rfl) (bN hS rfl) (l:=0) rfl (xZ bP v) bMw (es:=(bP u)) rfl rfl,
 gt c8 λS hS=>pB (aC rfl) (.clo _ _ _ _ q (aOz hS rfl)) (aEg (ev2 (bN hS rfl) (ev2 (bN hS rfl) evn))) rfl (BVs.refl _ _) (s _ _ _ x) rfl,
 gt c8 (zcm rfl rfl rfl),
 go (zpt (.b (decide (p<0))) c8),trivial⟩
    · exact kL (bG rfl (bL (ae rfl)))
   ·obtain rfl:=sIn h7;refine⟨[(18,0,.i c),(19,1,.i f),(20,2,.b (decide (f<c))),(21,3,.b (decide (f<c))),(22,4,.tup []),(23,5,.tup []),(24,6,.tup []),(25,7,.tup []),(26,8,.tup []),(27,9,.tup []),(28,10,.tup []),(29,11,.tup []),(30,12,.tup []),(31,13,.tup []),(32,14,.tup []),(33,15,.tup []),(34,16,.b false)],?_,?_⟩
    · exact dk [0,0,102,3,4,4,4,40607,408,4,4,411,41012,413,4050914,415,416] ⟨go (zm (.i c)),
 go (zm (.i f)),
 go (zcm rfl rfl rfl),
 go (zm (.b (decide (f<c)))),
 gp c8,
 gp c8,
 gp c8,
 gp c8,
 gp c8,
 gp c8,
 gp c8,
 gp c8,
 gp c8,
 gp c8,
 gp c8,
 gp c8,
 go (zpf (.b false) c8),trivial⟩
    · exact kL (bG rfl (bL (ae rfl)))
  ·refine aZ ?_;refine tih h (λy h=>?_) (λy h=>?_)
   ·refine au 3 ?_;cases h
   ·refine eU ?_;refine .inl ⟨rfl,?_⟩;simp only[nP] at h;simp only[nO] at h;refine au 5 ?_;exact⟨(w64 (n+1)),h,bE [0] rfl rfl (bG rfl (bL (ae rfl)))⟩
 ·refine eU ?_;refine .inl ⟨rfl,?_⟩;simp only[nN] at h;obtain rfl:=sIn h;exact⟨_,(Z8 a e),[],_,.none,.refl _,.same _,rfl,rfl⟩

theorem aBo(c:List aT)(g:Int)(f:aT->aT->Option Int){r:(List aT)}{a:Value}(b:Nat)(e:List AV)(j:∀args w,(callFunc b args).run Tryz.prog w=.ok (.enter b args) w)(l:∀(x0:aT) (x1:aT) r,f x0 x1=some r->Fn Tryz.prog b ([.agg (bP x0),.agg (bP x1)]++e) (.i r))(h:nS c g f=some r):aX Tryz.prog 252 [.d (.lit a),.i g,.fn b e] (Z8 a c) (λr' o'=>r'=.tup []/\o'=[.arr a 130 4 (r.map bP)]):=by
 unfold nS at h;refine wB func252 rfl (rs:=[]) results252 ntmps252 (f5 rfl) ?_;refine au 12 ?_;refine fC (S:=Int×Int) [0,1,2,6] (λs1=>[(7,.i s1.1),(8,.i s1.2)]) (λs1=>(Z8 a c)) (λk s1=>mA g f 20 c k s1.1 s1.2) (λ_=>rfl) (0,20) h (bE [0] rfl rfl (bG rfl (bG rfl (bL (ae rfl))))) ?_;rintro k2 ⟨n,o⟩ h;simp only[mA] at h;refine au 7 ?_;refine tih h (λc3 h=>?_) (λc3 h=>?_)
 ·refine au 3 ?_;cases h
 ·refine eU ?_;refine .inl ⟨rfl,?_⟩;simp only[rH] at h;refine au 5 ?_;refine tm (.fn b e) ?_;obtain⟨r4,h5,h⟩:=bns h;refine cC rfl (uG (passed:=(Z8 a c)) (aC rfl) rfl (.func _ _ call277) rfl rfl (wM c n g f b e j l h5)) ?_;rintro _ ⟨_,_,⟨rfl,rfl⟩,rfl⟩;refine aZ (aDh ?_);refine fC (S:=Int) [0,1,2] (λs6=>[(6,.i s6)]) (λs6=>[.arr a 130 4 (r4.map bP)]) (λk s6=>mB g f r4 k s6) (λ_=>rfl) (20) h (bE [0] rfl rfl (bG rfl (bL (ae rfl)))) ?_;rintro k7 m h;simp only[mB] at h;refine au 7 ?_;refine tih h (λc8 h=>?_) (λc8 h=>?_)
  ·refine au 3 ?_;cases h
  ·refine eU ?_;refine .inl ⟨rfl,?_⟩;simp only[rI] at h;obtain rfl:=sIn h;exact⟨_,[.arr a 130 4 (r4.map bP)],[],_,.none,.refl _,.same _,rfl,rfl⟩

theorem aAr(e:List aT)(c:aT->aT->Option Int){r:(List aT)}{x_0_v:Value}(a:Nat)(b:List AV)(f:∀args w,(callFunc a args).run Tryz.prog w=.ok (.enter a args) w)(g:∀(x0:aT) (x1:aT) r,c x0 x1=some r->Fn Tryz.prog a ([.agg (bP x0),.agg (bP x1)]++b) (.i r))(h:nC e c=some r):aX Tryz.prog 211 [.d (Z3 x_0_v),.fn a b] (Z8 x_0_v e) (λr' o'=>r'=.tup []/\o'=[.arr x_0_v 130 4 (r.map bP)]):=by
 unfold nC at h;refine wB func211 rfl (rs:=[]) results211 ntmps211 (f5 rfl) ?_;refine au 3 ?_;refine to (bSj (m:=0) (aC rfl) rfl rfl bSr.of) ?_;refine tm (.fn a b) ?_;obtain⟨r1,h2,h⟩:=bns h;refine cC rfl (uG (passed:=(Z8 x_0_v e)) (aC rfl) rfl (.func _ _ call252) rfl rfl (aBo e (e.length:Int) c a b f g h2)) ?_;rintro _ ⟨_,_,⟨rfl,rfl⟩,rfl⟩;refine aZ ?_;obtain rfl:=sIn h;exact⟨_,[.arr x_0_v 130 4 (r1.map bP)],[],_,.none,.refl _,.same _,rfl,rfl⟩

instance cHk(j:aT)(k:aT):KC Tryz.prog (aJo j k) 212 [.agg (bP j),.agg (bP k)] (λr:Int=>(.i r)):=⟨call212,λr h=>fnw xT {} func212 results212 ntmps212⟩

theorem aHv(b:List aT){r:(List aT)}{s_0_v:Value}(h:zD b=some r):aX Tryz.prog 213 [.d (Z3 s_0_v)] (Z8 s_0_v b) (λr' o'=>∃w0:Value,r'=.d (.lit w0)/\o'=[.arr w0 130 4 (r.map bP)]):=by
 refine fng xT {ow:=[2]} false [(0,0,s_0_v)] [.d (.hv 0 100000 0)] [(100000,.arr 130 4 (b.map bP))] [.tmp 2] func213 results213 ntmps213 ?_
 repeat' ((conv=>whnf);first|(refine S2 ?_ ?_<;>intro _ _ h)|(refine S1 ?_;intro _ _ h)|(refine xl1 [0] [100000] (F:=pW _) (λ(a:Int)=>([(3,.i a)],[])) h eB ?_;intro k a h)|exact S0)

theorem bJq(c:List aT){r:(List aT)×Bool}(h:aHq c=some r):Fn Tryz.prog 158 [.d (.sl 4 (c.map bP))] (.tup [.d (.sl 4 (r.1.map bP)),.b r.2]):=by
 unfold aHq at h;refine fnx xT {} [.tmp 2,.tmp 3] func158 results158 ntmps158 ?_;refine cow call210 (λ_=>aJw _) h λr1 h=>?_;refine cg (α:=(List aT)) [(7,_)] [] (λr6=>.tup []) (λr6=>[some (.arr 130 4 (r6.map bP))]) (λ_=>[]) call211 (λ_ h q=>⟨_,aAr (x_0_v:=q.ss 7) r1 (λy4 y5=>aJo y4 y5) 212 [] call212 (λ_ _ _ h=>KC.o h) h,λ_ _ ⟨e1,e2⟩=>⟨_,rfl,[],e1,e2.trans (by kernel_rfl)⟩⟩) h λr6 h=>?_;refine xlp [4] [7] (λ(e:Int)=>([(5,.i e)],[])) (λk (e:Int)=>zZ r6 k e) (1) h (lev []) ?_;rintro k9 e h;simp only[zZ] at h;refine ol ?_;refine br h (λh=>?_) λh=>?_
 ·refine⟨by kernel_rfl,?_⟩;refine oiy h λu j h=>?_;refine⟨rfl,_,xZ bP j,?_⟩;refine oiy h λv l h=>?_;refine⟨rfl,_,xZ bP l,?_⟩;refine jo h (λx h=>?_) λw h=>?_
  ·refine br h (λh=>?_) λh=>?_
   ·refine oiy h λm n h=>?_;refine⟨rfl,_,xZ bP n,?_⟩;refine oiy h λp t h=>?_;refine⟨rfl,_,xZ bP t,?_⟩;refine bRm (a:=m) (b:=p) Tryz.eqGuardType130 bNm ?_;exact⟨by kernel_rfl,jt h⟩
   ·exact⟨by kernel_rfl,jt h⟩
  ·refine⟨by kernel_rfl,?_⟩;refine br h (λh=>?_) λh=>?_
   ·cases h
   ·exact⟨(w64 (e+1)),h,lev []⟩
 ·simp only[aQh] at h;refine cg [(7,_)] [41] (λ_=>.d (.hv 0 41 0)) (λ_=>[none]) (λg=>[(41,.arr 130 4 (g.map bP))]) call213 (λ_ h q=>⟨_,aHv (s_0_v:=q.ss 7) r6 h,λ_ _ ⟨w0,e1,e2⟩=>⟨_,rfl,[.s w0],e1,e2.trans (by kernel_rfl)⟩⟩) h λg h=>?_;cases h;exact⟨rfl,_,_,rfl,rfl,rfl,rfl,rfl⟩
instance cLg(c:List aT):KC Tryz.prog (aHq c) 158 [.d (.sl 4 (c.map bP))] (λr:(List aT)×Bool=>(.tup [.d (.sl 4 (r.1.map bP)),.b r.2])):=⟨call158,λ_ h=>bJq _ h⟩

instance cBx(f:dX):KC Tryz.prog (yW f) 76 [.agg (oK f)] (λr:Bool=>(.b r)):=⟨call76,λr h=>by
 refine fnx xT {} _ func76 results76 ntmps76 ?_
 repeat' ((conv=>whnf);first|(refine S2 ?_ ?_<;>intro _ _ h)|(refine S1 ?_;intro _ _ h)|(refine xl1 [1,3,12,13] [1] (F:=tI _ _ _ _) (λ(a:Int)=>([(14,.i a)],[])) h eB ?_;intro k a h)|exact S0)⟩

instance cJc(f:dX):KC Tryz.prog (aFg f) 40 [.agg (oK f)] (λr:Int=>(.i r)):=⟨call40,λr h=>by
 refine fnx xT {} _ func40 results40 ntmps40 ?_
 repeat' ((conv=>whnf);first|(refine S2 ?_ ?_<;>intro _ _ h)|(refine S1 ?_;intro _ _ h)|(refine cl call57 (λ_=>aKh _ _) h ?_;intro _ h)|exact S0)⟩

instance cLf(f:dX):KC Tryz.prog (aHp f) 17 [.agg (oK f)] (λr:Int×Int=>(.tup [.i r.1,.i r.2])):=⟨call17,λr h=>by
 refine fnx xT {} _ func17 results17 ntmps17 ?_
 repeat' ((conv=>whnf);first|(refine S2 ?_ ?_<;>intro _ _ h)|(refine S1 ?_;intro _ _ h)|(refine xl2 [1,23] [1] (F:=aGq _ _) (λ(a:Int) (b:Int)=>([(5,.i a),(24,.i b)],[])) h eB ?_;intro k a b h)|(refine xl2 [1,44,45] [1] (F:=aGr _ _ _) (λ(a:Int) (b:Int)=>([(5,.i a),(46,.i b)],[])) h eB ?_;intro k a b h)|exact S0)⟩

instance bQi:KC Tryz.prog (sG) 18 [] (λr:dX=>(.agg (oK r))):=⟨call18,λr h=>fnw xT {} func18 results18 ntmps18⟩

theorem aEx(e:List gE)(f:gE->Option Bool){r:Int}(a:Nat)(c:List AV)(j:∀args w,(callFunc a args).run Tryz.prog w=.ok (.enter a args) w)(l:∀(x0:gE) r,f x0=some r->Fn Tryz.prog a ([.agg (mN x0)]++c) (.b r))(h:pX e f=some r):Fn Tryz.prog 214 [.d (.sl 4 (e.map mN)),.fn a c] (.i r):=by
 unfold pX at h;refine oT [.tmp 4] func214 results214 ntmps214 ?_;refine au 12 ?_;refine fC (S:=Int) [0,1,7] (λs1=>[(8,.i s1)]) (λs1=>[]) (λk s1=>kF e f (e.length:Int) k s1) (λ_=>rfl) (0) h (bE [] rfl rfl (bG rfl (bL (ae rfl)))) ?_;rintro k2 g h;simp only[kF] at h;refine au 5 ?_;refine tih h (λc3 h=>?_) (λc3 h=>?_)
 ·refine au 10 ?_;refine tm (.fn a c) (au 2 ?_);obtain⟨x4,h5,h⟩:=bns h;refine to (six rfl rfl cEz.of (fM mN h5)) (to (aDd (mN x4) rfl cFd) ?_);obtain⟨r6,h7,h⟩:=bns h;refine to (pB (aC rfl) (.clo _ _ _ _ j rfl) (aEg rfl) rfl (BVs.refl _ _) (l _ _ h7) rfl) ?_;refine aZ ?_;refine tih h (λc8 h=>?_) (λc8 h=>?_)
  ·refine au 5 ?_;obtain rfl:=sIn h;exact rt
  ·refine nD ?_;refine au 4 ?_;exact⟨(w64 (g+1)),h,bE [] rfl rfl (bG rfl (bL (ae rfl)))⟩
 ·refine eU ?_;refine .inl ⟨rfl,?_⟩;simp only[tE] at h;refine au 4 ?_;obtain rfl:=sIn h;exact rt

theorem aBn(a:List gE)(m:gE->Option Bool){r:Bool}(e:Nat)(g:List AV)(k:∀args w,(callFunc e args).run Tryz.prog w=.ok (.enter e args) w)(l:∀(x0:gE) r,m x0=some r->Fn Tryz.prog e ([.agg (mN x0)]++g) (.b r))(h:nQ a m=some r):Fn Tryz.prog 159 [.d (.sl 4 (a.map mN)),.fn e g] (.b r):=by
 unfold nQ at h;refine oT [.tmp 4] func159 results159 ntmps159 ?_;refine au 7 ?_;refine tm (.fn e g) ?_;obtain⟨r1,h2,h⟩:=bns h;refine to (scr call214 (aEx _ _ e g k l h2)) (au 3 ?_);obtain rfl:=sIn h;exact rt

instance cGq(n:Int)(f:Int)(c:Int):KC Tryz.prog (oU n f c) 162 [.i n,.i f,.i c] (λr:Bool=>(.b r)):=⟨call162,λr h=>fnw xT {} func162 results162 ntmps162⟩

instance cGo(a:bO)(f:Int)(c:Int):KC Tryz.prog (tZ a f c) 163 [.agg (bS a),.i f,.i c] (λr:Bool=>(.b r)):=⟨call163,λr h=>fnw xT {} func163 results163 ntmps163⟩

instance cEe(a:gE):KC Tryz.prog (aQe a) 161 [.agg (mN a)] (λr:Bool=>(.b r)):=⟨call161,λr h=>fnw xT {} func161 results161 ntmps161⟩

instance cEd(a:gE):KC Tryz.prog (aQd a) 160 [.agg (mN a)] (λr:Bool=>(.b r)):=⟨call160,λr h=>fnw xT {} func160 results160 ntmps160⟩

instance cIv(j:dS):KC Tryz.prog (aVa j) 77 [.agg (eS j)] (λr:Int=>(.i r)):=⟨call77,λr h=>by
 refine fnx xT {} _ func77 results77 ntmps77 ?_
 repeat' ((conv=>whnf);first|(refine S2 ?_ ?_<;>intro _ _ h)|(refine S1 ?_;intro _ _ h)|(refine cl call159 (λ_=>aBn _ _ 160 [] call160 (λ_ _ h=>KC.o h)) h ?_;intro _ h)|exact S0)⟩

instance cBf(p:mO):KC Tryz.prog (aMo p) 78 [.agg (uL p)] (λr:Int=>(.i r)):=⟨call78,λr h=>fnw xT {} func78 results78 ntmps78⟩

instance cIw(j:dS)(q:mO):KC Tryz.prog (aVb j q) 41 [.agg (eS j),.agg (uL q)] (λr:Int=>(.i r)):=⟨call41,λr h=>fnw xT {} func41 results41 ntmps41⟩

theorem bMc(c:dS){r:Unit}(_:aRv c=some r):Fn Tryz.prog 164 [.agg (eS c)] (.fn 215 [.cp (bx3 c)]):=by
 refine hZ func164 rfl (rs:=[.tmp 2]) results164 ntmps164 (f5 rfl) ?_;refine bH (aV ?_);refine cC rfl (mY (v:=.agg (eS c)) (aC rfl) rfl rfl rfl) ?_;rintro _ ⟨b1,rfl⟩;refine au 4 ?_;refine to (bXg (aC rfl) rfl rfl) ?_;refine ta (.fn 215 [.bp b1 0 0]) (aZ ?_);exact eK ⟨rfl,_,[.box b1 0 (eS c)],.one (.tmp 2 (v:=.fn 215 [.bp b1 0 0]) rfl),.refl _,(bPx (.cons (aTi 0 rfl rfl (dvc (.same _) (dvc (.same _) (dvc (.same _) (dvc (.same _) (dvc (.same _) (dvc (.same _) (dvc (.same _) dvn)))))))) .nil))⟩
instance bMd(c:dS):KC Tryz.prog (aRv c) 164 [.agg (eS c)] (λr:Unit=>(.fn 215 [.cp (bx3 c)])):=⟨call164,λ_ h=>bMc _ h⟩

instance bFn(c:dS)(e:Int)(f:Int):KC Tryz.prog (aVe c e f) 216 [.agg (eS c),.i e,.i f] (λr:(List Int)=>(.d (.sl 1 (r.map aP)))):=⟨call216,λr h=>by
 refine fnx xT {ow:=[7]} _ func216 results216 ntmps216 ?_
 repeat' ((conv=>whnf);first|(refine S2 ?_ ?_<;>intro _ _ h)|(refine S1 ?_;intro _ _ h)|(refine xl2 [1,2,11,12] [] (F:=yT _ _ _ _) (λ(a:Int) (b:(List Int))=>([(7,.d (.hv 0 7 0)),(13,.i a)],[(7,.arr 3 1 (b.map aP))])) h eB ?_;intro k a b h)|exact S0)⟩

theorem bFm{S:Type}(J:S->MO->Prop)(ly:Nat)(a:S->bZ->(List Int)->Option S)(hy:∀(s:S) (m:MO) (x0:bZ) (x1:List Int) (s':S),J s m->a s x0 x1=some s'->aLx Tryz.prog ly [.agg (dD x0),.d (.sl 1 (x1.map aP))] m (J s'))(b:dS)(sy:S)(m0:MO)(hj:J sy m0){r:S}(h:aLl a b sy=some r):aX Tryz.prog 215 [.d (.lit (yv ly)),.cp (eS b)] [m0] (λ_ o'=>∃m',J r m'/\o'=[m']):=by
 unfold aLl at h;refine wB func215 rfl (rs:=[]) results215 ntmps215 (f5 rfl) ?_;refine bH (aV (to (sfc [.j b.Size] rfl bIc) (au 5 ?_)));refine fC (S:=Int×({x:S×MO // J x.1 x.2})) [0,1,7] (λs1=>[(8,.i s1.1)]) (λs1=>[s1.2.1.2]) (λk s1=>tY a b (w64 (b.Size+1)) k s1.1 s1.2.1.1) (λ_=>rfl) (0,⟨(sy,m0),hj⟩) h (bE [0] rfl rfl (bG rfl (bL (ae rfl)))) ?_;rintro k3 ⟨c,y2⟩ h;simp only[tY] at h;refine au 5 ?_;refine tih h (λc4 h=>?_) (λc4 h=>?_)
 ·refine au 10 ?_;refine to (sfc [.j b.Size] rfl bIc) (au 4 ?_);refine aIj ?_;refine fC (S:=Int×({x:S×MO // J x.1 x.2})) [0,1,3,7,8,13] (λs5=>[(14,.i s5.1)]) (λs5=>[s5.2.1.2]) (λk s5=>yS a (tY a b (w64 (b.Size+1)) k3) b c (w64 (b.Size+1)) c (w64 (b.Size+1)) k s5.1 s5.2.1.1) (λ_=>rfl) (0,⟨(y2.1.1,y2.1.2),y2.2⟩) h (bE [0] rfl rfl (bG rfl (bL (ae rfl)))) ?_;rintro k7 ⟨e,y6⟩ h;simp only[yS] at h;refine au 5 ?_;refine tih h (λc8 h=>?_) (λc8 h=>?_)
  ·refine au 13 ?_;refine to (jI (aC rfl) cIa (zs:=[.j 0,.j 0]) rfl rfl rfl rfl (es:=[.j c,.j e]) rfl) ?_;refine to (aDd (eS b) rfl bTw) (au 2 ?_);obtain⟨r9,j,h⟩:=bns h;refine to (aTz (aC rfl) (.func _ _ call216) rfl rfl ((bFn _ _ _).h _ j)) ?_;obtain⟨l,n,h⟩:=bns h;refine bKu rfl (bOl (aC rfl) rfl rfl rfl rfl (hy _ _ _ _ _ y6.2 n)) ?_;rintro _ ⟨o,g,rfl⟩;refine to (sn rfl) (aZ ?_);refine aAe rfl (λf=>?_) (λf=>?_)
   ·exact absurd f (by decide)
   ·refine nD ?_;refine au 4 ?_;exact⟨(w64 (e+1),⟨(l,o),g⟩),h,bE [0] rfl rfl (bG rfl (bL (ae rfl)))⟩
  ·refine eU ?_;refine .inl ⟨rfl,?_⟩;simp only[aMn] at h;simp only[aMm] at h;refine au 4 ?_;exact⟨(w64 (c+1),⟨(y6.1.1,y6.1.2),y6.2⟩),h,bE [0] rfl rfl (bG rfl (bL (ae rfl)))⟩
 ·refine eU ?_;refine .inl ⟨rfl,?_⟩;simp only[aMl] at h;obtain rfl:=sIn h;exact⟨_,[y2.1.2],[],_,.none,.refl _,.same _,y2.1.2,y2.2,rfl⟩

theorem bCg(a:dS){r:(List bZ)}(h:aCh a=some r):Fn Tryz.prog 79 [.agg (eS a)] (.d (.sl 2 (r.map dD))):=by
 unfold aCh at h;refine oT [.tmp 2] func79 results79 ntmps79 ?_;refine bH (aV ?_);refine cC rfl (mY (v:=.agg (eS a)) (aC rfl) rfl rfl rfl) ?_;rintro _ ⟨b1,rfl⟩;refine to (wV 2 (aC rfl)) ?_;refine au 3 ?_;refine cC rfl (dW (zs:=Z23) (aC rfl) zeroValue183 rfl rfl) ?_;rintro _ ⟨b2,rfl⟩;refine kY (qG 187 2) ?_;refine au 4 ?_;refine to (sla 0 (eS a) rfl rfl bTw) ?_;obtain⟨x3,h4,h⟩:=bns h;refine to (aTz (aC rfl) (.func _ _ call164) rfl rfl ((bMd _).h _ h4)) ?_;refine aZ (aDh ?_);obtain⟨s5,h6,h⟩:=bns h;refine nJ ?_ bIz;refine aXj (cl:=true) (S:=(List bZ)×Value) (S0:=(List bZ)) (f:=215) (ps:=[8,9]) (λz9=>z9.1) (λz9=>[.box b1 0 (eS a),.box b2 0 [.lit z9.2],.arr z9.2 187 2 (z9.1.map dD)]) (bTc (λb:bZ=>.agg (dD b)) (λc:List Int=>.d (.sl 1 (c.map aP))) _) (([]:List bZ),(.slice none 0 0)) ([]:List bZ) s5 (bE [0,1,2] rfl rfl (le_refl _)) rfl call215 rfl (by decide) rfl rfl (λl J hy m0 h0=>bFm (S:=(List bZ)) J l _ (λ_ _ _ _ _ hJ hq=>hy _ _ _ _ hJ ⟨_,_,rfl,hq⟩) a _ m0 h0 h6) ?_ ?_
 ·rintro⟨e7,w8⟩ _ _ ⟨b,c,rfl,h⟩;refine⟨rfl,?_⟩;refine bH (aV ?_);refine cC rfl (dW (zs:=[.j 0,.j 0]) (aC rfl) zeroValue187 rfl rfl) ?_;rintro _ ⟨o,rfl⟩;refine to (sst 3 rfl rfl sizeOf187 (dD b)) (au 13 ?_);refine tih h (λg h=>?_) (λg h=>?_)
  ·refine au 2 ?_;refine to (sla 3 (dD b) rfl rfl bMx) (to (yA (aC rfl) bAr rfl rfl (rows:=([b]).map dD) rfl (gB (f:=dD) λ_=>rfl) rfl (by decide)) ?_);obtain⟨j,m,h⟩:=bns h;refine cC rfl (uQ (i:=2) (aC rfl) bAr rfl rfl rfl (λ_=>rfl) m rfl) ?_;rintro _ ⟨e,rfl⟩;refine to (sst 1 rfl rfl sizeOf183 [.lit e]) ?_;refine yY ?_;obtain rfl:=sIn h;exact⟨(j,e),rfl,bE [0,1,2] rfl rfl aRu⟩
  ·refine nD ?_;obtain rfl:=sIn h;exact⟨(e7,w8),rfl,bE [0,1,2] rfl rfl aRu⟩
 ·rintro⟨e7,w8⟩ n;subst n;refine au 5 ?_;obtain rfl:=sIn h;refine jZ (aAh (aIa (k:=2) (v:=.d (.sl 2 (e7.map dD))) (.d (vT 2 rfl (gB (f:=dD) λ_=>rfl))) (bNc))) ?_;exact rt
instance cGp(a:dS):KC Tryz.prog (aCh a) 79 [.agg (eS a)] (λr:(List bZ)=>(.d (.sl 2 (r.map dD)))):=⟨call79,λ_ h=>bCg _ h⟩

theorem aDg(e:List bZ)(f:bZ->Option Bool){r:Int}(a:Nat)(c:List AV)(j:∀args w,(callFunc a args).run Tryz.prog w=.ok (.enter a args) w)(l:∀(x0:bZ) r,f x0=some r->Fn Tryz.prog a ([.agg (dD x0)]++c) (.b r))(h:oJ e f=some r):Fn Tryz.prog 165 [.d (.sl 2 (e.map dD)),.fn a c] (.i r):=by
 unfold oJ at h;refine oT [.tmp 4] func165 results165 ntmps165 ?_;refine au 12 ?_;refine fC (S:=Int) [0,1,7] (λs1=>[(8,.i s1)]) (λs1=>[]) (λk s1=>jF e f (e.length:Int) k s1) (λ_=>rfl) (0) h (bE [] rfl rfl (bG rfl (bL (ae rfl)))) ?_;rintro k2 g h;simp only[jF] at h;refine au 5 ?_;refine tih h (λc3 h=>?_) (λc3 h=>?_)
 ·refine au 10 ?_;refine tm (.fn a c) (au 2 ?_);obtain⟨x4,h5,h⟩:=bns h;refine to (six rfl rfl bAr.of (fM dD h5)) (to (aDd (dD x4) rfl bMx) ?_);obtain⟨r6,h7,h⟩:=bns h;refine to (pB (aC rfl) (.clo _ _ _ _ j rfl) (aEg rfl) rfl (BVs.refl _ _) (l _ _ h7) rfl) ?_;refine aZ ?_;refine tih h (λc8 h=>?_) (λc8 h=>?_)
  ·refine au 5 ?_;obtain rfl:=sIn h;exact rt
  ·refine nD ?_;refine au 4 ?_;exact⟨(w64 (g+1)),h,bE [] rfl rfl (bG rfl (bL (ae rfl)))⟩
 ·refine eU ?_;refine .inl ⟨rfl,?_⟩;simp only[rS] at h;refine au 4 ?_;obtain rfl:=sIn h;exact rt

theorem qR(g:List bZ)(i:bZ->Option Bool){r:Bool}(a:Nat)(c:List AV)(e:∀args w,(callFunc a args).run Tryz.prog w=.ok (.enter a args) w)(f:∀(x0:bZ) r,i x0=some r->Fn Tryz.prog a ([.agg (dD x0)]++c) (.b r))(h:jE g i=some r):Fn Tryz.prog 80 [.d (.sl 2 (g.map dD)),.fn a c] (.b r):=by
 unfold jE at h;refine oT [.tmp 4] func80 results80 ntmps80 ?_;refine au 7 ?_;refine tm (.fn a c) ?_;obtain⟨r1,h2,h⟩:=bns h;refine to (scr call165 (aDg _ _ a c e f h2)) (au 3 ?_);obtain rfl:=sIn h;exact rt

instance cIy(j:dS)(k:bZ):KC Tryz.prog (aVd j k) 83 [.agg (eS j),.agg (dD k)] (λr:yJ=>(.agg (aNy r))):=⟨call83,λr h=>fnw xT {} func83 results83 ntmps83⟩

theorem bCf(m:Int)(f:Int)(c:Int){r:Int}(h:xL m f c=some r):Fn Tryz.prog 166 [.i m,.i f,.i c] (.i r):=by
 unfold xL at h;refine oT [.tmp 6] func166 results166 ntmps166 ?_;refine au 12 ?_;refine to (cLp [w64 (f-m),w64 (m-c)] (aC rfl) rfl rfl) ?_;refine au 2 ?_;obtain rfl:=sIn h;exact rt
instance cGl(m:Int)(f:Int)(c:Int):KC Tryz.prog (xL m f c) 166 [.i m,.i f,.i c] (λr:Int=>(.i r)):=⟨call166,λ_ h=>bCf _ _ _ h⟩

instance cEf(w:yJ)(e:mO):KC Tryz.prog (aGo w e) 82 [.agg (aNy w),.agg (uL e)] (λr:Bool=>(.b r)):=⟨call82,λr h=>fnw xT {} func82 results82 ntmps82⟩

instance cGm(j:bZ)(g:dS)(t:mO):KC Tryz.prog (aRw j g t) 81 [.agg (dD j),.cp (eS g),.cp (uL t)] (λr:Bool=>(.b r)):=⟨call81,λr h=>fnw xT {} func81 results81 ntmps81⟩

instance cIx(n:dS)(x:bZ):KC Tryz.prog (aVc n x) 85 [.agg (eS n),.agg (dD x)] (λr:yJ=>(.agg (aNy r))):=⟨call85,λr h=>fnw xT {} func85 results85 ntmps85⟩

instance cGn(j:bZ)(g:dS)(t:mO):KC Tryz.prog (aRx j g t) 84 [.agg (dD j),.cp (eS g),.cp (uL t)] (λr:Bool=>(.b r)):=⟨call84,λr h=>fnw xT {} func84 results84 ntmps84⟩

instance cKn(n:dS)(e:mO):KC Tryz.prog (aZg n e) 42 [.agg (eS n),.agg (uL e)] (λr:Int=>(.i r)):=⟨call42,λr h=>by
 refine fnx xT {} _ func42 results42 ntmps42 ?_
 repeat' ((conv=>whnf);first|(refine S2 ?_ ?_<;>intro _ _ h)|(refine S1 ?_;intro _ _ h)|(refine cl call80 (λ_=>qR _ _ 81 [.cp (bx3 n),.cp [.j e.Left,.j e.Right,.j e.Bottom,.j e.Top]] call81 (λ_ _ h=>KC.o h)) h ?_;intro _ h)|(refine cl call80 (λ_=>qR _ _ 84 [.cp (bx3 n),.cp [.j e.Left,.j e.Right,.j e.Bottom,.j e.Top]] call84 (λ_ _ h=>KC.o h)) h ?_;intro _ h)|exact S0)⟩

instance cKm(n:dS)(e:mO):KC Tryz.prog (aOi n e) 19 [.agg (eS n),.agg (uL e)] (λr:Int×Int=>(.tup [.i r.1,.i r.2])):=⟨call19,λr h=>fnw xT {} func19 results19 ntmps19⟩

instance bQg:KC Tryz.prog (sF) 20 [] (λr:dS×mO=>(.tup [.agg (eS r.1),.agg (uL r.2)])):=⟨call20,λr h=>fnw xT {} func20 results20 ntmps20⟩

instance bZk(y:dK)(p:List Str):KC Tryz.prog (yN y p) 4 [.agg (fO y),.d (.sl 1 (p.map wG))] (λr:Bool=>(.b r)):=⟨call4,λr h=>fnw xT {} func4 results4 ntmps4⟩

instance cIt(m:Int)(f:Int)(c:Int):KC Tryz.prog (zO m f c) 144 [.i m,.i f,.i c] (λr:Bool=>(.b r)):=⟨call144,λr h=>fnw xT {} func144 results144 ntmps144⟩

instance cDm(q:Int)(g:dL):KC Tryz.prog (nK q g) 201 [.i q,.cp (lQ g)] (λr:Bool=>(.b r)):=⟨call201,λr h=>by
 refine fnx xT {} _ func201 results201 ntmps201 ?_
 repeat' ((conv=>whnf);first|(refine S2 ?_ ?_<;>intro _ _ h)|(refine S1 ?_;intro _ _ h)|refine bCp (a:=g.Pair) (b:=Z13) Tryz.eqGuardType119 aId ?_|exact S0)⟩

instance cDn(u:Int)(g:dL):KC Tryz.prog (vR u g) 202 [.i u,.cp (lQ g)] (λr:Bool=>(.b r)):=⟨call202,λr h=>fnw xT {} func202 results202 ntmps202⟩

instance cIs(z:dL):KC Tryz.prog (aUv z) 145 [.agg (lQ z)] (λr:Bool=>(.b r)):=⟨call145,λr h=>fnw xT {} func145 results145 ntmps145⟩

instance bGz(A:yH):KC Tryz.prog (bQa A) 71 [.agg (aNx A)] (λr:Int=>(.i r)):=⟨call71,λr h=>by
 refine fnx xT {} _ func71 results71 ntmps71 ?_
 repeat' ((conv=>whnf);first|(refine S2 ?_ ?_<;>intro _ _ h)|(refine S1 ?_;intro _ _ h)|(refine xl2 [23,24] [] (F:=vQ _ _) (λ(a:Int) (b:Int)=>([(3,.i a),(25,.i b)],[])) h eB ?_;intro k a b h)|exact S0)⟩

instance cMs(j:aS)(l:Int):KC Tryz.prog (aRf j l) 238 [.agg (cN j),.i l] (λr:aS=>(.agg (cN r))):=⟨call238,λr h=>fnw xT {} func238 results238 ntmps238⟩

instance cJq(j:aS)(l:Int)(s:Int)(v:Int):KC Tryz.prog (aNr j l s v) 239 [.agg (cN j),.i l,.i s,.i v] (λr:Bool=>(.b r)):=⟨call239,λr h=>fnw xT {} func239 results239 ntmps239⟩

end Go.Am
