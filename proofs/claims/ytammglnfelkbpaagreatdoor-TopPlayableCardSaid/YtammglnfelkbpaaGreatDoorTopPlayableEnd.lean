/- THE LAW TopPlayable: whatever the input, the call returns true, and each argument reads behind the call as it read before. No condition. -/
import Derived.Test.YtammglnfelkbpaaGreatDoorAmClose
import Derived.Test.YtammglnfelkbpaaGreatDoorPySim
import Derived.Test.YtammglnfelkbpaaGreatDoorPbLaw
import Derived.Test.YtammglnfelkbpaaGreatDoorRfEnd0
import Derived.Test.YtammglnfelkbpaaGreatDoorCards
import Derived.Test.YtammglnfelkbpaaGreatDoorTie
namespace Go.Proofs.YtammglnfelkbpaaGreatDoor
open Go.Am Go.ChangeShapes Go.WideShapes Go.ChangeAt Go.RowKit
set_option maxRecDepth 100000
theorem own:ownKnob Tryz.prog.godebug=none:=by kernel_rfl
theorem laidOut:laidOutB Tryz.prog=true:=by kernel_rfl
theorem rd_23:Rd Tryz.prog 23 aFa aZn:=by
  intro H eh w X hX fuel cs x h;obtain⟨xs,n,rfl,rfl,hl,hxl,hf⟩:=DataW.trod_struct Tryz.underlying23 h;have hl:cs.length=5:=by rw[hl];kernel_rfl
  have h0:=hf 0 _ rfl;rw[List.getElem?_eq_getElem (by rw[hxl];decide)] at h0;obtain⟨a0,o0,d0⟩:=(mX Tryz.underlying3) H eh w X hX _ _ _ h0;have h1:=hf 1 _ rfl;rw[List.getElem?_eq_getElem (by rw[hxl];decide)] at h1;obtain⟨a1,o1,d1⟩:=(mX Tryz.underlying3) H eh w X hX _ _ _ h1;have h2:=hf 2 _ rfl;rw[List.getElem?_eq_getElem (by rw[hxl];decide)] at h2;obtain⟨a2,o2,d2⟩:=(mX Tryz.underlying3) H eh w X hX _ _ _ h2;have h3:=hf 3 _ rfl;rw[List.getElem?_eq_getElem (by rw[hxl];decide)] at h3;obtain⟨a3,o3,d3⟩:=(mX Tryz.underlying3) H eh w X hX _ _ _ h3;have h4:=hf 4 _ rfl;rw[List.getElem?_eq_getElem (by rw[hxl];decide)] at h4;obtain⟨a4,o4,d4⟩:=(mX Tryz.underlying3) H eh w X hX _ _ _ h4;exact⟨⟨a0,a1,a2,a3,a4⟩,⟨o0,o1,o2,o3,o4⟩,dU (o:=0) (k:=1) d0 (dU (o:=1) (k:=1) d1 (dU (o:=2) (k:=1) d2 (dU (o:=3) (k:=1) d3 (dU (o:=4) (k:=1) d4 (aIc hl)))))⟩
theorem rd_24:Rd Tryz.prog 24 bBx (okL okI):=aPh Tryz.underlying24 (by kernel_rfl) (by decide) (mX Tryz.underlying3) (λ_=>rfl)
theorem rd_26:Rd Tryz.prog 26 bU bEr:=by
  intro H eh w X hX fuel cs x h;obtain⟨xs,n,rfl,rfl,hl,hxl,hf⟩:=DataW.trod_struct Tryz.underlying26 h;have hl:cs.length=2:=by rw[hl];kernel_rfl
  have h0:=hf 0 _ rfl;rw[List.getElem?_eq_getElem (by rw[hxl];decide)] at h0;obtain⟨a0,o0,d0⟩:=(mX Tryz.underlying3) H eh w X hX _ _ _ h0;have h1:=hf 1 _ rfl;rw[List.getElem?_eq_getElem (by rw[hxl];decide)] at h1;obtain⟨a1,o1,d1⟩:=rd_24 H eh w X hX _ _ _ h1;exact⟨⟨a0,a1⟩,⟨o0,o1⟩,dU (o:=0) (k:=1) d0 (dU (o:=1) (k:=1) d1 (aIc hl))⟩
theorem rd_28:Rd Tryz.prog 28 lL aVk:=by
  intro H eh w X hX fuel cs x h;obtain⟨xs,n,rfl,rfl,hl,hxl,hf⟩:=DataW.trod_struct Tryz.underlying28 h;have hl:cs.length=10:=by rw[hl];kernel_rfl
  have h0:=hf 0 _ rfl;rw[List.getElem?_eq_getElem (by rw[hxl];decide)] at h0;obtain⟨a0,o0,d0⟩:=(mX Tryz.underlying3) H eh w X hX _ _ _ h0;have h1:=hf 1 _ rfl;rw[List.getElem?_eq_getElem (by rw[hxl];decide)] at h1;obtain⟨a1,o1,d1⟩:=(mX Tryz.underlying3) H eh w X hX _ _ _ h1;have h2:=hf 2 _ rfl;rw[List.getElem?_eq_getElem (by rw[hxl];decide)] at h2;obtain⟨a2,o2,d2⟩:=(bOi Tryz.underlying4) H eh w X hX _ _ _ h2;have h3:=hf 3 _ rfl;rw[List.getElem?_eq_getElem (by rw[hxl];decide)] at h3;obtain⟨a3,o3,d3⟩:=(mX Tryz.underlying3) H eh w X hX _ _ _ h3;have h4:=hf 4 _ rfl;rw[List.getElem?_eq_getElem (by rw[hxl];decide)] at h4;obtain⟨a4,o4,d4⟩:=(mX Tryz.underlying3) H eh w X hX _ _ _ h4;have h5:=hf 5 _ rfl;rw[List.getElem?_eq_getElem (by rw[hxl];decide)] at h5;obtain⟨a5,o5,d5⟩:=(mX Tryz.underlying3) H eh w X hX _ _ _ h5;have h6:=hf 6 _ rfl;rw[List.getElem?_eq_getElem (by rw[hxl];decide)] at h6;obtain⟨a6,o6,d6⟩:=(mX Tryz.underlying3) H eh w X hX _ _ _ h6;have h7:=hf 7 _ rfl;rw[List.getElem?_eq_getElem (by rw[hxl];decide)] at h7;obtain⟨a7,o7,d7⟩:=(mX Tryz.underlying3) H eh w X hX _ _ _ h7;have h8:=hf 8 _ rfl;rw[List.getElem?_eq_getElem (by rw[hxl];decide)] at h8;obtain⟨a8,o8,d8⟩:=(mX Tryz.underlying3) H eh w X hX _ _ _ h8;have h9:=hf 9 _ rfl;rw[List.getElem?_eq_getElem (by rw[hxl];decide)] at h9;obtain⟨a9,o9,d9⟩:=(bOi Tryz.underlying4) H eh w X hX _ _ _ h9;exact⟨⟨a0,a1,a2,a3,a4,a5,a6,a7,a8,a9⟩,⟨o0,o1,o2,o3,o4,o5,o6,o7,o8,o9⟩,dU (o:=0) (k:=1) d0 (dU (o:=1) (k:=1) d1 (dU (o:=2) (k:=1) d2 (dU (o:=3) (k:=1) d3 (dU (o:=4) (k:=1) d4 (dU (o:=5) (k:=1) d5 (dU (o:=6) (k:=1) d6 (dU (o:=7) (k:=1) d7 (dU (o:=8) (k:=1) d8 (dU (o:=9) (k:=1) d9 (aIc hl))))))))))⟩
theorem rd_81:Rd Tryz.prog 81 bS aFw:=by
  intro H eh w X hX fuel cs x h;obtain⟨xs,n,rfl,rfl,hl,hxl,hf⟩:=DataW.trod_struct Tryz.underlying81 h;have hl:cs.length=2:=by rw[hl];kernel_rfl
  have h0:=hf 0 _ rfl;rw[List.getElem?_eq_getElem (by rw[hxl];decide)] at h0;obtain⟨a0,o0,d0⟩:=(mX Tryz.underlying3) H eh w X hX _ _ _ h0;have h1:=hf 1 _ rfl;rw[List.getElem?_eq_getElem (by rw[hxl];decide)] at h1;obtain⟨a1,o1,d1⟩:=(mX Tryz.underlying3) H eh w X hX _ _ _ h1;exact⟨⟨a0,a1⟩,⟨o0,o1⟩,dU (o:=0) (k:=1) d0 (dU (o:=1) (k:=1) d1 (aIc hl))⟩
theorem rd_99:Rd Tryz.prog 99 aO (okL aFw):=aPh Tryz.underlying99 (by kernel_rfl) (by decide) rd_81 (λ_=>rfl)
theorem rd_29:Rd Tryz.prog 29 aVy (okL (okL aFw)):=aPh Tryz.underlying29 (by kernel_rfl) (by decide) rd_99 (λ_=>rfl)
theorem rd_92:Rd Tryz.prog 92 fR aOw:=by
  intro H eh w X hX fuel cs x h;obtain⟨xs,n,rfl,rfl,hl,hxl,hf⟩:=DataW.trod_struct Tryz.underlying92 h;have hl:cs.length=3:=by rw[hl];kernel_rfl
  have h0:=hf 0 _ rfl;rw[List.getElem?_eq_getElem (by rw[hxl];decide)] at h0;obtain⟨a0,o0,d0⟩:=rd_81 H eh w X hX _ _ _ h0;have h1:=hf 1 _ rfl;rw[List.getElem?_eq_getElem (by rw[hxl];decide)] at h1;obtain⟨a1,o1,d1⟩:=(mX Tryz.underlying3) H eh w X hX _ _ _ h1;exact⟨⟨a0,a1⟩,⟨o0,o1⟩,dU (o:=0) (k:=2) d0 (dU (o:=2) (k:=1) d1 (aIc hl))⟩
theorem rd_30:Rd Tryz.prog 30 bBw (okL aOw):=aPh Tryz.underlying30 (by kernel_rfl) (by decide) rd_92 (λ_=>rfl)
theorem rd_32:Rd Tryz.prog 32 fO aKr:=by
  intro H eh w X hX fuel cs x h;obtain⟨xs,n,rfl,rfl,hl,hxl,hf⟩:=DataW.trod_struct Tryz.underlying32 h;have hl:cs.length=20:=by rw[hl];kernel_rfl
  have h0:=hf 0 _ rfl;rw[List.getElem?_eq_getElem (by rw[hxl];decide)] at h0;obtain⟨a0,o0,d0⟩:=rd_23 H eh w X hX _ _ _ h0;have h1:=hf 1 _ rfl;rw[List.getElem?_eq_getElem (by rw[hxl];decide)] at h1;obtain⟨a1,o1,d1⟩:=rd_26 H eh w X hX _ _ _ h1;have h2:=hf 2 _ rfl;rw[List.getElem?_eq_getElem (by rw[hxl];decide)] at h2;obtain⟨a2,o2,d2⟩:=rd_28 H eh w X hX _ _ _ h2;have h3:=hf 3 _ rfl;rw[List.getElem?_eq_getElem (by rw[hxl];decide)] at h3;obtain⟨a3,o3,d3⟩:=rd_29 H eh w X hX _ _ _ h3;have h4:=hf 4 _ rfl;rw[List.getElem?_eq_getElem (by rw[hxl];decide)] at h4;obtain⟨a4,o4,d4⟩:=(mX Tryz.underlying3) H eh w X hX _ _ _ h4;have h5:=hf 5 _ rfl;rw[List.getElem?_eq_getElem (by rw[hxl];decide)] at h5;obtain⟨a5,o5,d5⟩:=rd_30 H eh w X hX _ _ _ h5;exact⟨⟨a0,a1,a2,a3,a4,a5⟩,⟨o0,o1,o2,o3,o4,o5⟩,dU (o:=0) (k:=5) d0 (dU (o:=5) (k:=2) d1 (dU (o:=7) (k:=10) d2 (dU (o:=17) (k:=1) d3 (dU (o:=18) (k:=1) d4 (dU (o:=19) (k:=1) d5 (aIc hl))))))⟩
attribute [local instance] aCj
theorem contract(H:Type)(eh:TypeId×Value->H)(W:World)(base:Nat)(args:Array Value)(ds gs:List (DataW H))(before:List MemPlace)
    (hval:∀(j:Nat) t v,Tryz.f3.params[j]?=some t->args[j]?=some v->Value.okWide Tryz.prog W .any base t v)
    (hL:laidMetH Tryz.prog aKl W)(hS:W.ShapedOpen Tryz.prog)(hW:DataW.Whole eh Tryz.prog Tryz.f3.params.toList Rows.topPlayableSpec.vars false W args.toList ds gs before):
    Calls Tryz.prog 3 args W λe W'=>∃v,e=.returned v/\Rows.topPlayableSpec.post eh Tryz.prog Tryz.f3 false true false false W args v W':=by
  have hW0:=hW;obtain⟨p,q,hA,hV,rfl,hfz,hnd⟩:=hW;rw[Tryz.params3] at hA hval;obtain⟨v0,vs0,d0,ds0,p0,q0,hargs0,rfl,rfl,h0,r0⟩:=trodAll_cons hA;obtain⟨v1,vs1,d1,ds1,p1,q1,hargs1,rfl,rfl,h1,r1⟩:=trodAll_cons r0;obtain⟨rfl,rfl,rfl⟩:=trodAll_nil r1;obtain rfl:args= #[v0,v1]:=by cases args;simp_all
  obtain⟨rfl,rfl⟩:=trodVars_none hV;obtain⟨a0,ok0,av0⟩:=cMd Tryz.underlying32 rd_32 (hval 0 32 v0 rfl rfl) h0 (aTr);obtain⟨a1,ok1,av1⟩:=cNy Tryz.underlying24 rd_24 (hval 1 24 v1 rfl rfl) h1 (aTr);have hlaw:=aHk a0 a1 ok0 ok1;refine bVn laidOut (by kernel_rfl) Tryz.underlying4 rfl (by kernel_rfl) hW0 rfl ((aLj _ _).h _ hlaw) ?_ (cJk hL hS);exact⟨av0,av1,trivial⟩

set_option maxRecDepth 100000 in
theorem lifted(os:Os)(started:os.Started)(H:Type)(eh:TypeId×Value->H):
    ReturnsInHanded {} Tryz.checked os 3 .any (λw args=>(Rows.topPlayableSpec.pre eh Tryz.prog Tryz.f3 Rows.topPlayableRow.domain false w args/\laidMetH Tryz.prog aKl w)/\sizedMet eh Tryz.prog Tryz.f3 (OpenSpec.ofChange Rows.topPlayableSpec) false w args) (Rows.topPlayableSpec.post eh Tryz.prog Tryz.f3 false true false false):=by
  refine aPk (C:=Tryz.checked) (X:=λw _=>laidMetH Tryz.prog aKl w) (λ_ _ _ hh h=>h.of_heap hh) own started (by kernel_rfl) Tryz.func3
    (ChangeSpec.witness_shaped (enc:=eh) (C:=Tryz.checked) (os:=os) (X:=λw _=>laidMetH Tryz.prog aKl w) false (World.laidAll Tryz.prog os aKl) #[(.agg #[.int .i64 0,.int .i64 0,.int .i64 0,.int .i64 0,.int .i64 0,.int .i64 0,.slice none 0 0,.int .i64 0,.int .i64 0,.bool false,.int .i64 0,.int .i64 0,.int .i64 0,.int .i64 0,.int .i64 0,.int .i64 0,.bool false,.slice none 0 0,.int .i64 0,.slice none 0 0]),(.slice none 0 0)] 8 (World.laidAll_os _ _ _)
      (World.shaped_of_ZipB (by kernel_rfl) (by kernel_rfl)) (by kernel_rfl) (by kernel_rfl) (by kernel_rfl)
      (by rw[MakeChecks.laidMetH_plain _ _ _ (by kernel_rfl)];exact laidMet_laidAll _ (by kernel_rfl) (by kernel_rfl))) ?_
  intro W base args ds gs before hval hW _ hL hS;exact contract H eh W base args ds gs before hval hL hS hW
theorem f_maps:mapsRowed Tryz.prog=true:=by kernel_rfl
theorem f_inPlace:(Rows.topPlayableRow.inPlace==Tryz.prog.inPlace 3)=true:=by kernel_rfl
theorem f_unf:(Rows.topPlayableRow.unfollowed==Tryz.prog.unfollowed 3)=true:=by kernel_rfl
theorem f_rec:(Rows.topPlayableRow.recurses==Tryz.prog.recurses 3)=true:=by kernel_rfl
theorem f_named:(Rows.topPlayableRow.named==Tryz.prog.varsNamed 3)=true:=by kernel_rfl
theorem f_heard:Tryz.prog.stopsHeard=true:=by kernel_rfl
theorem f_goes:false=Rows.topPlayableRow.goesBy Tryz.prog:=by kernel_rfl
theorem f_looks:false=Tryz.prog.looks []:=by kernel_rfl
theorem joined:joinedFacts Tryz.prog 3 Tryz.f3 Rows.topPlayableSpec Rows.topPlayableRow=true:=by
  unfold joinedFacts;rw[laidOut,f_maps,f_inPlace,f_unf,f_rec,f_named,f_heard]
  kernel_rfl
theorem topPlayable_holds:Rows.TopPlayableSaid:=
  OpenClaim.holds_of_wide 3 Tryz.f3 rfl rfl rfl rfl rfl rfl rfl ⟨rfl,rfl,rfl,rfl,rfl⟩ rfl rfl rfl rfl rfl (by kernel_rfl) Tryz.func3 joined
    (of_decide_eq_true (by kernel_rfl)) (by unfold Func.isWrapper;first|(rw[if_pos (by decide+kernel)];kernel_rfl)|(rw[if_neg (by decide+kernel)];exact⟨rfl,rfl⟩))
    (λos started H eh _=>lifted os started H eh)
theorem topPlayable_card:Rows.TopPlayableCardSaid:=
  Claim7.holds_tied_plain_at .later [] [.data,.data,.data,.data,.pinned] true (true, "526c4b317f1725219a106a4de7c9795e456f092385012d97a04c97cb4ffc6f77") false topPlayable_holds (λ_ h=>by cases h) (by kernel_rfl) (λ_ h=>by cases h) topPlayable_row_tie rfl ⟨rfl,rfl⟩ (by kernel_rfl) rfl
    (fun f fn hf hfn=>by
      obtain rfl:f=3:=Option.some.inj ((show Tryz.prog.funcNamed "deuce/deucetop.TopPlayable" =some 3 by kernel_rfl).symm.trans hf) |>.symm;obtain rfl:fn=Tryz.f3:=(Option.some.inj (Tryz.func3.symm.trans hfn)).symm;exact⟨f_looks,λj t ht=>by
        rw[Tryz.params3] at ht;have hm:t∈[32,24]:=by simpa using Array.mem_of_getElem? ht
        have hall:([32,24].all λu=>!Tryz.prog.wantsStandIn u)=true:=by kernel_rfl
        exact(show Tryz.prog.wantsStandIn t=false by simpa using List.all_eq_true.1 hall t hm)⟩)
    f_goes
end Go.Proofs.YtammglnfelkbpaaGreatDoor
