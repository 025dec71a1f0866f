/- THE LAW RefereeFiles: whatever the input, the call returns true, and each argument reads behind the call as it read before. No condition. -/
import Derived.Test.YtejdennodgdfhaaGreatDoorAmClose
import Derived.Test.YtejdennodgdfhaaGreatDoorRefereeFilesSim
import Derived.Test.YtejdennodgdfhaaGreatDoorRefereeFilesLaw
import Derived.Test.YtejdennodgdfhaaGreatDoorRfEnd0
import Derived.Test.YtejdennodgdfhaaGreatDoorCards
import Derived.Test.YtejdennodgdfhaaGreatDoorTie
namespace Go.Proofs.YtejdennodgdfhaaGreatDoor
open Go.Am Go.ChangeShapes Go.WideShapes Go.ChangeAt Go.RowKit
set_option maxRecDepth 100000
theorem own:ownKnob Tryz.prog.godebug=none:=by kernel_rfl
theorem laidOut:laidOutB Tryz.prog=true:=by kernel_rfl
theorem rd_33:Rd Tryz.prog 33 bPc (okL okS):=bMi Tryz.underlying33 (by kernel_rfl) (by decide) (aVi Tryz.underlying9) (λ_=>rfl)
attribute [local instance] zI
theorem contract(H:Type)(eh:TypeId×Value->H)(W:World)(base:Nat)(args:Array Value)(ds gs:List (DataW H))(before:List MemPlace)
    (hval:∀(j:Nat) t v,Tryz.f10.params[j]?=some t->args[j]?=some v->Value.okWide Tryz.prog W .any base t v)
    (hL:laidMetH Tryz.prog aEh W)(hS:W.ShapedOpen Tryz.prog)(hW:DataW.Whole eh Tryz.prog Tryz.f10.params.toList Rows.refereeFilesSpec.vars false W args.toList ds gs before):
    Calls Tryz.prog 10 args W λe W'=>∃v,e=.returned v/\Rows.refereeFilesSpec.post eh Tryz.prog Tryz.f10 false true false false W args v W':=by
  have hW0:=hW;obtain⟨p,q,hA,hV,rfl,hfz,hnd⟩:=hW;rw[Tryz.params10] at hA hval;obtain⟨v0,vs0,d0,ds0,p0,q0,hargs0,rfl,rfl,h0,r0⟩:=trodAll_cons hA;obtain⟨v1,vs1,d1,ds1,p1,q1,hargs1,rfl,rfl,h1,r1⟩:=trodAll_cons r0;obtain⟨rfl,rfl,rfl⟩:=trodAll_nil r1;obtain rfl:args= #[v0,v1]:=by cases args;simp_all
  obtain⟨rfl,rfl⟩:=trodVars_none hV;obtain⟨a0,ok0,av0⟩:=bUd Tryz.underlying33 rd_33 (hval 0 33 v0 rfl rfl) h0 (aMn);obtain⟨a1,ok1,av1⟩:=bJx Tryz.underlying9 (hval 1 9 v1 rfl rfl) h1 (aMn);have hlaw:=yL a0 a1 ok0 ok1;refine bHw laidOut (by kernel_rfl) Tryz.underlying4 rfl (by kernel_rfl) hW0 rfl (aBx _ _ hlaw) ?_ (bRb hL hS);exact⟨av0,av1,trivial⟩

set_option maxRecDepth 100000 in
theorem lifted(os:Os)(started:os.Started)(H:Type)(eh:TypeId×Value->H):
    ReturnsInHanded {} Tryz.checked os 10 .any (λw args=>(Rows.refereeFilesSpec.pre eh Tryz.prog Tryz.f10 Rows.refereeFilesRow.domain false w args/\laidMetH Tryz.prog aEh w)/\sizedMet eh Tryz.prog Tryz.f10 (OpenSpec.ofChange Rows.refereeFilesSpec) false w args) (Rows.refereeFilesSpec.post eh Tryz.prog Tryz.f10 false true false false):=by
  refine aIo (C:=Tryz.checked) (X:=λw _=>laidMetH Tryz.prog aEh w) (λ_ _ _ hh h=>h.of_heap hh) own started (by kernel_rfl) Tryz.func10
    (ChangeSpec.witness_shaped (enc:=eh) (C:=Tryz.checked) (os:=os) (X:=λw _=>laidMetH Tryz.prog aEh w) false (World.laidAll Tryz.prog os aEh) #[(.slice none 0 0),(.string ⟨#[]⟩)] 8 (World.laidAll_os _ _ _)
      (World.shaped_of_ZipB (by kernel_rfl) (by kernel_rfl)) (by kernel_rfl) (by kernel_rfl) (by kernel_rfl)
      (by rw[MakeChecks.laidMetH_plain _ _ _ (by kernel_rfl)];exact laidMet_laidAll _ (by kernel_rfl) (by kernel_rfl))) ?_
  intro W base args ds gs before hval hW _ hL hS;exact contract H eh W base args ds gs before hval hL hS hW
theorem f_maps:mapsRowed Tryz.prog=true:=by kernel_rfl
theorem f_inPlace:(Rows.refereeFilesRow.inPlace==Tryz.prog.inPlace 10)=true:=by kernel_rfl
theorem f_unf:(Rows.refereeFilesRow.unfollowed==Tryz.prog.unfollowed 10)=true:=by kernel_rfl
theorem f_rec:(Rows.refereeFilesRow.recurses==Tryz.prog.recurses 10)=true:=by kernel_rfl
theorem f_named:(Rows.refereeFilesRow.named==Tryz.prog.varsNamed 10)=true:=by kernel_rfl
theorem f_heard:Tryz.prog.stopsHeard=true:=by kernel_rfl
theorem f_goes:false=Rows.refereeFilesRow.goesBy Tryz.prog:=by kernel_rfl
theorem f_looks:false=Tryz.prog.looks []:=by kernel_rfl
theorem joined:joinedFacts Tryz.prog 10 Tryz.f10 Rows.refereeFilesSpec Rows.refereeFilesRow=true:=by
  unfold joinedFacts;rw[laidOut,f_maps,f_inPlace,f_unf,f_rec,f_named,f_heard]
  kernel_rfl
theorem refereeFiles_holds:Rows.RefereeFilesSaid:=
  OpenClaim.holds_of_wide 10 Tryz.f10 rfl rfl rfl rfl rfl rfl rfl ⟨rfl,rfl,rfl,rfl,rfl⟩ rfl rfl rfl rfl rfl (by kernel_rfl) Tryz.func10 joined
    (of_decide_eq_true (by kernel_rfl)) (by unfold Func.isWrapper;first|(rw[if_pos (by decide+kernel)];kernel_rfl)|(rw[if_neg (by decide+kernel)];exact⟨rfl,rfl⟩))
    (λos started H eh _=>lifted os started H eh)
theorem refereeFiles_card:Rows.RefereeFilesCardSaid:=
  Claim7.holds_tied_plain_at .later [] [.data,.data,.data,.data,.pinned] true (true, "24994f7459f7245988c04753424449a8a354fabc7d1da4f3c6d5e1e07c1959d9") false refereeFiles_holds (λ_ h=>by cases h) (by kernel_rfl) (λ_ h=>by cases h) refereeFiles_row_tie rfl ⟨rfl,rfl⟩ (by kernel_rfl) rfl
    (fun f fn hf hfn=>by
      obtain rfl:f=10:=Option.some.inj ((show Tryz.prog.funcNamed "deuce/deucelaw12.RefereeFiles" =some 10 by kernel_rfl).symm.trans hf) |>.symm;obtain rfl:fn=Tryz.f10:=(Option.some.inj (Tryz.func10.symm.trans hfn)).symm;exact⟨f_looks,λj t ht=>by
        rw[Tryz.params10] at ht;have hm:t∈[33,9]:=by simpa using Array.mem_of_getElem? ht
        have hall:([33,9].all λu=>!Tryz.prog.wantsStandIn u)=true:=by kernel_rfl
        exact(show Tryz.prog.wantsStandIn t=false by simpa using List.all_eq_true.1 hall t hm)⟩)
    f_goes
end Go.Proofs.YtejdennodgdfhaaGreatDoor
