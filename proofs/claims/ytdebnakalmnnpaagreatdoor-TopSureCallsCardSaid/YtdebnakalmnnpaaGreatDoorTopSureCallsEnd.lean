/- THE LAW TopSureCalls: whatever the input, the call returns true, and each argument reads behind the call as it read before. No condition. -/
import Derived.Test.YtdebnakalmnnpaaGreatDoorAmClose
import Derived.Test.YtdebnakalmnnpaaGreatDoorSureSim
import Derived.Test.YtdebnakalmnnpaaGreatDoorTopSureCallsLaw
import Derived.Test.YtdebnakalmnnpaaGreatDoorRfEnd0
import Derived.Test.YtdebnakalmnnpaaGreatDoorCards
import Derived.Test.YtdebnakalmnnpaaGreatDoorTie
namespace Go.Proofs.YtdebnakalmnnpaaGreatDoor
open Go.Am Go.ChangeShapes Go.WideShapes Go.ChangeAt Go.RowKit
set_option maxRecDepth 100000
theorem own:ownKnob Tryz.prog.godebug=none:=by kernel_rfl
theorem laidOut:laidOutB Tryz.prog=true:=by kernel_rfl
theorem rd_23:Rd Tryz.prog 23 aFj aZh:=by
  intro H eh w X hX fuel cs x h;obtain⟨xs,n,rfl,rfl,hl,hxl,hf⟩:=DataW.trod_struct Tryz.underlying23 h;have hl:cs.length=5:=by rw[hl];kernel_rfl
  have h0:=hf 0 _ rfl;rw[List.getElem?_eq_getElem (by rw[hxl];decide)] at h0;obtain⟨a0,o0,d0⟩:=(eZ Tryz.underlying3) H eh w X hX _ _ _ h0;have h1:=hf 1 _ rfl;rw[List.getElem?_eq_getElem (by rw[hxl];decide)] at h1;obtain⟨a1,o1,d1⟩:=(eZ Tryz.underlying3) H eh w X hX _ _ _ h1;have h2:=hf 2 _ rfl;rw[List.getElem?_eq_getElem (by rw[hxl];decide)] at h2;obtain⟨a2,o2,d2⟩:=(eZ Tryz.underlying3) H eh w X hX _ _ _ h2;have h3:=hf 3 _ rfl;rw[List.getElem?_eq_getElem (by rw[hxl];decide)] at h3;obtain⟨a3,o3,d3⟩:=(eZ Tryz.underlying3) H eh w X hX _ _ _ h3;have h4:=hf 4 _ rfl;rw[List.getElem?_eq_getElem (by rw[hxl];decide)] at h4;obtain⟨a4,o4,d4⟩:=(eZ Tryz.underlying3) H eh w X hX _ _ _ h4;exact⟨⟨a0,a1,a2,a3,a4⟩,⟨o0,o1,o2,o3,o4⟩,bR (o:=0) (k:=1) d0 (bR (o:=1) (k:=1) d1 (bR (o:=2) (k:=1) d2 (bR (o:=3) (k:=1) d3 (bR (o:=4) (k:=1) d4 (uV hl)))))⟩
theorem rd_24:Rd Tryz.prog 24 sO (okL okI):=aEy Tryz.underlying24 (by kernel_rfl) (by decide) (eZ Tryz.underlying3) (λ_=>rfl)
theorem rd_26:Rd Tryz.prog 26 bB bEc:=by
  intro H eh w X hX fuel cs x h;obtain⟨xs,n,rfl,rfl,hl,hxl,hf⟩:=DataW.trod_struct Tryz.underlying26 h;have hl:cs.length=2:=by rw[hl];kernel_rfl
  have h0:=hf 0 _ rfl;rw[List.getElem?_eq_getElem (by rw[hxl];decide)] at h0;obtain⟨a0,o0,d0⟩:=(eZ Tryz.underlying3) H eh w X hX _ _ _ h0;have h1:=hf 1 _ rfl;rw[List.getElem?_eq_getElem (by rw[hxl];decide)] at h1;obtain⟨a1,o1,d1⟩:=rd_24 H eh w X hX _ _ _ h1;exact⟨⟨a0,a1⟩,⟨o0,o1⟩,bR (o:=0) (k:=1) d0 (bR (o:=1) (k:=1) d1 (uV hl))⟩
theorem rd_28:Rd Tryz.prog 28 pL aVa:=by
  intro H eh w X hX fuel cs x h;obtain⟨xs,n,rfl,rfl,hl,hxl,hf⟩:=DataW.trod_struct Tryz.underlying28 h;have hl:cs.length=10:=by rw[hl];kernel_rfl
  have h0:=hf 0 _ rfl;rw[List.getElem?_eq_getElem (by rw[hxl];decide)] at h0;obtain⟨a0,o0,d0⟩:=(eZ Tryz.underlying3) H eh w X hX _ _ _ h0;have h1:=hf 1 _ rfl;rw[List.getElem?_eq_getElem (by rw[hxl];decide)] at h1;obtain⟨a1,o1,d1⟩:=(eZ Tryz.underlying3) H eh w X hX _ _ _ h1;have h2:=hf 2 _ rfl;rw[List.getElem?_eq_getElem (by rw[hxl];decide)] at h2;obtain⟨a2,o2,d2⟩:=(bNg Tryz.underlying4) H eh w X hX _ _ _ h2;have h3:=hf 3 _ rfl;rw[List.getElem?_eq_getElem (by rw[hxl];decide)] at h3;obtain⟨a3,o3,d3⟩:=(eZ Tryz.underlying3) H eh w X hX _ _ _ h3;have h4:=hf 4 _ rfl;rw[List.getElem?_eq_getElem (by rw[hxl];decide)] at h4;obtain⟨a4,o4,d4⟩:=(eZ Tryz.underlying3) H eh w X hX _ _ _ h4;have h5:=hf 5 _ rfl;rw[List.getElem?_eq_getElem (by rw[hxl];decide)] at h5;obtain⟨a5,o5,d5⟩:=(eZ Tryz.underlying3) H eh w X hX _ _ _ h5;have h6:=hf 6 _ rfl;rw[List.getElem?_eq_getElem (by rw[hxl];decide)] at h6;obtain⟨a6,o6,d6⟩:=(eZ Tryz.underlying3) H eh w X hX _ _ _ h6;have h7:=hf 7 _ rfl;rw[List.getElem?_eq_getElem (by rw[hxl];decide)] at h7;obtain⟨a7,o7,d7⟩:=(eZ Tryz.underlying3) H eh w X hX _ _ _ h7;have h8:=hf 8 _ rfl;rw[List.getElem?_eq_getElem (by rw[hxl];decide)] at h8;obtain⟨a8,o8,d8⟩:=(eZ Tryz.underlying3) H eh w X hX _ _ _ h8;have h9:=hf 9 _ rfl;rw[List.getElem?_eq_getElem (by rw[hxl];decide)] at h9;obtain⟨a9,o9,d9⟩:=(bNg Tryz.underlying4) H eh w X hX _ _ _ h9;exact⟨⟨a0,a1,a2,a3,a4,a5,a6,a7,a8,a9⟩,⟨o0,o1,o2,o3,o4,o5,o6,o7,o8,o9⟩,bR (o:=0) (k:=1) d0 (bR (o:=1) (k:=1) d1 (bR (o:=2) (k:=1) d2 (bR (o:=3) (k:=1) d3 (bR (o:=4) (k:=1) d4 (bR (o:=5) (k:=1) d5 (bR (o:=6) (k:=1) d6 (bR (o:=7) (k:=1) d7 (bR (o:=8) (k:=1) d8 (bR (o:=9) (k:=1) d9 (uV hl))))))))))⟩
theorem rd_39:Rd Tryz.prog 39 cF yY:=by
  intro H eh w X hX fuel cs x h;obtain⟨xs,n,rfl,rfl,hl,hxl,hf⟩:=DataW.trod_struct Tryz.underlying39 h;have hl:cs.length=2:=by rw[hl];kernel_rfl
  have h0:=hf 0 _ rfl;rw[List.getElem?_eq_getElem (by rw[hxl];decide)] at h0;obtain⟨a0,o0,d0⟩:=(eZ Tryz.underlying3) H eh w X hX _ _ _ h0;have h1:=hf 1 _ rfl;rw[List.getElem?_eq_getElem (by rw[hxl];decide)] at h1;obtain⟨a1,o1,d1⟩:=(eZ Tryz.underlying3) H eh w X hX _ _ _ h1;exact⟨⟨a0,a1⟩,⟨o0,o1⟩,bR (o:=0) (k:=1) d0 (bR (o:=1) (k:=1) d1 (uV hl))⟩
theorem rd_104:Rd Tryz.prog 104 dD (okL yY):=aEy Tryz.underlying104 (by kernel_rfl) (by decide) rd_39 (λ_=>rfl)
theorem rd_29:Rd Tryz.prog 29 aVu (okL (okL yY)):=aEy Tryz.underlying29 (by kernel_rfl) (by decide) rd_104 (λ_=>rfl)
theorem rd_116:Rd Tryz.prog 116 cU aOm:=by
  intro H eh w X hX fuel cs x h;obtain⟨xs,n,rfl,rfl,hl,hxl,hf⟩:=DataW.trod_struct Tryz.underlying116 h;have hl:cs.length=3:=by rw[hl];kernel_rfl
  have h0:=hf 0 _ rfl;rw[List.getElem?_eq_getElem (by rw[hxl];decide)] at h0;obtain⟨a0,o0,d0⟩:=rd_39 H eh w X hX _ _ _ h0;have h1:=hf 1 _ rfl;rw[List.getElem?_eq_getElem (by rw[hxl];decide)] at h1;obtain⟨a1,o1,d1⟩:=(eZ Tryz.underlying3) H eh w X hX _ _ _ h1;exact⟨⟨a0,a1⟩,⟨o0,o1⟩,bR (o:=0) (k:=2) d0 (bR (o:=2) (k:=1) d1 (uV hl))⟩
theorem rd_30:Rd Tryz.prog 30 bBh (okL aOm):=aEy Tryz.underlying30 (by kernel_rfl) (by decide) rd_116 (λ_=>rfl)
theorem rd_32:Rd Tryz.prog 32 fI aKg:=by
  intro H eh w X hX fuel cs x h;obtain⟨xs,n,rfl,rfl,hl,hxl,hf⟩:=DataW.trod_struct Tryz.underlying32 h;have hl:cs.length=20:=by rw[hl];kernel_rfl
  have h0:=hf 0 _ rfl;rw[List.getElem?_eq_getElem (by rw[hxl];decide)] at h0;obtain⟨a0,o0,d0⟩:=rd_23 H eh w X hX _ _ _ h0;have h1:=hf 1 _ rfl;rw[List.getElem?_eq_getElem (by rw[hxl];decide)] at h1;obtain⟨a1,o1,d1⟩:=rd_26 H eh w X hX _ _ _ h1;have h2:=hf 2 _ rfl;rw[List.getElem?_eq_getElem (by rw[hxl];decide)] at h2;obtain⟨a2,o2,d2⟩:=rd_28 H eh w X hX _ _ _ h2;have h3:=hf 3 _ rfl;rw[List.getElem?_eq_getElem (by rw[hxl];decide)] at h3;obtain⟨a3,o3,d3⟩:=rd_29 H eh w X hX _ _ _ h3;have h4:=hf 4 _ rfl;rw[List.getElem?_eq_getElem (by rw[hxl];decide)] at h4;obtain⟨a4,o4,d4⟩:=(eZ Tryz.underlying3) H eh w X hX _ _ _ h4;have h5:=hf 5 _ rfl;rw[List.getElem?_eq_getElem (by rw[hxl];decide)] at h5;obtain⟨a5,o5,d5⟩:=rd_30 H eh w X hX _ _ _ h5;exact⟨⟨a0,a1,a2,a3,a4,a5⟩,⟨o0,o1,o2,o3,o4,o5⟩,bR (o:=0) (k:=5) d0 (bR (o:=5) (k:=2) d1 (bR (o:=7) (k:=10) d2 (bR (o:=17) (k:=1) d3 (bR (o:=18) (k:=1) d4 (bR (o:=19) (k:=1) d5 (uV hl))))))⟩
theorem rd_88:Rd Tryz.prog 88 gN aOn:=by
  intro H eh w X hX fuel cs x h;obtain⟨xs,n,rfl,rfl,hl,hxl,hf⟩:=DataW.trod_struct Tryz.underlying88 h;have hl:cs.length=4:=by rw[hl];kernel_rfl
  have h0:=hf 0 _ rfl;rw[List.getElem?_eq_getElem (by rw[hxl];decide)] at h0;obtain⟨a0,o0,d0⟩:=(eZ Tryz.underlying3) H eh w X hX _ _ _ h0;have h1:=hf 1 _ rfl;rw[List.getElem?_eq_getElem (by rw[hxl];decide)] at h1;obtain⟨a1,o1,d1⟩:=(eZ Tryz.underlying3) H eh w X hX _ _ _ h1;have h2:=hf 2 _ rfl;rw[List.getElem?_eq_getElem (by rw[hxl];decide)] at h2;obtain⟨a2,o2,d2⟩:=(eZ Tryz.underlying3) H eh w X hX _ _ _ h2;have h3:=hf 3 _ rfl;rw[List.getElem?_eq_getElem (by rw[hxl];decide)] at h3;obtain⟨a3,o3,d3⟩:=(eZ Tryz.underlying3) H eh w X hX _ _ _ h3;exact⟨⟨a0,a1,a2,a3⟩,⟨o0,o1,o2,o3⟩,bR (o:=0) (k:=1) d0 (bR (o:=1) (k:=1) d1 (bR (o:=2) (k:=1) d2 (bR (o:=3) (k:=1) d3 (uV hl))))⟩
theorem rd_37:Rd Tryz.prog 37 bBi (okL aOn):=aEy Tryz.underlying37 (by kernel_rfl) (by decide) rd_88 (λ_=>rfl)
theorem rd_41:Rd Tryz.prog 41 dF bEd:=by
  intro H eh w X hX fuel cs x h;obtain⟨xs,n,rfl,rfl,hl,hxl,hf⟩:=DataW.trod_struct Tryz.underlying41 h;have hl:cs.length=7:=by rw[hl];kernel_rfl
  have h0:=hf 0 _ rfl;rw[List.getElem?_eq_getElem (by rw[hxl];decide)] at h0;obtain⟨a0,o0,d0⟩:=(eZ Tryz.underlying3) H eh w X hX _ _ _ h0;have h1:=hf 1 _ rfl;rw[List.getElem?_eq_getElem (by rw[hxl];decide)] at h1;obtain⟨a1,o1,d1⟩:=rd_37 H eh w X hX _ _ _ h1;have h2:=hf 2 _ rfl;rw[List.getElem?_eq_getElem (by rw[hxl];decide)] at h2;obtain⟨a2,o2,d2⟩:=(eZ Tryz.underlying3) H eh w X hX _ _ _ h2;have h3:=hf 3 _ rfl;rw[List.getElem?_eq_getElem (by rw[hxl];decide)] at h3;obtain⟨a3,o3,d3⟩:=rd_39 H eh w X hX _ _ _ h3;have h4:=hf 4 _ rfl;rw[List.getElem?_eq_getElem (by rw[hxl];decide)] at h4;obtain⟨a4,o4,d4⟩:=rd_39 H eh w X hX _ _ _ h4;exact⟨⟨a0,a1,a2,a3,a4⟩,⟨o0,o1,o2,o3,o4⟩,bR (o:=0) (k:=1) d0 (bR (o:=1) (k:=1) d1 (bR (o:=2) (k:=1) d2 (bR (o:=3) (k:=2) d3 (bR (o:=5) (k:=2) d4 (uV hl)))))⟩
theorem rd_43:Rd Tryz.prog 43 nV bIm:=by
  intro H eh w X hX fuel cs x h;obtain⟨xs,n,rfl,rfl,hl,hxl,hf⟩:=DataW.trod_struct Tryz.underlying43 h;have hl:cs.length=4:=by rw[hl];kernel_rfl
  have h0:=hf 0 _ rfl;rw[List.getElem?_eq_getElem (by rw[hxl];decide)] at h0;obtain⟨a0,o0,d0⟩:=(eZ Tryz.underlying3) H eh w X hX _ _ _ h0;have h1:=hf 1 _ rfl;rw[List.getElem?_eq_getElem (by rw[hxl];decide)] at h1;obtain⟨a1,o1,d1⟩:=(eZ Tryz.underlying3) H eh w X hX _ _ _ h1;have h2:=hf 2 _ rfl;rw[List.getElem?_eq_getElem (by rw[hxl];decide)] at h2;obtain⟨a2,o2,d2⟩:=(eZ Tryz.underlying3) H eh w X hX _ _ _ h2;have h3:=hf 3 _ rfl;rw[List.getElem?_eq_getElem (by rw[hxl];decide)] at h3;obtain⟨a3,o3,d3⟩:=(eZ Tryz.underlying3) H eh w X hX _ _ _ h3;exact⟨⟨a0,a1,a2,a3⟩,⟨o0,o1,o2,o3⟩,bR (o:=0) (k:=1) d0 (bR (o:=1) (k:=1) d1 (bR (o:=2) (k:=1) d2 (bR (o:=3) (k:=1) d3 (uV hl))))⟩
theorem rd_45:Rd Tryz.prog 45 wC bEb:=by
  intro H eh w X hX fuel cs x h;obtain⟨xs,n,rfl,rfl,hl,hxl,hf⟩:=DataW.trod_struct Tryz.underlying45 h;have hl:cs.length=4:=by rw[hl];kernel_rfl
  have h0:=hf 0 _ rfl;rw[List.getElem?_eq_getElem (by rw[hxl];decide)] at h0;obtain⟨a0,o0,d0⟩:=(eZ Tryz.underlying3) H eh w X hX _ _ _ h0;have h1:=hf 1 _ rfl;rw[List.getElem?_eq_getElem (by rw[hxl];decide)] at h1;obtain⟨a1,o1,d1⟩:=(eZ Tryz.underlying3) H eh w X hX _ _ _ h1;have h2:=hf 2 _ rfl;rw[List.getElem?_eq_getElem (by rw[hxl];decide)] at h2;obtain⟨a2,o2,d2⟩:=(eZ Tryz.underlying3) H eh w X hX _ _ _ h2;have h3:=hf 3 _ rfl;rw[List.getElem?_eq_getElem (by rw[hxl];decide)] at h3;obtain⟨a3,o3,d3⟩:=(eZ Tryz.underlying3) H eh w X hX _ _ _ h3;exact⟨⟨a0,a1,a2,a3⟩,⟨o0,o1,o2,o3⟩,bR (o:=0) (k:=1) d0 (bR (o:=1) (k:=1) d1 (bR (o:=2) (k:=1) d2 (bR (o:=3) (k:=1) d3 (uV hl))))⟩
theorem rd_47:Rd Tryz.prog 47 aBi tH:=by
  intro H eh w X hX fuel cs x h;obtain⟨xs,n,rfl,rfl,hl,hxl,hf⟩:=DataW.trod_struct Tryz.underlying47 h;have hl:cs.length=16:=by rw[hl];kernel_rfl
  have h0:=hf 0 _ rfl;rw[List.getElem?_eq_getElem (by rw[hxl];decide)] at h0;obtain⟨a0,o0,d0⟩:=(eZ Tryz.underlying3) H eh w X hX _ _ _ h0;have h1:=hf 1 _ rfl;rw[List.getElem?_eq_getElem (by rw[hxl];decide)] at h1;obtain⟨a1,o1,d1⟩:=rd_41 H eh w X hX _ _ _ h1;have h2:=hf 2 _ rfl;rw[List.getElem?_eq_getElem (by rw[hxl];decide)] at h2;obtain⟨a2,o2,d2⟩:=rd_43 H eh w X hX _ _ _ h2;have h3:=hf 3 _ rfl;rw[List.getElem?_eq_getElem (by rw[hxl];decide)] at h3;obtain⟨a3,o3,d3⟩:=rd_45 H eh w X hX _ _ _ h3;exact⟨⟨a0,a1,a2,a3⟩,⟨o0,o1,o2,o3⟩,bR (o:=0) (k:=1) d0 (bR (o:=1) (k:=7) d1 (bR (o:=8) (k:=4) d2 (bR (o:=12) (k:=4) d3 (uV hl))))⟩
theorem rd_33:Rd Tryz.prog 33 aQl (okL tH):=aEy Tryz.underlying33 (by kernel_rfl) (by decide) rd_47 (λ_=>rfl)
attribute [local instance] aDb
theorem contract(H:Type)(eh:TypeId×Value->H)(W:World)(base:Nat)(args:Array Value)(ds gs:List (DataW H))(before:List MemPlace)
    (hval:∀(j:Nat) t v,Tryz.f3.params[j]?=some t->args[j]?=some v->Value.okWide Tryz.prog W .any base t v)
    (hL:laidMetH Tryz.prog aKb W)(hS:W.ShapedOpen Tryz.prog)(hW:DataW.Whole eh Tryz.prog Tryz.f3.params.toList Rows.topSureCallsSpec.vars false W args.toList ds gs before):
    Calls Tryz.prog 3 args W λe W'=>∃v,e=.returned v/\Rows.topSureCallsSpec.post eh Tryz.prog Tryz.f3 false true false false W args v W':=by
  have hW0:=hW;obtain⟨p,q,hA,hV,rfl,hfz,hnd⟩:=hW;rw[Tryz.params3] at hA hval;obtain⟨v0,vs0,d0,ds0,p0,q0,hargs0,rfl,rfl,h0,r0⟩:=trodAll_cons hA;obtain⟨v1,vs1,d1,ds1,p1,q1,hargs1,rfl,rfl,h1,r1⟩:=trodAll_cons r0;obtain⟨v2,vs2,d2,ds2,p2,q2,hargs2,rfl,rfl,h2,r2⟩:=trodAll_cons r1;obtain⟨rfl,rfl,rfl⟩:=trodAll_nil r2;obtain rfl:args= #[v0,v1,v2]:=by cases args;simp_all
  obtain⟨rfl,rfl⟩:=trodVars_none hV;obtain⟨a0,ok0,av0⟩:=cEv Tryz.underlying32 rd_32 (hval 0 32 v0 rfl rfl) h0 (aMe);obtain⟨a1,ok1,av1⟩:=cAb Tryz.underlying33 rd_33 (hval 1 33 v1 rfl rfl) h1 (aMe);obtain⟨a2,ok2,av2⟩:=cAb Tryz.underlying24 rd_24 (hval 2 24 v2 rfl rfl) h2 (aMe);have hlaw:=aGu a0 a1 a2 ok0 ok1 ok2;refine bSx laidOut (by kernel_rfl) Tryz.underlying4 rfl (by kernel_rfl) hW0 rfl (aJn _ _ _ hlaw) ?_ (cCv hL hS);exact⟨av0,av1,av2,trivial⟩

set_option maxRecDepth 100000 in
theorem lifted(os:Os)(started:os.Started)(H:Type)(eh:TypeId×Value->H):
    ReturnsInHanded {} Tryz.checked os 3 .any (λw args=>(Rows.topSureCallsSpec.pre eh Tryz.prog Tryz.f3 Rows.topSureCallsRow.domain false w args/\laidMetH Tryz.prog aKb w)/\sizedMet eh Tryz.prog Tryz.f3 (OpenSpec.ofChange Rows.topSureCallsSpec) false w args) (Rows.topSureCallsSpec.post eh Tryz.prog Tryz.f3 false true false false):=by
  refine aPa (C:=Tryz.checked) (X:=λw _=>laidMetH Tryz.prog aKb w) (λ_ _ _ hh h=>h.of_heap hh) own started (by kernel_rfl) Tryz.func3
    (ChangeSpec.witness_shaped (enc:=eh) (C:=Tryz.checked) (os:=os) (X:=λw _=>laidMetH Tryz.prog aKb w) false (World.laidAll Tryz.prog os aKb) #[(.agg #[.int .i64 0,.int .i64 0,.int .i64 0,.int .i64 0,.int .i64 0,.int .i64 0,.slice none 0 0,.int .i64 0,.int .i64 0,.bool false,.int .i64 0,.int .i64 0,.int .i64 0,.int .i64 0,.int .i64 0,.int .i64 0,.bool false,.slice none 0 0,.int .i64 0,.slice none 0 0]),(.slice none 0 0),(.slice none 0 0)] 8 (World.laidAll_os _ _ _)
      (World.shaped_of_ZipB (by kernel_rfl) (by kernel_rfl)) (by kernel_rfl) (by kernel_rfl) (by kernel_rfl)
      (by rw[MakeChecks.laidMetH_plain _ _ _ (by kernel_rfl)];exact laidMet_laidAll _ (by kernel_rfl) (by kernel_rfl))) ?_
  intro W base args ds gs before hval hW _ hL hS;exact contract H eh W base args ds gs before hval hL hS hW
theorem f_maps:mapsRowed Tryz.prog=true:=by kernel_rfl
theorem f_inPlace:(Rows.topSureCallsRow.inPlace==Tryz.prog.inPlace 3)=true:=by kernel_rfl
theorem f_unf:(Rows.topSureCallsRow.unfollowed==Tryz.prog.unfollowed 3)=true:=by kernel_rfl
theorem f_rec:(Rows.topSureCallsRow.recurses==Tryz.prog.recurses 3)=true:=by kernel_rfl
theorem f_named:(Rows.topSureCallsRow.named==Tryz.prog.varsNamed 3)=true:=by kernel_rfl
theorem f_heard:Tryz.prog.stopsHeard=true:=by kernel_rfl
theorem f_goes:false=Rows.topSureCallsRow.goesBy Tryz.prog:=by kernel_rfl
theorem f_looks:false=Tryz.prog.looks []:=by kernel_rfl
theorem joined:joinedFacts Tryz.prog 3 Tryz.f3 Rows.topSureCallsSpec Rows.topSureCallsRow=true:=by
  unfold joinedFacts;rw[laidOut,f_maps,f_inPlace,f_unf,f_rec,f_named,f_heard]
  kernel_rfl
theorem topSureCalls_holds:Rows.TopSureCallsSaid:=
  OpenClaim.holds_of_wide 3 Tryz.f3 rfl rfl rfl rfl rfl rfl rfl ⟨rfl,rfl,rfl,rfl,rfl⟩ rfl rfl rfl rfl rfl (by kernel_rfl) Tryz.func3 joined
    (of_decide_eq_true (by kernel_rfl)) (by unfold Func.isWrapper;first|(rw[if_pos (by decide+kernel)];kernel_rfl)|(rw[if_neg (by decide+kernel)];exact⟨rfl,rfl⟩))
    (λos started H eh _=>lifted os started H eh)
theorem topSureCalls_card:Rows.TopSureCallsCardSaid:=
  Claim7.holds_tied_plain_at .later [] [.data,.data,.data,.data,.pinned] true (true, "3cc3ef54dc5540d4240948f83fa8bf879b6d108ba1e376fc839c227e7756fb90") false topSureCalls_holds (λ_ h=>by cases h) (by kernel_rfl) (λ_ h=>by cases h) topSureCalls_row_tie rfl ⟨rfl,rfl⟩ (by kernel_rfl) rfl
    (fun f fn hf hfn=>by
      obtain rfl:f=3:=Option.some.inj ((show Tryz.prog.funcNamed "deuce/deucetop.TopSureCalls" =some 3 by kernel_rfl).symm.trans hf) |>.symm;obtain rfl:fn=Tryz.f3:=(Option.some.inj (Tryz.func3.symm.trans hfn)).symm;exact⟨f_looks,λj t ht=>by
        rw[Tryz.params3] at ht;have hm:t∈[32,33,24]:=by simpa using Array.mem_of_getElem? ht
        have hall:([32,33,24].all λu=>!Tryz.prog.wantsStandIn u)=true:=by kernel_rfl
        exact(show Tryz.prog.wantsStandIn t=false by simpa using List.all_eq_true.1 hall t hm)⟩)
    f_goes
end Go.Proofs.YtdebnakalmnnpaaGreatDoor
