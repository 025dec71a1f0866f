/- THE LAW TopScheduled: whatever the input, the call returns true, and each argument reads behind the call as it read before. No condition. -/
import Derived.Test.YtiohgpipanopaaaGreatAmClose
import Derived.Test.YtiohgpipanopaaaGreatTopScheduledSimP2
import Derived.Test.YtiohgpipanopaaaGreatTopScheduledLaw
import Derived.Test.YtiohgpipanopaaaGreatRows
namespace Go.Proofs.YtiohgpipanopaaaGreat
open Go.Am Go.ChangeShapes Go.WideShapes Go.ChangeAt Go.RowKit
set_option maxRecDepth 100000
theorem own:ownKnob Tryz.prog.godebug=none:=by kernel_rfl
theorem laidOut:laidOutB Tryz.prog=true:=by kernel_rfl
theorem rd_43:Rd Tryz.prog 43 bL aJj:=by
  intro H eh w X hX fuel cs x h;obtain⟨xs,n,rfl,rfl,hl,hxl,hf⟩:=DataW.trod_struct Tryz.underlying43 h;have hl:cs.length=3:=by rw[hl];kernel_rfl
  have h0:=hf 0 _ rfl;rw[List.getElem?_eq_getElem (by rw[hxl];decide)] at h0;obtain⟨a0,o0,d0⟩:=(aBw Tryz.underlying3) H eh w X hX _ _ _ h0;have h1:=hf 1 _ rfl;rw[List.getElem?_eq_getElem (by rw[hxl];decide)] at h1;obtain⟨a1,o1,d1⟩:=(aBw Tryz.underlying3) H eh w X hX _ _ _ h1;have h2:=hf 2 _ rfl;rw[List.getElem?_eq_getElem (by rw[hxl];decide)] at h2;obtain⟨a2,o2,d2⟩:=(bWf Tryz.underlying4) H eh w X hX _ _ _ h2;exact⟨⟨a0,a1,a2⟩,⟨o0,o1,o2⟩,lM (o:=0) (k:=1) d0 (lM (o:=1) (k:=1) d1 (lM (o:=2) (k:=1) d2 (aKa hl)))⟩
theorem rd_22:Rd Tryz.prog 22 aVf (okL aJj):=aHp Tryz.underlying22 (by kernel_rfl) (by decide) rd_43 (λ_=>rfl)
theorem rd_23:Rd Tryz.prog 23 oJ (okL okI):=aHp Tryz.underlying23 (by kernel_rfl) (by decide) (aBw Tryz.underlying3) (λ_=>rfl)
theorem rd_25:Rd Tryz.prog 25 bM bAs:=by
  intro H eh w X hX fuel cs x h;obtain⟨xs,n,rfl,rfl,hl,hxl,hf⟩:=DataW.trod_struct Tryz.underlying25 h;have hl:cs.length=4:=by rw[hl];kernel_rfl
  have h0:=hf 0 _ rfl;rw[List.getElem?_eq_getElem (by rw[hxl];decide)] at h0;obtain⟨a0,o0,d0⟩:=(aBw Tryz.underlying3) H eh w X hX _ _ _ h0;have h1:=hf 1 _ rfl;rw[List.getElem?_eq_getElem (by rw[hxl];decide)] at h1;obtain⟨a1,o1,d1⟩:=(aBw Tryz.underlying3) H eh w X hX _ _ _ h1;have h2:=hf 2 _ rfl;rw[List.getElem?_eq_getElem (by rw[hxl];decide)] at h2;obtain⟨a2,o2,d2⟩:=rd_22 H eh w X hX _ _ _ h2;have h3:=hf 3 _ rfl;rw[List.getElem?_eq_getElem (by rw[hxl];decide)] at h3;obtain⟨a3,o3,d3⟩:=rd_23 H eh w X hX _ _ _ h3;exact⟨⟨a0,a1,a2,a3⟩,⟨o0,o1,o2,o3⟩,lM (o:=0) (k:=1) d0 (lM (o:=1) (k:=1) d1 (lM (o:=2) (k:=1) d2 (lM (o:=3) (k:=1) d3 (aKa hl))))⟩
theorem rd_63:Rd Tryz.prog 63 bX aEd:=by
  intro H eh w X hX fuel cs x h;obtain⟨xs,n,rfl,rfl,hl,hxl,hf⟩:=DataW.trod_struct Tryz.underlying63 h;have hl:cs.length=2:=by rw[hl];kernel_rfl
  have h0:=hf 0 _ rfl;rw[List.getElem?_eq_getElem (by rw[hxl];decide)] at h0;obtain⟨a0,o0,d0⟩:=(aBw Tryz.underlying3) H eh w X hX _ _ _ h0;have h1:=hf 1 _ rfl;rw[List.getElem?_eq_getElem (by rw[hxl];decide)] at h1;obtain⟨a1,o1,d1⟩:=(aBw Tryz.underlying3) H eh w X hX _ _ _ h1;exact⟨⟨a0,a1⟩,⟨o0,o1⟩,lM (o:=0) (k:=1) d0 (lM (o:=1) (k:=1) d1 (aKa hl))⟩
theorem rd_59:Rd Tryz.prog 59 bC (okL aEd):=aHp Tryz.underlying59 (by kernel_rfl) (by decide) rd_63 (λ_=>rfl)
theorem rd_26:Rd Tryz.prog 26 aTa (okL (okL aEd)):=aHp Tryz.underlying26 (by kernel_rfl) (by decide) rd_59 (λ_=>rfl)
theorem rd_147:Rd Tryz.prog 147 kZ aMq:=by
  intro H eh w X hX fuel cs x h;obtain⟨xs,n,rfl,rfl,hl,hxl,hf⟩:=DataW.trod_struct Tryz.underlying147 h;have hl:cs.length=3:=by rw[hl];kernel_rfl
  have h0:=hf 0 _ rfl;rw[List.getElem?_eq_getElem (by rw[hxl];decide)] at h0;obtain⟨a0,o0,d0⟩:=rd_63 H eh w X hX _ _ _ h0;have h1:=hf 1 _ rfl;rw[List.getElem?_eq_getElem (by rw[hxl];decide)] at h1;obtain⟨a1,o1,d1⟩:=(aBw Tryz.underlying3) H eh w X hX _ _ _ h1;exact⟨⟨a0,a1⟩,⟨o0,o1⟩,lM (o:=0) (k:=2) d0 (lM (o:=2) (k:=1) d1 (aKa hl))⟩
theorem rd_27:Rd Tryz.prog 27 aXz (okL aMq):=aHp Tryz.underlying27 (by kernel_rfl) (by decide) rd_147 (λ_=>rfl)
theorem rd_29:Rd Tryz.prog 29 aBd aCy:=by
  intro H eh w X hX fuel cs x h;obtain⟨xs,n,rfl,rfl,hl,hxl,hf⟩:=DataW.trod_struct Tryz.underlying29 h;have hl:cs.length=3:=by rw[hl];kernel_rfl
  have h0:=hf 0 _ rfl;rw[List.getElem?_eq_getElem (by rw[hxl];decide)] at h0;obtain⟨a0,o0,d0⟩:=rd_26 H eh w X hX _ _ _ h0;have h1:=hf 1 _ rfl;rw[List.getElem?_eq_getElem (by rw[hxl];decide)] at h1;obtain⟨a1,o1,d1⟩:=(aBw Tryz.underlying3) H eh w X hX _ _ _ h1;have h2:=hf 2 _ rfl;rw[List.getElem?_eq_getElem (by rw[hxl];decide)] at h2;obtain⟨a2,o2,d2⟩:=rd_27 H eh w X hX _ _ _ h2;exact⟨⟨a0,a1,a2⟩,⟨o0,o1,o2⟩,lM (o:=0) (k:=1) d0 (lM (o:=1) (k:=1) d1 (lM (o:=2) (k:=1) d2 (aKa hl)))⟩
theorem contract(H:Type)(eh:TypeId×Value->H)(W:World)(base:Nat)(args:Array Value)(ds gs:List (DataW H))(before:List MemPlace)
    (hval:∀(j:Nat) t v,Tryz.f3.params[j]?=some t->args[j]?=some v->Value.okWide Tryz.prog W .any base t v)
    (hW:DataW.Whole eh Tryz.prog Tryz.f3.params.toList Rows.topScheduledSpec.vars false W args.toList ds gs before):
    Calls Tryz.prog 3 args W λe W'=>∃v,e=.returned v/\Rows.topScheduledSpec.post eh Tryz.prog Tryz.f3 false true false false W args v W':=by
  have hW0:=hW;obtain⟨p,q,hA,hV,rfl,hfz,hnd⟩:=hW;rw[Tryz.params3] at hA hval;obtain⟨v0,vs0,d0,ds0,p0,q0,hargs0,rfl,rfl,h0,r0⟩:=trodAll_cons hA;obtain⟨v1,vs1,d1,ds1,p1,q1,hargs1,rfl,rfl,h1,r1⟩:=trodAll_cons r0;obtain⟨rfl,rfl,rfl⟩:=trodAll_nil r1;obtain rfl:args= #[v0,v1]:=by cases args;simp_all
  obtain⟨rfl,rfl⟩:=trodVars_none hV;obtain⟨a0,ok0,av0⟩:=bQa Tryz.underlying25 rd_25 (hval 0 25 v0 rfl rfl) h0 (bIo);obtain⟨a1,ok1,av1⟩:=bQa Tryz.underlying29 rd_29 (hval 1 29 v1 rfl rfl) h1 (bIo);have hlaw:=aEs a0 a1 ok0 ok1;refine bNw laidOut (by kernel_rfl) Tryz.underlying4 rfl (by kernel_rfl) hW0 rfl (aHy _ _ hlaw) ?_;exact⟨av0,av1,trivial⟩

set_option maxRecDepth 100000 in
theorem lifted(os:Os)(started:os.Started)(H:Type)(eh:TypeId×Value->H):
    ReturnsInHanded {} Tryz.checked os 3 .any (Rows.topScheduledSpec.pre6 eh Tryz.prog Tryz.f3 Rows.topScheduledRow.domain false) (Rows.topScheduledSpec.post eh Tryz.prog Tryz.f3 false true false false):=by
  refine returnsInHanded_of_change (C:=Tryz.checked) own started (by kernel_rfl) Tryz.func3
    (ChangeSpec.witness6 (enc:=eh) (C:=Tryz.checked) false ⟨#[], #[(.agg #[.int .i64 0,.int .i64 0,.slice none 0 0,.slice none 0 0]),(.agg #[.slice none 0 0,.int .i64 0,.slice none 0 0])],[]⟩ 8 (by kernel_rfl) (by kernel_rfl) (by kernel_rfl) (by kernel_rfl)) ?_
  intro W base args ds gs before hval hW hcnd _;exact contract H eh W base args ds gs before hval hW
theorem topScheduled_holds:Rows.TopScheduledSaid:=
  OpenClaim.holds_of_wide 3 Tryz.f3 rfl rfl rfl rfl rfl rfl rfl ⟨rfl,rfl,rfl,rfl,rfl⟩ rfl rfl rfl rfl rfl (by kernel_rfl) Tryz.func3 (by kernel_rfl)
    (of_decide_eq_true (by kernel_rfl)) (by unfold Func.isWrapper;first|(rw[if_pos (by decide+kernel)];kernel_rfl)|(rw[if_neg (by decide+kernel)];exact⟨rfl,rfl⟩))
    (λos started H eh _=>lifted os started H eh)
end Go.Proofs.YtiohgpipanopaaaGreat
