/- THE LAW RankOrder: whatever the input, the call returns true, and each argument reads behind the call as it read before. No condition. -/
import Derived.Test.YtaocljlhapoieaaAmClose
import Derived.Test.YtaocljlhapoieaaRankOrderSimP2
import Derived.Test.YtaocljlhapoieaaRankOrderLaw
import Derived.Test.YtaocljlhapoieaaRows
namespace Go.Proofs.Ytaocljlhapoieaa
open Go.Am Go.ChangeShapes Go.WideShapes Go.ChangeAt Go.RowKit
set_option maxRecDepth 100000
theorem own : ownKnob Try.prog.godebug = none := by kernel_rfl
theorem laidOut : laidOutB Try.prog = true := by kernel_rfl
theorem rd_42 : Rd Try.prog 42 aA vV := by
  intro H eh w X hX fuel cs x h
  obtain ⟨xs, n, rfl, rfl, hl, hxl, hf⟩ := DataW.trod_struct Try.underlying42 h
  have hl : cs.length = 5 := by rw [hl]; kernel_rfl
  have h0 := hf 0 _ rfl
  rw [List.getElem?_eq_getElem (by rw [hxl]; decide)] at h0
  obtain ⟨a0, o0, d0⟩ := (mR Try.underlying3) H eh w X hX _ _ _ h0
  have h1 := hf 1 _ rfl
  rw [List.getElem?_eq_getElem (by rw [hxl]; decide)] at h1
  obtain ⟨a1, o1, d1⟩ := (mR Try.underlying3) H eh w X hX _ _ _ h1
  have h2 := hf 2 _ rfl
  rw [List.getElem?_eq_getElem (by rw [hxl]; decide)] at h2
  obtain ⟨a2, o2, d2⟩ := (mR Try.underlying3) H eh w X hX _ _ _ h2
  have h3 := hf 3 _ rfl
  rw [List.getElem?_eq_getElem (by rw [hxl]; decide)] at h3
  obtain ⟨a3, o3, d3⟩ := (mR Try.underlying3) H eh w X hX _ _ _ h3
  have h4 := hf 4 _ rfl
  rw [List.getElem?_eq_getElem (by rw [hxl]; decide)] at h4
  obtain ⟨a4, o4, d4⟩ := (aJl Try.underlying4) H eh w X hX _ _ _ h4
  exact ⟨⟨a0, a1, a2, a3, a4⟩, ⟨o0, o1, o2, o3, o4⟩, fM (o := 0) (k := 1) d0 (fM (o := 1) (k := 1) d1 (fM (o := 2) (k := 1) d2 (fM (o := 3) (k := 1) d3 (fM (o := 4) (k := 1) d4 (wI hl)))))⟩
theorem rd_22 : Rd Try.prog 22 fS (okL vV) := aDw Try.underlying22 (by kernel_rfl) (by decide) rd_42 (fun _ => rfl)
theorem rd_66 : Rd Try.prog 66 aF rF := by
  intro H eh w X hX fuel cs x h
  obtain ⟨xs, n, rfl, rfl, hl, hxl, hf⟩ := DataW.trod_struct Try.underlying66 h
  have hl : cs.length = 3 := by rw [hl]; kernel_rfl
  have h0 := hf 0 _ rfl
  rw [List.getElem?_eq_getElem (by rw [hxl]; decide)] at h0
  obtain ⟨a0, o0, d0⟩ := (mR Try.underlying3) H eh w X hX _ _ _ h0
  have h1 := hf 1 _ rfl
  rw [List.getElem?_eq_getElem (by rw [hxl]; decide)] at h1
  obtain ⟨a1, o1, d1⟩ := (mR Try.underlying3) H eh w X hX _ _ _ h1
  have h2 := hf 2 _ rfl
  rw [List.getElem?_eq_getElem (by rw [hxl]; decide)] at h2
  obtain ⟨a2, o2, d2⟩ := (mR Try.underlying3) H eh w X hX _ _ _ h2
  exact ⟨⟨a0, a1, a2⟩, ⟨o0, o1, o2⟩, fM (o := 0) (k := 1) d0 (fM (o := 1) (k := 1) d1 (fM (o := 2) (k := 1) d2 (wI hl)))⟩
theorem rd_23 : Rd Try.prog 23 zX (okL rF) := aDw Try.underlying23 (by kernel_rfl) (by decide) rd_66 (fun _ => rfl)
theorem rd_25 : Rd Try.prog 25 aI zK := by
  intro H eh w X hX fuel cs x h
  obtain ⟨xs, n, rfl, rfl, hl, hxl, hf⟩ := DataW.trod_struct Try.underlying25 h
  have hl : cs.length = 5 := by rw [hl]; kernel_rfl
  have h0 := hf 0 _ rfl
  rw [List.getElem?_eq_getElem (by rw [hxl]; decide)] at h0
  obtain ⟨a0, o0, d0⟩ := (mR Try.underlying3) H eh w X hX _ _ _ h0
  have h1 := hf 1 _ rfl
  rw [List.getElem?_eq_getElem (by rw [hxl]; decide)] at h1
  obtain ⟨a1, o1, d1⟩ := (mR Try.underlying3) H eh w X hX _ _ _ h1
  have h2 := hf 2 _ rfl
  rw [List.getElem?_eq_getElem (by rw [hxl]; decide)] at h2
  obtain ⟨a2, o2, d2⟩ := rd_22 H eh w X hX _ _ _ h2
  have h3 := hf 3 _ rfl
  rw [List.getElem?_eq_getElem (by rw [hxl]; decide)] at h3
  obtain ⟨a3, o3, d3⟩ := rd_23 H eh w X hX _ _ _ h3
  have h4 := hf 4 _ rfl
  rw [List.getElem?_eq_getElem (by rw [hxl]; decide)] at h4
  obtain ⟨a4, o4, d4⟩ := rd_23 H eh w X hX _ _ _ h4
  exact ⟨⟨a0, a1, a2, a3, a4⟩, ⟨o0, o1, o2, o3, o4⟩, fM (o := 0) (k := 1) d0 (fM (o := 1) (k := 1) d1 (fM (o := 2) (k := 1) d2 (fM (o := 3) (k := 1) d3 (fM (o := 4) (k := 1) d4 (wI hl)))))⟩
theorem rd_27 : Rd Try.prog 27 fH vH := by
  intro H eh w X hX fuel cs x h
  obtain ⟨xs, n, rfl, rfl, hl, hxl, hf⟩ := DataW.trod_struct Try.underlying27 h
  have hl : cs.length = 3 := by rw [hl]; kernel_rfl
  have h0 := hf 0 _ rfl
  rw [List.getElem?_eq_getElem (by rw [hxl]; decide)] at h0
  obtain ⟨a0, o0, d0⟩ := (mR Try.underlying3) H eh w X hX _ _ _ h0
  have h1 := hf 1 _ rfl
  rw [List.getElem?_eq_getElem (by rw [hxl]; decide)] at h1
  obtain ⟨a1, o1, d1⟩ := (mR Try.underlying3) H eh w X hX _ _ _ h1
  have h2 := hf 2 _ rfl
  rw [List.getElem?_eq_getElem (by rw [hxl]; decide)] at h2
  obtain ⟨a2, o2, d2⟩ := (mR Try.underlying3) H eh w X hX _ _ _ h2
  exact ⟨⟨a0, a1, a2⟩, ⟨o0, o1, o2⟩, fM (o := 0) (k := 1) d0 (fM (o := 1) (k := 1) d1 (fM (o := 2) (k := 1) d2 (wI hl)))⟩
theorem rd_59 : Rd Try.prog 59 eR uN := by
  intro H eh w X hX fuel cs x h
  obtain ⟨xs, n, rfl, rfl, hl, hxl, hf⟩ := DataW.trod_struct Try.underlying59 h
  have hl : cs.length = 2 := by rw [hl]; kernel_rfl
  have h0 := hf 0 _ rfl
  rw [List.getElem?_eq_getElem (by rw [hxl]; decide)] at h0
  obtain ⟨a0, o0, d0⟩ := (mR Try.underlying3) H eh w X hX _ _ _ h0
  have h1 := hf 1 _ rfl
  rw [List.getElem?_eq_getElem (by rw [hxl]; decide)] at h1
  obtain ⟨a1, o1, d1⟩ := (mR Try.underlying3) H eh w X hX _ _ _ h1
  exact ⟨⟨a0, a1⟩, ⟨o0, o1⟩, fM (o := 0) (k := 1) d0 (fM (o := 1) (k := 1) d1 (wI hl))⟩
theorem contract (H : Type) (eh : TypeId × Value → H) (W : World) (base : Nat) (args : Array Value) (ds gs : List (DataW H)) (before : List MemPlace)
    (hval : ∀ (j : Nat) t v, Try.f8.params[j]? = some t → args[j]? = some v → Value.okWide Try.prog W .any base t v)
    (hW : DataW.Whole eh Try.prog Try.f8.params.toList Rows.rankOrderSpec.vars false W args.toList ds gs before) :
    Calls Try.prog 8 args W fun e W' => ∃ v, e = .returned v ∧ Rows.rankOrderSpec.post eh Try.prog Try.f8 false true false false W args v W' := by
  have hW0 := hW
  obtain ⟨p, q, hA, hV, rfl, hfz, hnd⟩ := hW
  rw [Try.params8] at hA hval
  obtain ⟨v0, vs0, d0, ds0, p0, q0, hargs0, rfl, rfl, h0, r0⟩ := trodAll_cons hA
  obtain ⟨v1, vs1, d1, ds1, p1, q1, hargs1, rfl, rfl, h1, r1⟩ := trodAll_cons r0
  obtain ⟨v2, vs2, d2, ds2, p2, q2, hargs2, rfl, rfl, h2, r2⟩ := trodAll_cons r1
  obtain ⟨rfl, rfl, rfl⟩ := trodAll_nil r2
  obtain rfl : args = #[v0, v1, v2] := by cases args; simp_all
  obtain ⟨rfl, rfl⟩ := trodVars_none hV
  obtain ⟨a0, ok0, av0⟩ := aEj Try.underlying25 rd_25 (hval 0 25 v0 rfl rfl) h0 (aBo)
  obtain ⟨a1, ok1, av1⟩ := aEj Try.underlying27 rd_27 (hval 1 27 v1 rfl rfl) h1 (aBo)
  obtain ⟨a2, ok2, av2⟩ := aEj Try.underlying59 rd_59 (hval 2 59 v2 rfl rfl) h2 (aBo)
  have hlaw := tO a0 a1 a2 ok0 ok1 ok2
  refine aGt laidOut (by kernel_rfl) Try.underlying4 rfl (by kernel_rfl) hW0 rfl (vT _ _ _  hlaw) ?_
  exact ⟨av0, av1, av2, trivial⟩

set_option maxRecDepth 100000 in
theorem lifted (os : Os) (started : os.Started) (H : Type) (eh : TypeId × Value → H) :
    ReturnsInHanded {} Try.checked os 8 .any (Rows.rankOrderSpec.pre6 eh Try.prog Try.f8 Rows.rankOrderRow.domain false) (Rows.rankOrderSpec.post eh Try.prog Try.f8 false true false false) := by
  refine returnsInHanded_of_change (C := Try.checked) own started (by kernel_rfl) Try.func8
    (ChangeSpec.witness6 (enc := eh) (C := Try.checked) false ⟨#[], #[(.agg #[.int .i64 0, .int .i64 0, .slice none 0 0, .slice none 0 0, .slice none 0 0]), (.agg #[.int .i64 0, .int .i64 0, .int .i64 0]), (.agg #[.int .i64 0, .int .i64 0])], []⟩ 8 (by kernel_rfl) (by kernel_rfl) (by kernel_rfl) (by kernel_rfl)) ?_
  intro W base args ds gs before hval hW hcnd _
  exact contract H eh W base args ds gs before hval hW
theorem rankOrder_holds : Rows.RankOrderSaid :=
  OpenClaim.holds_of_wide 8 Try.f8 rfl rfl rfl rfl rfl rfl rfl ⟨rfl, rfl, rfl, rfl, rfl⟩ rfl rfl rfl rfl rfl (by kernel_rfl) Try.func8 (by kernel_rfl)
    (of_decide_eq_true (by kernel_rfl)) (by unfold Func.isWrapper; first | (rw [if_pos (by decide +kernel)]; kernel_rfl) | (rw [if_neg (by decide +kernel)]; exact ⟨rfl, rfl⟩))
    (fun os started H eh _ => lifted os started H eh)
end Go.Proofs.Ytaocljlhapoieaa
