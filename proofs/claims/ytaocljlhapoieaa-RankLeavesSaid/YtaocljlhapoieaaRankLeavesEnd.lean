/- THE LAW RankLeaves: whatever the input, the call returns true, and each argument reads behind the call as it read before. No condition. -/
import Derived.Test.YtaocljlhapoieaaAmSize
import Derived.Test.YtaocljlhapoieaaRankLeavesSimP2
import Derived.Test.YtaocljlhapoieaaRankLeavesLaw
import Derived.Test.YtaocljlhapoieaaRows
namespace Go.Proofs.Ytaocljlhapoieaa
open Go.Am Go.ChangeShapes Go.WideShapes Go.ChangeAt Go.RowKit
set_option maxRecDepth 100000
theorem own : ownKnob Try.prog.godebug = none := by kernel_rfl
theorem laidOut : laidOutB Try.prog = true := by kernel_rfl
theorem rd_42 : Rd Try.prog 42 aC uU := by
  intro H eh w X hX fuel cs x h
  obtain ⟨xs, n, rfl, rfl, hl, hxl, hf⟩ := DataW.trod_struct Try.underlying42 h
  have hl : cs.length = 5 := by rw [hl]; kernel_rfl
  have h0 := hf 0 _ rfl
  rw [List.getElem?_eq_getElem (by rw [hxl]; decide)] at h0
  obtain ⟨a0, o0, d0⟩ := (nU Try.underlying3) H eh w X hX _ _ _ h0
  have h1 := hf 1 _ rfl
  rw [List.getElem?_eq_getElem (by rw [hxl]; decide)] at h1
  obtain ⟨a1, o1, d1⟩ := (nU Try.underlying3) H eh w X hX _ _ _ h1
  have h2 := hf 2 _ rfl
  rw [List.getElem?_eq_getElem (by rw [hxl]; decide)] at h2
  obtain ⟨a2, o2, d2⟩ := (nU Try.underlying3) H eh w X hX _ _ _ h2
  have h3 := hf 3 _ rfl
  rw [List.getElem?_eq_getElem (by rw [hxl]; decide)] at h3
  obtain ⟨a3, o3, d3⟩ := (nU Try.underlying3) H eh w X hX _ _ _ h3
  have h4 := hf 4 _ rfl
  rw [List.getElem?_eq_getElem (by rw [hxl]; decide)] at h4
  obtain ⟨a4, o4, d4⟩ := (aHs Try.underlying4) H eh w X hX _ _ _ h4
  exact ⟨⟨a0, a1, a2, a3, a4⟩, ⟨o0, o1, o2, o3, o4⟩, gT (o := 0) (k := 1) d0 (gT (o := 1) (k := 1) d1 (gT (o := 2) (k := 1) d2 (gT (o := 3) (k := 1) d3 (gT (o := 4) (k := 1) d4 (xU hl)))))⟩
theorem rd_22 : Rd Try.prog 22 zH (okL uU) := aCq Try.underlying22 (by kernel_rfl) (by decide) rd_42 (fun _ => rfl)
theorem rd_66 : Rd Try.prog 66 aI qU := by
  intro H eh w X hX fuel cs x h
  obtain ⟨xs, n, rfl, rfl, hl, hxl, hf⟩ := DataW.trod_struct Try.underlying66 h
  have hl : cs.length = 3 := by rw [hl]; kernel_rfl
  have h0 := hf 0 _ rfl
  rw [List.getElem?_eq_getElem (by rw [hxl]; decide)] at h0
  obtain ⟨a0, o0, d0⟩ := (nU Try.underlying3) H eh w X hX _ _ _ h0
  have h1 := hf 1 _ rfl
  rw [List.getElem?_eq_getElem (by rw [hxl]; decide)] at h1
  obtain ⟨a1, o1, d1⟩ := (nU Try.underlying3) H eh w X hX _ _ _ h1
  have h2 := hf 2 _ rfl
  rw [List.getElem?_eq_getElem (by rw [hxl]; decide)] at h2
  obtain ⟨a2, o2, d2⟩ := (nU Try.underlying3) H eh w X hX _ _ _ h2
  exact ⟨⟨a0, a1, a2⟩, ⟨o0, o1, o2⟩, gT (o := 0) (k := 1) d0 (gT (o := 1) (k := 1) d1 (gT (o := 2) (k := 1) d2 (xU hl)))⟩
theorem rd_23 : Rd Try.prog 23 yT (okL qU) := aCq Try.underlying23 (by kernel_rfl) (by decide) rd_66 (fun _ => rfl)
theorem by_42 : Try.prog.bytesOf 42 = 40 := by kernel_rfl
theorem by_66 : Try.prog.bytesOf 66 = 24 := by kernel_rfl
theorem rd_25 : RdZ Try.prog 25 aX (fun a => yF a ∧ aEh a) := by
  intro H eh w X hX fuel cs x h hz
  obtain ⟨xs, n, rfl, rfl, hl, hxl, hf⟩ := DataW.trod_struct Try.underlying25 h
  have hl : cs.length = 5 := by rw [hl]; kernel_rfl
  have h0 := hf 0 _ rfl
  rw [List.getElem?_eq_getElem (by rw [hxl]; decide)] at h0
  obtain ⟨a0, o0, d0⟩ := (nU Try.underlying3) H eh w X hX _ _ _ h0
  have h1 := hf 1 _ rfl
  rw [List.getElem?_eq_getElem (by rw [hxl]; decide)] at h1
  obtain ⟨a1, o1, d1⟩ := (nU Try.underlying3) H eh w X hX _ _ _ h1
  have h2 := hf 2 _ rfl
  rw [List.getElem?_eq_getElem (by rw [hxl]; decide)] at h2
  obtain ⟨a2, o2, d2⟩ := xJ Try.underlying22 rd_22 H eh w X hX _ _ _ h2 (fun m hm => hz m (sB Try.underlying25 (j := 2) (tj := 22) rfl (by rw [List.getElem?_map, List.getElem?_eq_getElem (by rw [hxl]; decide)]; rfl) hm))
  have h3 := hf 3 _ rfl
  rw [List.getElem?_eq_getElem (by rw [hxl]; decide)] at h3
  obtain ⟨a3, o3, d3⟩ := xJ Try.underlying23 rd_23 H eh w X hX _ _ _ h3 (fun m hm => hz m (sB Try.underlying25 (j := 3) (tj := 23) rfl (by rw [List.getElem?_map, List.getElem?_eq_getElem (by rw [hxl]; decide)]; rfl) hm))
  have h4 := hf 4 _ rfl
  rw [List.getElem?_eq_getElem (by rw [hxl]; decide)] at h4
  obtain ⟨a4, o4, d4⟩ := xJ Try.underlying23 rd_23 H eh w X hX _ _ _ h4 (fun m hm => hz m (sB Try.underlying25 (j := 4) (tj := 23) rfl (by rw [List.getElem?_map, List.getElem?_eq_getElem (by rw [hxl]; decide)]; rfl) hm))
  exact ⟨⟨a0, a1, a2, a3, a4⟩, ⟨⟨o0, o1, o2.1, o3.1, o4.1⟩, by rw [by_42] at o2; exact o2.2, by rw [by_66] at o3; exact o3.2, by rw [by_66] at o4; exact o4.2⟩, gT (o := 0) (k := 1) d0 (gT (o := 1) (k := 1) d1 (gT (o := 2) (k := 1) d2 (gT (o := 3) (k := 1) d3 (gT (o := 4) (k := 1) d4 (xU hl)))))⟩
theorem rd_27 : Rd Try.prog 27 kI zP := by
  intro H eh w X hX fuel cs x h
  obtain ⟨xs, n, rfl, rfl, hl, hxl, hf⟩ := DataW.trod_struct Try.underlying27 h
  have hl : cs.length = 3 := by rw [hl]; kernel_rfl
  have h0 := hf 0 _ rfl
  rw [List.getElem?_eq_getElem (by rw [hxl]; decide)] at h0
  obtain ⟨a0, o0, d0⟩ := (nU Try.underlying3) H eh w X hX _ _ _ h0
  have h1 := hf 1 _ rfl
  rw [List.getElem?_eq_getElem (by rw [hxl]; decide)] at h1
  obtain ⟨a1, o1, d1⟩ := (nU Try.underlying3) H eh w X hX _ _ _ h1
  have h2 := hf 2 _ rfl
  rw [List.getElem?_eq_getElem (by rw [hxl]; decide)] at h2
  obtain ⟨a2, o2, d2⟩ := (nU Try.underlying3) H eh w X hX _ _ _ h2
  exact ⟨⟨a0, a1, a2⟩, ⟨o0, o1, o2⟩, gT (o := 0) (k := 1) d0 (gT (o := 1) (k := 1) d1 (gT (o := 2) (k := 1) d2 (xU hl)))⟩
theorem contract (H : Type) (eh : TypeId × Value → H) (W : World) (base : Nat) (args : Array Value) (ds gs : List (DataW H)) (before : List MemPlace)
    (hval : ∀ (j : Nat) t v, Try.f11.params[j]? = some t → args[j]? = some v → Value.okWide Try.prog W .any base t v)
    (hW : DataW.Whole eh Try.prog Try.f11.params.toList Rows.rankLeavesSpec.vars false W args.toList ds gs before)
    (hsz : (DataW.weightsEach Try.prog (Try.f11.params.toList ++ Rows.rankLeavesSpec.plain.varTypes Try.prog) (ds ++ gs)).all (· ≤ reachBytes) = true) :
    Calls Try.prog 11 args W fun e W' => ∃ v, e = .returned v ∧ Rows.rankLeavesSpec.post eh Try.prog Try.f11 false true false false W args v W' := by
  have hW0 := hW
  obtain ⟨p, q, hA, hV, rfl, hfz, hnd⟩ := hW
  rw [Try.params11] at hA hval
  obtain ⟨v0, vs0, d0, ds0, p0, q0, hargs0, rfl, rfl, h0, r0⟩ := trodAll_cons hA
  obtain ⟨v1, vs1, d1, ds1, p1, q1, hargs1, rfl, rfl, h1, r1⟩ := trodAll_cons r0
  obtain ⟨v2, vs2, d2, ds2, p2, q2, hargs2, rfl, rfl, h2, r2⟩ := trodAll_cons r1
  obtain ⟨rfl, rfl, rfl⟩ := trodAll_nil r2
  obtain rfl : args = #[v0, v1, v2] := by cases args; simp_all
  obtain ⟨rfl, rfl⟩ := trodVars_none hV
  obtain ⟨a0, ⟨ok0, hfit⟩, av0⟩ := aIa Try.underlying25 rd_25 (hval 0 25 v0 rfl rfl) h0 (aAg) (fun m hm => by
    rw [Try.params11] at hsz
    simpa using List.all_eq_true.1 hsz m (DataW.weights_mem_each (j := 0) (t := 25) rfl rfl m hm))
  obtain ⟨a1, ok1, av1⟩ := aFr Try.underlying66 rd_66 (hval 1 66 v1 rfl rfl) h1 (aAg)
  obtain ⟨a2, ok2, av2⟩ := aFr Try.underlying27 rd_27 (hval 2 27 v2 rfl rfl) h2 (aAg)
  have hlaw := sT a0 a1 a2 ok0 hfit
  refine aFh laidOut (by kernel_rfl) Try.underlying4 rfl (by kernel_rfl) hW0 rfl (uK _ _ _  hlaw) ?_
  exact ⟨av0, av1, av2, trivial⟩

set_option maxRecDepth 100000 in
theorem lifted (os : Os) (started : os.Started) (H : Type) (eh : TypeId × Value → H) :
    ReturnsInHanded {} Try.checked os 11 .any (Rows.rankLeavesSpec.pre6 eh Try.prog Try.f11 Rows.rankLeavesRow.domain false) (Rows.rankLeavesSpec.post eh Try.prog Try.f11 false true false false) := by
  refine returnsInHanded_of_change_sized (C := Try.checked) own started (by kernel_rfl) Try.func11
    (ChangeSpec.witness6 (enc := eh) (C := Try.checked) false ⟨#[], #[(.agg #[.int .i64 0, .int .i64 0, .slice none 0 0, .slice none 0 0, .slice none 0 0]), (.agg #[.int .i64 0, .int .i64 0, .int .i64 0]), (.agg #[.int .i64 0, .int .i64 0, .int .i64 0])], []⟩ 8 (by kernel_rfl) (by kernel_rfl) (by kernel_rfl) (by kernel_rfl)) ?_
  intro W base args ds gs before hval hW hcnd hsz _
  exact contract H eh W base args ds gs before hval hW hsz
theorem rankLeaves_holds : Rows.RankLeavesSaid :=
  OpenClaim.holds_of_wide 11 Try.f11 rfl rfl rfl rfl rfl rfl rfl ⟨rfl, rfl, rfl, rfl, rfl⟩ rfl rfl rfl rfl rfl (by kernel_rfl) Try.func11 (by kernel_rfl)
    (of_decide_eq_true (by kernel_rfl)) (by unfold Func.isWrapper; first | (rw [if_pos (by decide +kernel)]; kernel_rfl) | (rw [if_neg (by decide +kernel)]; exact ⟨rfl, rfl⟩))
    (fun os started H eh _ => lifted os started H eh)
end Go.Proofs.Ytaocljlhapoieaa
