/- THE LAW PlayEasier: whatever the input, the call returns true, and each argument reads behind the call as it read before. No condition. -/
import Derived.Test.YtikcmpflkibomaaAmClose
import Derived.Test.YtikcmpflkibomaaPlayEasierSimP3
import Derived.Test.YtikcmpflkibomaaPlayEasierLaw
import Derived.Test.YtikcmpflkibomaaRows
namespace Go.Proofs.Ytikcmpflkibomaa
open Go.Am Go.ChangeShapes Go.WideShapes Go.ChangeAt Go.RowKit
set_option maxRecDepth 100000
theorem own : ownKnob Try.prog.godebug = none := by kernel_rfl
theorem laidOut : laidOutB Try.prog = true := by kernel_rfl
theorem rd_34 : Rd Try.prog 34 encApiSpan okApiSpan := by
  intro H eh w X hX fuel cs x h
  obtain ⟨xs, n, rfl, rfl, hl, hxl, hf⟩ := DataW.trod_struct Try.underlying34 h
  have hl : cs.length = 2 := by rw [hl]; kernel_rfl
  have h0 := hf 0 _ rfl
  rw [List.getElem?_eq_getElem (by rw [hxl]; decide)] at h0
  obtain ⟨a0, o0, d0⟩ := (rd_int Try.underlying3) H eh w X hX _ _ _ h0
  have h1 := hf 1 _ rfl
  rw [List.getElem?_eq_getElem (by rw [hxl]; decide)] at h1
  obtain ⟨a1, o1, d1⟩ := (rd_int Try.underlying3) H eh w X hX _ _ _ h1
  exact ⟨⟨a0, a1⟩, ⟨o0, o1⟩, drs_field (o := 0) (k := 1) d0 (drs_field (o := 1) (k := 1) d1 (drs_end hl))⟩
theorem rd_37 : Rd Try.prog 37 encSl_ApiSpan (okL okApiSpan) := rd_slice Try.underlying37 (by kernel_rfl) (by decide) rd_34 (fun _ => rfl)
theorem rd_22 : Rd Try.prog 22 encSl_Sl_ApiSpan (okL (okL okApiSpan)) := rd_slice Try.underlying22 (by kernel_rfl) (by decide) rd_37 (fun _ => rfl)
theorem rd_27 : Rd Try.prog 27 encSl_I (okL okI) := rd_slice Try.underlying27 (by kernel_rfl) (by decide) (rd_int Try.underlying3) (fun _ => rfl)
theorem rd_36 : Rd Try.prog 36 encApiJob okApiJob := by
  intro H eh w X hX fuel cs x h
  obtain ⟨xs, n, rfl, rfl, hl, hxl, hf⟩ := DataW.trod_struct Try.underlying36 h
  have hl : cs.length = 6 := by rw [hl]; kernel_rfl
  have h0 := hf 0 _ rfl
  rw [List.getElem?_eq_getElem (by rw [hxl]; decide)] at h0
  obtain ⟨a0, o0, d0⟩ := rd_34 H eh w X hX _ _ _ h0
  have h1 := hf 1 _ rfl
  rw [List.getElem?_eq_getElem (by rw [hxl]; decide)] at h1
  obtain ⟨a1, o1, d1⟩ := rd_27 H eh w X hX _ _ _ h1
  have h2 := hf 2 _ rfl
  rw [List.getElem?_eq_getElem (by rw [hxl]; decide)] at h2
  obtain ⟨a2, o2, d2⟩ := rd_27 H eh w X hX _ _ _ h2
  have h3 := hf 3 _ rfl
  rw [List.getElem?_eq_getElem (by rw [hxl]; decide)] at h3
  obtain ⟨a3, o3, d3⟩ := (rd_int Try.underlying3) H eh w X hX _ _ _ h3
  have h4 := hf 4 _ rfl
  rw [List.getElem?_eq_getElem (by rw [hxl]; decide)] at h4
  obtain ⟨a4, o4, d4⟩ := (rd_int Try.underlying3) H eh w X hX _ _ _ h4
  exact ⟨⟨a0, a1, a2, a3, a4⟩, ⟨o0, o1, o2, o3, o4⟩, drs_field (o := 0) (k := 2) d0 (drs_field (o := 2) (k := 1) d1 (drs_field (o := 3) (k := 1) d2 (drs_field (o := 4) (k := 1) d3 (drs_field (o := 5) (k := 1) d4 (drs_end hl)))))⟩
theorem rd_23 : Rd Try.prog 23 encSl_ApiJob (okL okApiJob) := rd_slice Try.underlying23 (by kernel_rfl) (by decide) rd_36 (fun _ => rfl)
theorem rd_25 : Rd Try.prog 25 encApiProgram okApiProgram := by
  intro H eh w X hX fuel cs x h
  obtain ⟨xs, n, rfl, rfl, hl, hxl, hf⟩ := DataW.trod_struct Try.underlying25 h
  have hl : cs.length = 3 := by rw [hl]; kernel_rfl
  have h0 := hf 0 _ rfl
  rw [List.getElem?_eq_getElem (by rw [hxl]; decide)] at h0
  obtain ⟨a0, o0, d0⟩ := rd_22 H eh w X hX _ _ _ h0
  have h1 := hf 1 _ rfl
  rw [List.getElem?_eq_getElem (by rw [hxl]; decide)] at h1
  obtain ⟨a1, o1, d1⟩ := (rd_int Try.underlying3) H eh w X hX _ _ _ h1
  have h2 := hf 2 _ rfl
  rw [List.getElem?_eq_getElem (by rw [hxl]; decide)] at h2
  obtain ⟨a2, o2, d2⟩ := rd_23 H eh w X hX _ _ _ h2
  exact ⟨⟨a0, a1, a2⟩, ⟨o0, o1, o2⟩, drs_field (o := 0) (k := 1) d0 (drs_field (o := 1) (k := 1) d1 (drs_field (o := 2) (k := 1) d2 (drs_end hl)))⟩
theorem rd_45 : Rd Try.prog 45 encApiSeat okApiSeat := by
  intro H eh w X hX fuel cs x h
  obtain ⟨xs, n, rfl, rfl, hl, hxl, hf⟩ := DataW.trod_struct Try.underlying45 h
  have hl : cs.length = 3 := by rw [hl]; kernel_rfl
  have h0 := hf 0 _ rfl
  rw [List.getElem?_eq_getElem (by rw [hxl]; decide)] at h0
  obtain ⟨a0, o0, d0⟩ := (rd_int Try.underlying3) H eh w X hX _ _ _ h0
  have h1 := hf 1 _ rfl
  rw [List.getElem?_eq_getElem (by rw [hxl]; decide)] at h1
  obtain ⟨a1, o1, d1⟩ := (rd_int Try.underlying3) H eh w X hX _ _ _ h1
  have h2 := hf 2 _ rfl
  rw [List.getElem?_eq_getElem (by rw [hxl]; decide)] at h2
  obtain ⟨a2, o2, d2⟩ := (rd_int Try.underlying3) H eh w X hX _ _ _ h2
  exact ⟨⟨a0, a1, a2⟩, ⟨o0, o1, o2⟩, drs_field (o := 0) (k := 1) d0 (drs_field (o := 1) (k := 1) d1 (drs_field (o := 2) (k := 1) d2 (drs_end hl)))⟩
theorem rd_26 : Rd Try.prog 26 encSl_ApiSeat (okL okApiSeat) := rd_slice Try.underlying26 (by kernel_rfl) (by decide) rd_45 (fun _ => rfl)
theorem rd_49 : Rd Try.prog 49 encDeucelaw08Ease okDeucelaw08Ease := by
  intro H eh w X hX fuel cs x h
  obtain ⟨xs, n, rfl, rfl, hl, hxl, hf⟩ := DataW.trod_struct Try.underlying49 h
  have hl : cs.length = 5 := by rw [hl]; kernel_rfl
  have h0 := hf 0 _ rfl
  rw [List.getElem?_eq_getElem (by rw [hxl]; decide)] at h0
  obtain ⟨a0, o0, d0⟩ := (rd_int Try.underlying3) H eh w X hX _ _ _ h0
  have h1 := hf 1 _ rfl
  rw [List.getElem?_eq_getElem (by rw [hxl]; decide)] at h1
  obtain ⟨a1, o1, d1⟩ := (rd_int Try.underlying3) H eh w X hX _ _ _ h1
  have h2 := hf 2 _ rfl
  rw [List.getElem?_eq_getElem (by rw [hxl]; decide)] at h2
  obtain ⟨a2, o2, d2⟩ := (rd_int Try.underlying3) H eh w X hX _ _ _ h2
  have h3 := hf 3 _ rfl
  rw [List.getElem?_eq_getElem (by rw [hxl]; decide)] at h3
  obtain ⟨a3, o3, d3⟩ := (rd_int Try.underlying3) H eh w X hX _ _ _ h3
  have h4 := hf 4 _ rfl
  rw [List.getElem?_eq_getElem (by rw [hxl]; decide)] at h4
  obtain ⟨a4, o4, d4⟩ := (rd_int Try.underlying3) H eh w X hX _ _ _ h4
  exact ⟨⟨a0, a1, a2, a3, a4⟩, ⟨o0, o1, o2, o3, o4⟩, drs_field (o := 0) (k := 1) d0 (drs_field (o := 1) (k := 1) d1 (drs_field (o := 2) (k := 1) d2 (drs_field (o := 3) (k := 1) d3 (drs_field (o := 4) (k := 1) d4 (drs_end hl)))))⟩
theorem contract (H : Type) (eh : TypeId × Value → H) (W : World) (base : Nat) (args : Array Value) (ds gs : List (DataW H)) (before : List MemPlace)
    (hval : ∀ (j : Nat) t v, Try.f4.params[j]? = some t → args[j]? = some v → Value.okWide Try.prog W .any base t v)
    (hW : DataW.Whole eh Try.prog Try.f4.params.toList Rows.playEasierSpec.vars false W args.toList ds gs before) :
    Calls Try.prog 4 args W fun e W' => ∃ v, e = .returned v ∧ Rows.playEasierSpec.post eh Try.prog Try.f4 false true false false W args v W' := by
  have hW0 := hW
  obtain ⟨p, q, hA, hV, rfl, hfz, hnd⟩ := hW
  rw [Try.params4] at hA hval
  obtain ⟨v0, vs0, d0, ds0, p0, q0, hargs0, rfl, rfl, h0, r0⟩ := trodAll_cons hA
  obtain ⟨v1, vs1, d1, ds1, p1, q1, hargs1, rfl, rfl, h1, r1⟩ := trodAll_cons r0
  obtain ⟨v2, vs2, d2, ds2, p2, q2, hargs2, rfl, rfl, h2, r2⟩ := trodAll_cons r1
  obtain ⟨rfl, rfl, rfl⟩ := trodAll_nil r2
  obtain rfl : args = #[v0, v1, v2] := by cases args; simp_all
  obtain ⟨rfl, rfl⟩ := trodVars_none hV
  obtain ⟨a0, ok0, av0⟩ := vr_agg Try.underlying25 rd_25 (hval 0 25 v0 rfl rfl) h0 (no_live)
  obtain ⟨a1, ok1, av1⟩ := vr_sl Try.underlying26 rd_26 (hval 1 26 v1 rfl rfl) h1 (no_live)
  obtain ⟨a2, ok2, av2⟩ := vr_agg Try.underlying49 rd_49 (hval 2 49 v2 rfl rfl) h2 (no_live)
  have hlaw := deucelaw08_PlayEasier_true a0 a1 a2 ok0 ok1 ok2
  refine law_calls laidOut (by kernel_rfl) Try.underlying4 rfl (by kernel_rfl) hW0 rfl (deucelaw08_PlayEasier_c _ _ _  hlaw) ?_
  exact ⟨av0, av1, av2, trivial⟩

set_option maxRecDepth 100000 in
theorem lifted (os : Os) (started : os.Started) (H : Type) (eh : TypeId × Value → H) :
    ReturnsInHanded {} Try.checked os 4 .any (Rows.playEasierSpec.pre6 eh Try.prog Try.f4 Rows.playEasierRow.domain false) (Rows.playEasierSpec.post eh Try.prog Try.f4 false true false false) := by
  refine returnsInHanded_of_change (C := Try.checked) own started (by kernel_rfl) Try.func4
    (ChangeSpec.witness6 (enc := eh) (C := Try.checked) false ⟨#[], #[(.agg #[.slice none 0 0, .int .i64 0, .slice none 0 0]), (.slice none 0 0), (.agg #[.int .i64 0, .int .i64 0, .int .i64 0, .int .i64 0, .int .i64 0])], []⟩ 8 (by kernel_rfl) (by kernel_rfl) (by kernel_rfl) (by kernel_rfl)) ?_
  intro W base args ds gs before hval hW hcnd _
  exact contract H eh W base args ds gs before hval hW
theorem playEasier_holds : Rows.PlayEasierSaid :=
  OpenClaim.holds_of_wide 4 Try.f4 rfl rfl rfl rfl rfl rfl rfl ⟨rfl, rfl, rfl, rfl, rfl⟩ rfl rfl rfl rfl rfl (by kernel_rfl) Try.func4 (by kernel_rfl)
    (of_decide_eq_true (by kernel_rfl)) (by unfold Func.isWrapper; first | (rw [if_pos (by decide +kernel)]; kernel_rfl) | (rw [if_neg (by decide +kernel)]; exact ⟨rfl, rfl⟩))
    (fun os started H eh _ => lifted os started H eh)
end Go.Proofs.Ytikcmpflkibomaa
