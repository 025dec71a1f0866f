/- THE LAW PurseMore: whatever the input, the call returns true, and each argument reads behind the call as it read before. No condition. -/
import Derived.Test.YtoflekecpkjghaaAmClose
import Derived.Test.YtoflekecpkjghaaPurseMoreSimP2
import Derived.Test.YtoflekecpkjghaaPurseMoreLaw
import Derived.Test.YtoflekecpkjghaaRows
namespace Go.Proofs.Ytoflekecpkjghaa
open Go.Am Go.ChangeShapes Go.WideShapes Go.ChangeAt Go.RowKit
set_option maxRecDepth 100000
theorem own : ownKnob Try.prog.godebug = none := by kernel_rfl
theorem laidOut : laidOutB Try.prog = true := by kernel_rfl
theorem rd_22 : Rd Try.prog 22 oY (okL okI) := xS Try.underlying22 (by kernel_rfl) (by decide) (kL Try.underlying3) (fun _ => rfl)
theorem rd_24 : Rd Try.prog 24 bD aMm := by
  intro H eh w X hX fuel cs x h
  obtain ⟨xs, n, rfl, rfl, hl, hxl, hf⟩ := DataW.trod_struct Try.underlying24 h
  have hl : cs.length = 2 := by rw [hl]; kernel_rfl
  have h0 := hf 0 _ rfl
  rw [List.getElem?_eq_getElem (by rw [hxl]; decide)] at h0
  obtain ⟨a0, o0, d0⟩ := (kL Try.underlying3) H eh w X hX _ _ _ h0
  have h1 := hf 1 _ rfl
  rw [List.getElem?_eq_getElem (by rw [hxl]; decide)] at h1
  obtain ⟨a1, o1, d1⟩ := rd_22 H eh w X hX _ _ _ h1
  exact ⟨⟨a0, a1⟩, ⟨o0, o1⟩, eN (o := 0) (k := 1) d0 (eN (o := 1) (k := 1) d1 (xG hl))⟩
theorem rd_46 : Rd Try.prog 46 aJ aGl := by
  intro H eh w X hX fuel cs x h
  obtain ⟨xs, n, rfl, rfl, hl, hxl, hf⟩ := DataW.trod_struct Try.underlying46 h
  have hl : cs.length = 5 := by rw [hl]; kernel_rfl
  have h0 := hf 0 _ rfl
  rw [List.getElem?_eq_getElem (by rw [hxl]; decide)] at h0
  obtain ⟨a0, o0, d0⟩ := (kL Try.underlying3) H eh w X hX _ _ _ h0
  have h1 := hf 1 _ rfl
  rw [List.getElem?_eq_getElem (by rw [hxl]; decide)] at h1
  obtain ⟨a1, o1, d1⟩ := (kL Try.underlying3) H eh w X hX _ _ _ h1
  have h2 := hf 2 _ rfl
  rw [List.getElem?_eq_getElem (by rw [hxl]; decide)] at h2
  obtain ⟨a2, o2, d2⟩ := (kL Try.underlying3) H eh w X hX _ _ _ h2
  have h3 := hf 3 _ rfl
  rw [List.getElem?_eq_getElem (by rw [hxl]; decide)] at h3
  obtain ⟨a3, o3, d3⟩ := (kL Try.underlying3) H eh w X hX _ _ _ h3
  have h4 := hf 4 _ rfl
  rw [List.getElem?_eq_getElem (by rw [hxl]; decide)] at h4
  obtain ⟨a4, o4, d4⟩ := (kL Try.underlying3) H eh w X hX _ _ _ h4
  exact ⟨⟨a0, a1, a2, a3, a4⟩, ⟨o0, o1, o2, o3, o4⟩, eN (o := 0) (k := 1) d0 (eN (o := 1) (k := 1) d1 (eN (o := 2) (k := 1) d2 (eN (o := 3) (k := 1) d3 (eN (o := 4) (k := 1) d4 (xG hl)))))⟩
theorem rd_25 : Rd Try.prog 25 aNa (okL aGl) := xS Try.underlying25 (by kernel_rfl) (by decide) rd_46 (fun _ => rfl)
theorem rd_63 : Rd Try.prog 63 bF aGm := by
  intro H eh w X hX fuel cs x h
  obtain ⟨xs, n, rfl, rfl, hl, hxl, hf⟩ := DataW.trod_struct Try.underlying63 h
  have hl : cs.length = 3 := by rw [hl]; kernel_rfl
  have h0 := hf 0 _ rfl
  rw [List.getElem?_eq_getElem (by rw [hxl]; decide)] at h0
  obtain ⟨a0, o0, d0⟩ := (kL Try.underlying3) H eh w X hX _ _ _ h0
  have h1 := hf 1 _ rfl
  rw [List.getElem?_eq_getElem (by rw [hxl]; decide)] at h1
  obtain ⟨a1, o1, d1⟩ := (kL Try.underlying3) H eh w X hX _ _ _ h1
  have h2 := hf 2 _ rfl
  rw [List.getElem?_eq_getElem (by rw [hxl]; decide)] at h2
  obtain ⟨a2, o2, d2⟩ := (kL Try.underlying3) H eh w X hX _ _ _ h2
  exact ⟨⟨a0, a1, a2⟩, ⟨o0, o1, o2⟩, eN (o := 0) (k := 1) d0 (eN (o := 1) (k := 1) d1 (eN (o := 2) (k := 1) d2 (xG hl)))⟩
theorem rd_26 : Rd Try.prog 26 aNb (okL aGm) := xS Try.underlying26 (by kernel_rfl) (by decide) rd_63 (fun _ => rfl)
theorem rd_77 : Rd Try.prog 77 cD aGj := by
  intro H eh w X hX fuel cs x h
  obtain ⟨xs, n, rfl, rfl, hl, hxl, hf⟩ := DataW.trod_struct Try.underlying77 h
  have hl : cs.length = 2 := by rw [hl]; kernel_rfl
  have h0 := hf 0 _ rfl
  rw [List.getElem?_eq_getElem (by rw [hxl]; decide)] at h0
  obtain ⟨a0, o0, d0⟩ := (kL Try.underlying3) H eh w X hX _ _ _ h0
  have h1 := hf 1 _ rfl
  rw [List.getElem?_eq_getElem (by rw [hxl]; decide)] at h1
  obtain ⟨a1, o1, d1⟩ := (kL Try.underlying3) H eh w X hX _ _ _ h1
  exact ⟨⟨a0, a1⟩, ⟨o0, o1⟩, eN (o := 0) (k := 1) d0 (eN (o := 1) (k := 1) d1 (xG hl))⟩
theorem rd_27 : Rd Try.prog 27 aMy (okL aGj) := xS Try.underlying27 (by kernel_rfl) (by decide) rd_77 (fun _ => rfl)
theorem rd_55 : Rd Try.prog 55 cH aGk := by
  intro H eh w X hX fuel cs x h
  obtain ⟨xs, n, rfl, rfl, hl, hxl, hf⟩ := DataW.trod_struct Try.underlying55 h
  have hl : cs.length = 3 := by rw [hl]; kernel_rfl
  have h0 := hf 0 _ rfl
  rw [List.getElem?_eq_getElem (by rw [hxl]; decide)] at h0
  obtain ⟨a0, o0, d0⟩ := (kL Try.underlying3) H eh w X hX _ _ _ h0
  have h1 := hf 1 _ rfl
  rw [List.getElem?_eq_getElem (by rw [hxl]; decide)] at h1
  obtain ⟨a1, o1, d1⟩ := (kL Try.underlying3) H eh w X hX _ _ _ h1
  have h2 := hf 2 _ rfl
  rw [List.getElem?_eq_getElem (by rw [hxl]; decide)] at h2
  obtain ⟨a2, o2, d2⟩ := (kL Try.underlying3) H eh w X hX _ _ _ h2
  exact ⟨⟨a0, a1, a2⟩, ⟨o0, o1, o2⟩, eN (o := 0) (k := 1) d0 (eN (o := 1) (k := 1) d1 (eN (o := 2) (k := 1) d2 (xG hl)))⟩
theorem rd_28 : Rd Try.prog 28 aMz (okL aGk) := xS Try.underlying28 (by kernel_rfl) (by decide) rd_55 (fun _ => rfl)
theorem rd_79 : Rd Try.prog 79 aE aGi := by
  intro H eh w X hX fuel cs x h
  obtain ⟨xs, n, rfl, rfl, hl, hxl, hf⟩ := DataW.trod_struct Try.underlying79 h
  have hl : cs.length = 4 := by rw [hl]; kernel_rfl
  have h0 := hf 0 _ rfl
  rw [List.getElem?_eq_getElem (by rw [hxl]; decide)] at h0
  obtain ⟨a0, o0, d0⟩ := (kL Try.underlying3) H eh w X hX _ _ _ h0
  have h1 := hf 1 _ rfl
  rw [List.getElem?_eq_getElem (by rw [hxl]; decide)] at h1
  obtain ⟨a1, o1, d1⟩ := (kL Try.underlying3) H eh w X hX _ _ _ h1
  have h2 := hf 2 _ rfl
  rw [List.getElem?_eq_getElem (by rw [hxl]; decide)] at h2
  obtain ⟨a2, o2, d2⟩ := (kL Try.underlying3) H eh w X hX _ _ _ h2
  have h3 := hf 3 _ rfl
  rw [List.getElem?_eq_getElem (by rw [hxl]; decide)] at h3
  obtain ⟨a3, o3, d3⟩ := (kL Try.underlying3) H eh w X hX _ _ _ h3
  exact ⟨⟨a0, a1, a2, a3⟩, ⟨o0, o1, o2, o3⟩, eN (o := 0) (k := 1) d0 (eN (o := 1) (k := 1) d1 (eN (o := 2) (k := 1) d2 (eN (o := 3) (k := 1) d3 (xG hl))))⟩
theorem rd_29 : Rd Try.prog 29 aMx (okL aGi) := xS Try.underlying29 (by kernel_rfl) (by decide) rd_79 (fun _ => rfl)
theorem rd_31 : Rd Try.prog 31 aO aKn := by
  intro H eh w X hX fuel cs x h
  obtain ⟨xs, n, rfl, rfl, hl, hxl, hf⟩ := DataW.trod_struct Try.underlying31 h
  have hl : cs.length = 9 := by rw [hl]; kernel_rfl
  have h0 := hf 0 _ rfl
  rw [List.getElem?_eq_getElem (by rw [hxl]; decide)] at h0
  obtain ⟨a0, o0, d0⟩ := rd_24 H eh w X hX _ _ _ h0
  have h1 := hf 1 _ rfl
  rw [List.getElem?_eq_getElem (by rw [hxl]; decide)] at h1
  obtain ⟨a1, o1, d1⟩ := rd_25 H eh w X hX _ _ _ h1
  have h2 := hf 2 _ rfl
  rw [List.getElem?_eq_getElem (by rw [hxl]; decide)] at h2
  obtain ⟨a2, o2, d2⟩ := rd_22 H eh w X hX _ _ _ h2
  have h3 := hf 3 _ rfl
  rw [List.getElem?_eq_getElem (by rw [hxl]; decide)] at h3
  obtain ⟨a3, o3, d3⟩ := (kL Try.underlying3) H eh w X hX _ _ _ h3
  have h4 := hf 4 _ rfl
  rw [List.getElem?_eq_getElem (by rw [hxl]; decide)] at h4
  obtain ⟨a4, o4, d4⟩ := rd_26 H eh w X hX _ _ _ h4
  have h5 := hf 5 _ rfl
  rw [List.getElem?_eq_getElem (by rw [hxl]; decide)] at h5
  obtain ⟨a5, o5, d5⟩ := rd_27 H eh w X hX _ _ _ h5
  have h6 := hf 6 _ rfl
  rw [List.getElem?_eq_getElem (by rw [hxl]; decide)] at h6
  obtain ⟨a6, o6, d6⟩ := rd_28 H eh w X hX _ _ _ h6
  have h7 := hf 7 _ rfl
  rw [List.getElem?_eq_getElem (by rw [hxl]; decide)] at h7
  obtain ⟨a7, o7, d7⟩ := rd_29 H eh w X hX _ _ _ h7
  exact ⟨⟨a0, a1, a2, a3, a4, a5, a6, a7⟩, ⟨o0, o1, o2, o3, o4, o5, o6, o7⟩, eN (o := 0) (k := 2) d0 (eN (o := 2) (k := 1) d1 (eN (o := 3) (k := 1) d2 (eN (o := 4) (k := 1) d3 (eN (o := 5) (k := 1) d4 (eN (o := 6) (k := 1) d5 (eN (o := 7) (k := 1) d6 (eN (o := 8) (k := 1) d7 (xG hl))))))))⟩
theorem contract (H : Type) (eh : TypeId × Value → H) (W : World) (base : Nat) (args : Array Value) (ds gs : List (DataW H)) (before : List MemPlace)
    (hval : ∀ (j : Nat) t v, Try.f4.params[j]? = some t → args[j]? = some v → Value.okWide Try.prog W .any base t v)
    (hW : DataW.Whole eh Try.prog Try.f4.params.toList Rows.purseMoreSpec.vars false W args.toList ds gs before) :
    Calls Try.prog 4 args W fun e W' => ∃ v, e = .returned v ∧ Rows.purseMoreSpec.post eh Try.prog Try.f4 false true false false W args v W' := by
  have hW0 := hW
  obtain ⟨p, q, hA, hV, rfl, hfz, hnd⟩ := hW
  rw [Try.params4] at hA hval
  obtain ⟨v0, vs0, d0, ds0, p0, q0, hargs0, rfl, rfl, h0, r0⟩ := trodAll_cons hA
  obtain ⟨v1, vs1, d1, ds1, p1, q1, hargs1, rfl, rfl, h1, r1⟩ := trodAll_cons r0
  obtain ⟨v2, vs2, d2, ds2, p2, q2, hargs2, rfl, rfl, h2, r2⟩ := trodAll_cons r1
  obtain ⟨rfl, rfl, rfl⟩ := trodAll_nil r2
  obtain rfl : args = #[v0, v1, v2] := by cases args; simp_all
  obtain ⟨rfl, rfl⟩ := trodVars_none hV
  obtain ⟨a0, ok0, av0⟩ := aZo Try.underlying31 rd_31 (hval 0 31 v0 rfl rfl) h0 (aLr)
  obtain ⟨a1, ok1, av1⟩ := bAc Try.underlying22 rd_22 (hval 1 22 v1 rfl rfl) h1 (aLr)
  obtain ⟨a2, ok2, av2⟩ := aZp Try.underlying3 (hval 2 3 v2 rfl rfl) h2 (aLr)
  have hlaw := zG a0 a1 a2 ok0 ok1 ok2
  refine aTv laidOut (by kernel_rfl) Try.underlying4 rfl (by kernel_rfl) hW0 rfl (aCc _ _ _  hlaw) ?_
  exact ⟨av0, av1, av2, trivial⟩

set_option maxRecDepth 100000 in
theorem lifted (os : Os) (started : os.Started) (H : Type) (eh : TypeId × Value → H) :
    ReturnsInHanded {} Try.checked os 4 .any (Rows.purseMoreSpec.pre6 eh Try.prog Try.f4 Rows.purseMoreRow.domain false) (Rows.purseMoreSpec.post eh Try.prog Try.f4 false true false false) := by
  refine returnsInHanded_of_change (C := Try.checked) own started (by kernel_rfl) Try.func4
    (ChangeSpec.witness6 (enc := eh) (C := Try.checked) false ⟨#[], #[(.agg #[.int .i64 0, .slice none 0 0, .slice none 0 0, .slice none 0 0, .int .i64 0, .slice none 0 0, .slice none 0 0, .slice none 0 0, .slice none 0 0]), (.slice none 0 0), (.int .i64 0)], []⟩ 8 (by kernel_rfl) (by kernel_rfl) (by kernel_rfl) (by kernel_rfl)) ?_
  intro W base args ds gs before hval hW hcnd _
  exact contract H eh W base args ds gs before hval hW
theorem purseMore_holds : Rows.PurseMoreSaid :=
  OpenClaim.holds_of_wide 4 Try.f4 rfl rfl rfl rfl rfl rfl rfl ⟨rfl, rfl, rfl, rfl, rfl⟩ rfl rfl rfl rfl rfl (by kernel_rfl) Try.func4 (by kernel_rfl)
    (of_decide_eq_true (by kernel_rfl)) (by unfold Func.isWrapper; first | (rw [if_pos (by decide +kernel)]; kernel_rfl) | (rw [if_neg (by decide +kernel)]; exact ⟨rfl, rfl⟩))
    (fun os started H eh _ => lifted os started H eh)
end Go.Proofs.Ytoflekecpkjghaa
