/- THE LAW TopChampion: whatever the input, the call returns true, and each argument reads behind the call as it read before. No condition. -/
import Derived.Test.YtiohgpipanopaaaGreatAmClose
import Derived.Test.YtiohgpipanopaaaGreatTopChampionSimP3
import Derived.Test.YtiohgpipanopaaaGreatTopChampionLaw
import Derived.Test.YtiohgpipanopaaaGreatRows
namespace Go.Proofs.YtiohgpipanopaaaGreat
open Go.Am Go.ChangeShapes Go.WideShapes Go.ChangeAt Go.RowKit
set_option maxRecDepth 100000
theorem own : ownKnob Tryz.prog.godebug = none := by kernel_rfl
theorem laidOut : laidOutB Tryz.prog = true := by kernel_rfl
theorem rd_23 : Rd Tryz.prog 23 uP (okL okI) := aNy Tryz.underlying23 (by kernel_rfl) (by decide) (tV Tryz.underlying3) (fun _ => rfl)
theorem rd_38 : Rd Tryz.prog 38 aZ aLg := by
  intro H eh w X hX fuel cs x h
  obtain ⟨xs, n, rfl, rfl, hl, hxl, hf⟩ := DataW.trod_struct Tryz.underlying38 h
  have hl : cs.length = 2 := by rw [hl]; kernel_rfl
  have h0 := hf 0 _ rfl
  rw [List.getElem?_eq_getElem (by rw [hxl]; decide)] at h0
  obtain ⟨a0, o0, d0⟩ := (tV Tryz.underlying3) H eh w X hX _ _ _ h0
  have h1 := hf 1 _ rfl
  rw [List.getElem?_eq_getElem (by rw [hxl]; decide)] at h1
  obtain ⟨a1, o1, d1⟩ := rd_23 H eh w X hX _ _ _ h1
  exact ⟨⟨a0, a1⟩, ⟨o0, o1⟩, jI (o := 0) (k := 1) d0 (jI (o := 1) (k := 1) d1 (aJy hl))⟩
theorem rd_72 : Rd Tryz.prog 72 aO aGs := by
  intro H eh w X hX fuel cs x h
  obtain ⟨xs, n, rfl, rfl, hl, hxl, hf⟩ := DataW.trod_struct Tryz.underlying72 h
  have hl : cs.length = 10 := by rw [hl]; kernel_rfl
  have h0 := hf 0 _ rfl
  rw [List.getElem?_eq_getElem (by rw [hxl]; decide)] at h0
  obtain ⟨a0, o0, d0⟩ := (tV Tryz.underlying3) H eh w X hX _ _ _ h0
  have h1 := hf 1 _ rfl
  rw [List.getElem?_eq_getElem (by rw [hxl]; decide)] at h1
  obtain ⟨a1, o1, d1⟩ := (tV Tryz.underlying3) H eh w X hX _ _ _ h1
  have h2 := hf 2 _ rfl
  rw [List.getElem?_eq_getElem (by rw [hxl]; decide)] at h2
  obtain ⟨a2, o2, d2⟩ := (aPy Tryz.underlying4) H eh w X hX _ _ _ h2
  have h3 := hf 3 _ rfl
  rw [List.getElem?_eq_getElem (by rw [hxl]; decide)] at h3
  obtain ⟨a3, o3, d3⟩ := (tV Tryz.underlying3) H eh w X hX _ _ _ h3
  have h4 := hf 4 _ rfl
  rw [List.getElem?_eq_getElem (by rw [hxl]; decide)] at h4
  obtain ⟨a4, o4, d4⟩ := (tV Tryz.underlying3) H eh w X hX _ _ _ h4
  have h5 := hf 5 _ rfl
  rw [List.getElem?_eq_getElem (by rw [hxl]; decide)] at h5
  obtain ⟨a5, o5, d5⟩ := (tV Tryz.underlying3) H eh w X hX _ _ _ h5
  have h6 := hf 6 _ rfl
  rw [List.getElem?_eq_getElem (by rw [hxl]; decide)] at h6
  obtain ⟨a6, o6, d6⟩ := (tV Tryz.underlying3) H eh w X hX _ _ _ h6
  have h7 := hf 7 _ rfl
  rw [List.getElem?_eq_getElem (by rw [hxl]; decide)] at h7
  obtain ⟨a7, o7, d7⟩ := (tV Tryz.underlying3) H eh w X hX _ _ _ h7
  have h8 := hf 8 _ rfl
  rw [List.getElem?_eq_getElem (by rw [hxl]; decide)] at h8
  obtain ⟨a8, o8, d8⟩ := (tV Tryz.underlying3) H eh w X hX _ _ _ h8
  have h9 := hf 9 _ rfl
  rw [List.getElem?_eq_getElem (by rw [hxl]; decide)] at h9
  obtain ⟨a9, o9, d9⟩ := (aPy Tryz.underlying4) H eh w X hX _ _ _ h9
  exact ⟨⟨a0, a1, a2, a3, a4, a5, a6, a7, a8, a9⟩, ⟨o0, o1, o2, o3, o4, o5, o6, o7, o8, o9⟩, jI (o := 0) (k := 1) d0 (jI (o := 1) (k := 1) d1 (jI (o := 2) (k := 1) d2 (jI (o := 3) (k := 1) d3 (jI (o := 4) (k := 1) d4 (jI (o := 5) (k := 1) d5 (jI (o := 6) (k := 1) d6 (jI (o := 7) (k := 1) d7 (jI (o := 8) (k := 1) d8 (jI (o := 9) (k := 1) d9 (aJy hl))))))))))⟩
theorem rd_73 : Rd Tryz.prog 73 aQp (okL (okL okI)) := aNy Tryz.underlying73 (by kernel_rfl) (by decide) rd_23 (fun _ => rfl)
theorem rd_75 : Rd Tryz.prog 75 eJ xS := by
  intro H eh w X hX fuel cs x h
  obtain ⟨xs, n, rfl, rfl, hl, hxl, hf⟩ := DataW.trod_struct Tryz.underlying75 h
  have hl : cs.length = 2 := by rw [hl]; kernel_rfl
  have h0 := hf 0 _ rfl
  rw [List.getElem?_eq_getElem (by rw [hxl]; decide)] at h0
  obtain ⟨a0, o0, d0⟩ := rd_23 H eh w X hX _ _ _ h0
  have h1 := hf 1 _ rfl
  rw [List.getElem?_eq_getElem (by rw [hxl]; decide)] at h1
  obtain ⟨a1, o1, d1⟩ := rd_73 H eh w X hX _ _ _ h1
  exact ⟨⟨a0, a1⟩, ⟨o0, o1⟩, jI (o := 0) (k := 1) d0 (jI (o := 1) (k := 1) d1 (aJy hl))⟩
theorem contract (H : Type) (eh : TypeId × Value → H) (W : World) (base : Nat) (args : Array Value) (ds gs : List (DataW H)) (before : List MemPlace)
    (hval : ∀ (j : Nat) t v, Tryz.f5.params[j]? = some t → args[j]? = some v → Value.okWide Tryz.prog W .any base t v)
    (hW : DataW.Whole eh Tryz.prog Tryz.f5.params.toList Rows.topChampionSpec.vars false W args.toList ds gs before) :
    Calls Tryz.prog 5 args W fun e W' => ∃ v, e = .returned v ∧ Rows.topChampionSpec.post eh Tryz.prog Tryz.f5 false true false false W args v W' := by
  have hW0 := hW
  obtain ⟨p, q, hA, hV, rfl, hfz, hnd⟩ := hW
  rw [Tryz.params5] at hA hval
  obtain ⟨v0, vs0, d0, ds0, p0, q0, hargs0, rfl, rfl, h0, r0⟩ := trodAll_cons hA
  obtain ⟨v1, vs1, d1, ds1, p1, q1, hargs1, rfl, rfl, h1, r1⟩ := trodAll_cons r0
  obtain ⟨v2, vs2, d2, ds2, p2, q2, hargs2, rfl, rfl, h2, r2⟩ := trodAll_cons r1
  obtain ⟨rfl, rfl, rfl⟩ := trodAll_nil r2
  obtain rfl : args = #[v0, v1, v2] := by cases args; simp_all
  obtain ⟨rfl, rfl⟩ := trodVars_none hV
  obtain ⟨a0, ok0, av0⟩ := aOr Tryz.underlying38 rd_38 (hval 0 38 v0 rfl rfl) h0 (aKd)
  obtain ⟨a1, ok1, av1⟩ := aOr Tryz.underlying72 rd_72 (hval 1 72 v1 rfl rfl) h1 (aKd)
  obtain ⟨a2, ok2, av2⟩ := aOr Tryz.underlying75 rd_75 (hval 2 75 v2 rfl rfl) h2 (aKd)
  have hlaw := yC a0 a1 a2 ok0 ok1 ok2
  refine aSx laidOut (by kernel_rfl) Tryz.underlying4 rfl (by kernel_rfl) hW0 rfl (aAr _ _ _  hlaw) ?_
  exact ⟨av0, av1, av2, trivial⟩

set_option maxRecDepth 100000 in
theorem lifted (os : Os) (started : os.Started) (H : Type) (eh : TypeId × Value → H) :
    ReturnsInHanded {} Tryz.checked os 5 .any (Rows.topChampionSpec.pre6 eh Tryz.prog Tryz.f5 Rows.topChampionRow.domain false) (Rows.topChampionSpec.post eh Tryz.prog Tryz.f5 false true false false) := by
  refine returnsInHanded_of_change (C := Tryz.checked) own started (by kernel_rfl) Tryz.func5
    (ChangeSpec.witness6 (enc := eh) (C := Tryz.checked) false ⟨#[], #[(.agg #[.int .i64 0, .slice none 0 0]), (.agg #[.int .i64 0, .int .i64 0, .bool false, .int .i64 0, .int .i64 0, .int .i64 0, .int .i64 0, .int .i64 0, .int .i64 0, .bool false]), (.agg #[.slice none 0 0, .slice none 0 0])], []⟩ 8 (by kernel_rfl) (by kernel_rfl) (by kernel_rfl) (by kernel_rfl)) ?_
  intro W base args ds gs before hval hW hcnd _
  exact contract H eh W base args ds gs before hval hW
theorem topChampion_holds : Rows.TopChampionSaid :=
  OpenClaim.holds_of_wide 5 Tryz.f5 rfl rfl rfl rfl rfl rfl rfl ⟨rfl, rfl, rfl, rfl, rfl⟩ rfl rfl rfl rfl rfl (by kernel_rfl) Tryz.func5 (by kernel_rfl)
    (of_decide_eq_true (by kernel_rfl)) (by unfold Func.isWrapper; first | (rw [if_pos (by decide +kernel)]; kernel_rfl) | (rw [if_neg (by decide +kernel)]; exact ⟨rfl, rfl⟩))
    (fun os started H eh _ => lifted os started H eh)
end Go.Proofs.YtiohgpipanopaaaGreat
