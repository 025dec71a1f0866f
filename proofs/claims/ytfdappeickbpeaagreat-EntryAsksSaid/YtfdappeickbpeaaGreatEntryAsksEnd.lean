/- THE LAW EntryAsks: whatever the input, the call returns true, and each argument reads behind the call as it read before. No condition. -/
import Derived.Test.YtfdappeickbpeaaGreatAmClose
import Derived.Test.YtfdappeickbpeaaGreatEntryAsksSimP4
import Derived.Test.YtfdappeickbpeaaGreatEntryAsksLaw
import Derived.Test.YtfdappeickbpeaaGreatRows
namespace Go.Proofs.YtfdappeickbpeaaGreat
open Go.Am Go.ChangeShapes Go.WideShapes Go.ChangeAt Go.RowKit
set_option maxRecDepth 100000
theorem own : ownKnob Tryz.prog.godebug = none := by kernel_rfl
theorem laidOut : laidOutB Tryz.prog = true := by kernel_rfl
theorem rd_23 : Rd Tryz.prog 23 aQ aIc := by
  intro H eh w X hX fuel cs x h
  obtain ⟨xs, n, rfl, rfl, hl, hxl, hf⟩ := DataW.trod_struct Tryz.underlying23 h
  have hl : cs.length = 5 := by rw [hl]; kernel_rfl
  have h0 := hf 0 _ rfl
  rw [List.getElem?_eq_getElem (by rw [hxl]; decide)] at h0
  obtain ⟨a0, o0, d0⟩ := (rZ Tryz.underlying3) H eh w X hX _ _ _ h0
  have h1 := hf 1 _ rfl
  rw [List.getElem?_eq_getElem (by rw [hxl]; decide)] at h1
  obtain ⟨a1, o1, d1⟩ := (rZ Tryz.underlying3) H eh w X hX _ _ _ h1
  have h2 := hf 2 _ rfl
  rw [List.getElem?_eq_getElem (by rw [hxl]; decide)] at h2
  obtain ⟨a2, o2, d2⟩ := (rZ Tryz.underlying3) H eh w X hX _ _ _ h2
  have h3 := hf 3 _ rfl
  rw [List.getElem?_eq_getElem (by rw [hxl]; decide)] at h3
  obtain ⟨a3, o3, d3⟩ := (rZ Tryz.underlying3) H eh w X hX _ _ _ h3
  have h4 := hf 4 _ rfl
  rw [List.getElem?_eq_getElem (by rw [hxl]; decide)] at h4
  obtain ⟨a4, o4, d4⟩ := (rZ Tryz.underlying3) H eh w X hX _ _ _ h4
  exact ⟨⟨a0, a1, a2, a3, a4⟩, ⟨o0, o1, o2, o3, o4⟩, mI (o := 0) (k := 1) d0 (mI (o := 1) (k := 1) d1 (mI (o := 2) (k := 1) d2 (mI (o := 3) (k := 1) d3 (mI (o := 4) (k := 1) d4 (aIp hl)))))⟩
theorem rd_32 : Rd Tryz.prog 32 aJ aBc := by
  intro H eh w X hX fuel cs x h
  obtain ⟨xs, n, rfl, rfl, hl, hxl, hf⟩ := DataW.trod_struct Tryz.underlying32 h
  have hl : cs.length = 5 := by rw [hl]; kernel_rfl
  have h0 := hf 0 _ rfl
  rw [List.getElem?_eq_getElem (by rw [hxl]; decide)] at h0
  obtain ⟨a0, o0, d0⟩ := (rZ Tryz.underlying3) H eh w X hX _ _ _ h0
  have h1 := hf 1 _ rfl
  rw [List.getElem?_eq_getElem (by rw [hxl]; decide)] at h1
  obtain ⟨a1, o1, d1⟩ := (rZ Tryz.underlying3) H eh w X hX _ _ _ h1
  have h2 := hf 2 _ rfl
  rw [List.getElem?_eq_getElem (by rw [hxl]; decide)] at h2
  obtain ⟨a2, o2, d2⟩ := (rZ Tryz.underlying3) H eh w X hX _ _ _ h2
  have h3 := hf 3 _ rfl
  rw [List.getElem?_eq_getElem (by rw [hxl]; decide)] at h3
  obtain ⟨a3, o3, d3⟩ := (rZ Tryz.underlying3) H eh w X hX _ _ _ h3
  have h4 := hf 4 _ rfl
  rw [List.getElem?_eq_getElem (by rw [hxl]; decide)] at h4
  obtain ⟨a4, o4, d4⟩ := (rZ Tryz.underlying3) H eh w X hX _ _ _ h4
  exact ⟨⟨a0, a1, a2, a3, a4⟩, ⟨o0, o1, o2, o3, o4⟩, mI (o := 0) (k := 1) d0 (mI (o := 1) (k := 1) d1 (mI (o := 2) (k := 1) d2 (mI (o := 3) (k := 1) d3 (mI (o := 4) (k := 1) d4 (aIp hl)))))⟩
theorem rd_24 : Rd Tryz.prog 24 aHl (okL aBc) := aVh Tryz.underlying24 (by kernel_rfl) (by decide) rd_32 (fun _ => rfl)
theorem rd_54 : Rd Tryz.prog 54 tM yK := by
  intro H eh w X hX fuel cs x h
  obtain ⟨xs, n, rfl, rfl, hl, hxl, hf⟩ := DataW.trod_struct Tryz.underlying54 h
  have hl : cs.length = 2 := by rw [hl]; kernel_rfl
  have h0 := hf 0 _ rfl
  rw [List.getElem?_eq_getElem (by rw [hxl]; decide)] at h0
  obtain ⟨a0, o0, d0⟩ := (rZ Tryz.underlying3) H eh w X hX _ _ _ h0
  have h1 := hf 1 _ rfl
  rw [List.getElem?_eq_getElem (by rw [hxl]; decide)] at h1
  obtain ⟨a1, o1, d1⟩ := (rZ Tryz.underlying3) H eh w X hX _ _ _ h1
  exact ⟨⟨a0, a1⟩, ⟨o0, o1⟩, mI (o := 0) (k := 1) d0 (mI (o := 1) (k := 1) d1 (aIp hl))⟩
theorem contract (H : Type) (eh : TypeId × Value → H) (W : World) (base : Nat) (args : Array Value) (ds gs : List (DataW H)) (before : List MemPlace)
    (hval : ∀ (j : Nat) t v, Tryz.f10.params[j]? = some t → args[j]? = some v → Value.okWide Tryz.prog W .any base t v)
    (hW : DataW.Whole eh Tryz.prog Tryz.f10.params.toList Rows.entryAsksSpec.vars false W args.toList ds gs before) :
    Calls Tryz.prog 10 args W fun e W' => ∃ v, e = .returned v ∧ Rows.entryAsksSpec.post eh Tryz.prog Tryz.f10 false true false false W args v W' := by
  have hW0 := hW
  obtain ⟨p, q, hA, hV, rfl, hfz, hnd⟩ := hW
  rw [Tryz.params10] at hA hval
  obtain ⟨v0, vs0, d0, ds0, p0, q0, hargs0, rfl, rfl, h0, r0⟩ := trodAll_cons hA
  obtain ⟨v1, vs1, d1, ds1, p1, q1, hargs1, rfl, rfl, h1, r1⟩ := trodAll_cons r0
  obtain ⟨v2, vs2, d2, ds2, p2, q2, hargs2, rfl, rfl, h2, r2⟩ := trodAll_cons r1
  obtain ⟨rfl, rfl, rfl⟩ := trodAll_nil r2
  obtain rfl : args = #[v0, v1, v2] := by cases args; simp_all
  obtain ⟨rfl, rfl⟩ := trodVars_none hV
  obtain ⟨a0, ok0, av0⟩ := aTq Tryz.underlying23 rd_23 (hval 0 23 v0 rfl rfl) h0 (aJc)
  obtain ⟨a1, ok1, av1⟩ := aZq Tryz.underlying24 rd_24 (hval 1 24 v1 rfl rfl) h1 (aJc)
  obtain ⟨a2, ok2, av2⟩ := aTq Tryz.underlying54 rd_54 (hval 2 54 v2 rfl rfl) h2 (aJc)
  have hlaw := yO a0 a1 a2 ok0 ok1 ok2
  refine aSl laidOut (by kernel_rfl) Tryz.underlying4 rfl (by kernel_rfl) hW0 rfl (aAw _ _ _  hlaw) ?_
  exact ⟨av0, av1, av2, trivial⟩

set_option maxRecDepth 100000 in
theorem lifted (os : Os) (started : os.Started) (H : Type) (eh : TypeId × Value → H) :
    ReturnsInHanded {} Tryz.checked os 10 .any (Rows.entryAsksSpec.pre6 eh Tryz.prog Tryz.f10 Rows.entryAsksRow.domain false) (Rows.entryAsksSpec.post eh Tryz.prog Tryz.f10 false true false false) := by
  refine returnsInHanded_of_change (C := Tryz.checked) own started (by kernel_rfl) Tryz.func10
    (ChangeSpec.witness6 (enc := eh) (C := Tryz.checked) false ⟨#[], #[(.agg #[.int .i64 0, .int .i64 0, .int .i64 0, .int .i64 0, .int .i64 0]), (.slice none 0 0), (.agg #[.int .i64 0, .int .i64 0])], []⟩ 8 (by kernel_rfl) (by kernel_rfl) (by kernel_rfl) (by kernel_rfl)) ?_
  intro W base args ds gs before hval hW hcnd _
  exact contract H eh W base args ds gs before hval hW
theorem entryAsks_holds : Rows.EntryAsksSaid :=
  OpenClaim.holds_of_wide 10 Tryz.f10 rfl rfl rfl rfl rfl rfl rfl ⟨rfl, rfl, rfl, rfl, rfl⟩ rfl rfl rfl rfl rfl (by kernel_rfl) Tryz.func10 (by kernel_rfl)
    (of_decide_eq_true (by kernel_rfl)) (by unfold Func.isWrapper; first | (rw [if_pos (by decide +kernel)]; kernel_rfl) | (rw [if_neg (by decide +kernel)]; exact ⟨rfl, rfl⟩))
    (fun os started H eh _ => lifted os started H eh)
end Go.Proofs.YtfdappeickbpeaaGreat
