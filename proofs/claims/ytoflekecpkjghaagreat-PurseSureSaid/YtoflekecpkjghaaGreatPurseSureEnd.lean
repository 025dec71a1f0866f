/- THE LAW PurseSure: whatever the input, the call returns true, and each argument reads behind the call as it read before. No condition. -/
import Derived.Test.YtoflekecpkjghaaGreatAmClose
import Derived.Test.YtoflekecpkjghaaGreatPurseSureSimP2
import Derived.Test.YtoflekecpkjghaaGreatPurseSureLaw
import Derived.Test.YtoflekecpkjghaaGreatRows
namespace Go.Proofs.YtoflekecpkjghaaGreat
open Go.Am Go.ChangeShapes Go.WideShapes Go.ChangeAt Go.RowKit
set_option maxRecDepth 100000
theorem own : ownKnob Tryz.prog.godebug = none := by kernel_rfl
theorem laidOut : laidOutB Tryz.prog = true := by kernel_rfl
theorem rd_22 : Rd Tryz.prog 22 dE (okL okI) := wJ Tryz.underlying22 (by kernel_rfl) (by decide) (kW Tryz.underlying3) (fun _ => rfl)
theorem rd_24 : Rd Tryz.prog 24 aZ aNf := by
  intro H eh w X hX fuel cs x h
  obtain ⟨xs, n, rfl, rfl, hl, hxl, hf⟩ := DataW.trod_struct Tryz.underlying24 h
  have hl : cs.length = 2 := by rw [hl]; kernel_rfl
  have h0 := hf 0 _ rfl
  rw [List.getElem?_eq_getElem (by rw [hxl]; decide)] at h0
  obtain ⟨a0, o0, d0⟩ := (kW Tryz.underlying3) H eh w X hX _ _ _ h0
  have h1 := hf 1 _ rfl
  rw [List.getElem?_eq_getElem (by rw [hxl]; decide)] at h1
  obtain ⟨a1, o1, d1⟩ := rd_22 H eh w X hX _ _ _ h1
  exact ⟨⟨a0, a1⟩, ⟨o0, o1⟩, eJ (o := 0) (k := 1) d0 (eJ (o := 1) (k := 1) d1 (yC hl))⟩
theorem rd_67 : Rd Tryz.prog 67 aJ aHj := by
  intro H eh w X hX fuel cs x h
  obtain ⟨xs, n, rfl, rfl, hl, hxl, hf⟩ := DataW.trod_struct Tryz.underlying67 h
  have hl : cs.length = 5 := by rw [hl]; kernel_rfl
  have h0 := hf 0 _ rfl
  rw [List.getElem?_eq_getElem (by rw [hxl]; decide)] at h0
  obtain ⟨a0, o0, d0⟩ := (kW Tryz.underlying3) H eh w X hX _ _ _ h0
  have h1 := hf 1 _ rfl
  rw [List.getElem?_eq_getElem (by rw [hxl]; decide)] at h1
  obtain ⟨a1, o1, d1⟩ := (kW Tryz.underlying3) H eh w X hX _ _ _ h1
  have h2 := hf 2 _ rfl
  rw [List.getElem?_eq_getElem (by rw [hxl]; decide)] at h2
  obtain ⟨a2, o2, d2⟩ := (kW Tryz.underlying3) H eh w X hX _ _ _ h2
  have h3 := hf 3 _ rfl
  rw [List.getElem?_eq_getElem (by rw [hxl]; decide)] at h3
  obtain ⟨a3, o3, d3⟩ := (kW Tryz.underlying3) H eh w X hX _ _ _ h3
  have h4 := hf 4 _ rfl
  rw [List.getElem?_eq_getElem (by rw [hxl]; decide)] at h4
  obtain ⟨a4, o4, d4⟩ := (kW Tryz.underlying3) H eh w X hX _ _ _ h4
  exact ⟨⟨a0, a1, a2, a3, a4⟩, ⟨o0, o1, o2, o3, o4⟩, eJ (o := 0) (k := 1) d0 (eJ (o := 1) (k := 1) d1 (eJ (o := 2) (k := 1) d2 (eJ (o := 3) (k := 1) d3 (eJ (o := 4) (k := 1) d4 (yC hl)))))⟩
theorem rd_25 : Rd Tryz.prog 25 aNt (okL aHj) := wJ Tryz.underlying25 (by kernel_rfl) (by decide) rd_67 (fun _ => rfl)
theorem rd_46 : Rd Tryz.prog 46 bK aHk := by
  intro H eh w X hX fuel cs x h
  obtain ⟨xs, n, rfl, rfl, hl, hxl, hf⟩ := DataW.trod_struct Tryz.underlying46 h
  have hl : cs.length = 3 := by rw [hl]; kernel_rfl
  have h0 := hf 0 _ rfl
  rw [List.getElem?_eq_getElem (by rw [hxl]; decide)] at h0
  obtain ⟨a0, o0, d0⟩ := (kW Tryz.underlying3) H eh w X hX _ _ _ h0
  have h1 := hf 1 _ rfl
  rw [List.getElem?_eq_getElem (by rw [hxl]; decide)] at h1
  obtain ⟨a1, o1, d1⟩ := (kW Tryz.underlying3) H eh w X hX _ _ _ h1
  have h2 := hf 2 _ rfl
  rw [List.getElem?_eq_getElem (by rw [hxl]; decide)] at h2
  obtain ⟨a2, o2, d2⟩ := (kW Tryz.underlying3) H eh w X hX _ _ _ h2
  exact ⟨⟨a0, a1, a2⟩, ⟨o0, o1, o2⟩, eJ (o := 0) (k := 1) d0 (eJ (o := 1) (k := 1) d1 (eJ (o := 2) (k := 1) d2 (yC hl)))⟩
theorem rd_26 : Rd Tryz.prog 26 aNu (okL aHk) := wJ Tryz.underlying26 (by kernel_rfl) (by decide) rd_46 (fun _ => rfl)
theorem rd_78 : Rd Tryz.prog 78 cX aHh := by
  intro H eh w X hX fuel cs x h
  obtain ⟨xs, n, rfl, rfl, hl, hxl, hf⟩ := DataW.trod_struct Tryz.underlying78 h
  have hl : cs.length = 2 := by rw [hl]; kernel_rfl
  have h0 := hf 0 _ rfl
  rw [List.getElem?_eq_getElem (by rw [hxl]; decide)] at h0
  obtain ⟨a0, o0, d0⟩ := (kW Tryz.underlying3) H eh w X hX _ _ _ h0
  have h1 := hf 1 _ rfl
  rw [List.getElem?_eq_getElem (by rw [hxl]; decide)] at h1
  obtain ⟨a1, o1, d1⟩ := (kW Tryz.underlying3) H eh w X hX _ _ _ h1
  exact ⟨⟨a0, a1⟩, ⟨o0, o1⟩, eJ (o := 0) (k := 1) d0 (eJ (o := 1) (k := 1) d1 (yC hl))⟩
theorem rd_27 : Rd Tryz.prog 27 aNr (okL aHh) := wJ Tryz.underlying27 (by kernel_rfl) (by decide) rd_78 (fun _ => rfl)
theorem rd_80 : Rd Tryz.prog 80 dO aHi := by
  intro H eh w X hX fuel cs x h
  obtain ⟨xs, n, rfl, rfl, hl, hxl, hf⟩ := DataW.trod_struct Tryz.underlying80 h
  have hl : cs.length = 3 := by rw [hl]; kernel_rfl
  have h0 := hf 0 _ rfl
  rw [List.getElem?_eq_getElem (by rw [hxl]; decide)] at h0
  obtain ⟨a0, o0, d0⟩ := (kW Tryz.underlying3) H eh w X hX _ _ _ h0
  have h1 := hf 1 _ rfl
  rw [List.getElem?_eq_getElem (by rw [hxl]; decide)] at h1
  obtain ⟨a1, o1, d1⟩ := (kW Tryz.underlying3) H eh w X hX _ _ _ h1
  have h2 := hf 2 _ rfl
  rw [List.getElem?_eq_getElem (by rw [hxl]; decide)] at h2
  obtain ⟨a2, o2, d2⟩ := (kW Tryz.underlying3) H eh w X hX _ _ _ h2
  exact ⟨⟨a0, a1, a2⟩, ⟨o0, o1, o2⟩, eJ (o := 0) (k := 1) d0 (eJ (o := 1) (k := 1) d1 (eJ (o := 2) (k := 1) d2 (yC hl)))⟩
theorem rd_28 : Rd Tryz.prog 28 aNs (okL aHi) := wJ Tryz.underlying28 (by kernel_rfl) (by decide) rd_80 (fun _ => rfl)
theorem rd_76 : Rd Tryz.prog 76 aD aHg := by
  intro H eh w X hX fuel cs x h
  obtain ⟨xs, n, rfl, rfl, hl, hxl, hf⟩ := DataW.trod_struct Tryz.underlying76 h
  have hl : cs.length = 4 := by rw [hl]; kernel_rfl
  have h0 := hf 0 _ rfl
  rw [List.getElem?_eq_getElem (by rw [hxl]; decide)] at h0
  obtain ⟨a0, o0, d0⟩ := (kW Tryz.underlying3) H eh w X hX _ _ _ h0
  have h1 := hf 1 _ rfl
  rw [List.getElem?_eq_getElem (by rw [hxl]; decide)] at h1
  obtain ⟨a1, o1, d1⟩ := (kW Tryz.underlying3) H eh w X hX _ _ _ h1
  have h2 := hf 2 _ rfl
  rw [List.getElem?_eq_getElem (by rw [hxl]; decide)] at h2
  obtain ⟨a2, o2, d2⟩ := (kW Tryz.underlying3) H eh w X hX _ _ _ h2
  have h3 := hf 3 _ rfl
  rw [List.getElem?_eq_getElem (by rw [hxl]; decide)] at h3
  obtain ⟨a3, o3, d3⟩ := (kW Tryz.underlying3) H eh w X hX _ _ _ h3
  exact ⟨⟨a0, a1, a2, a3⟩, ⟨o0, o1, o2, o3⟩, eJ (o := 0) (k := 1) d0 (eJ (o := 1) (k := 1) d1 (eJ (o := 2) (k := 1) d2 (eJ (o := 3) (k := 1) d3 (yC hl))))⟩
theorem rd_29 : Rd Tryz.prog 29 aNq (okL aHg) := wJ Tryz.underlying29 (by kernel_rfl) (by decide) rd_76 (fun _ => rfl)
theorem rd_31 : Rd Tryz.prog 31 aT aLj := by
  intro H eh w X hX fuel cs x h
  obtain ⟨xs, n, rfl, rfl, hl, hxl, hf⟩ := DataW.trod_struct Tryz.underlying31 h
  have hl : cs.length = 9 := by rw [hl]; kernel_rfl
  have h0 := hf 0 _ rfl
  rw [List.getElem?_eq_getElem (by rw [hxl]; decide)] at h0
  obtain ⟨a0, o0, d0⟩ := rd_24 H eh w X hX _ _ _ h0
  have h1 := hf 1 _ rfl
  rw [List.getElem?_eq_getElem (by rw [hxl]; decide)] at h1
  obtain ⟨a1, o1, d1⟩ := rd_25 H eh w X hX _ _ _ h1
  have h2 := hf 2 _ rfl
  rw [List.getElem?_eq_getElem (by rw [hxl]; decide)] at h2
  obtain ⟨a2, o2, d2⟩ := rd_22 H eh w X hX _ _ _ h2
  have h3 := hf 3 _ rfl
  rw [List.getElem?_eq_getElem (by rw [hxl]; decide)] at h3
  obtain ⟨a3, o3, d3⟩ := (kW Tryz.underlying3) H eh w X hX _ _ _ h3
  have h4 := hf 4 _ rfl
  rw [List.getElem?_eq_getElem (by rw [hxl]; decide)] at h4
  obtain ⟨a4, o4, d4⟩ := rd_26 H eh w X hX _ _ _ h4
  have h5 := hf 5 _ rfl
  rw [List.getElem?_eq_getElem (by rw [hxl]; decide)] at h5
  obtain ⟨a5, o5, d5⟩ := rd_27 H eh w X hX _ _ _ h5
  have h6 := hf 6 _ rfl
  rw [List.getElem?_eq_getElem (by rw [hxl]; decide)] at h6
  obtain ⟨a6, o6, d6⟩ := rd_28 H eh w X hX _ _ _ h6
  have h7 := hf 7 _ rfl
  rw [List.getElem?_eq_getElem (by rw [hxl]; decide)] at h7
  obtain ⟨a7, o7, d7⟩ := rd_29 H eh w X hX _ _ _ h7
  exact ⟨⟨a0, a1, a2, a3, a4, a5, a6, a7⟩, ⟨o0, o1, o2, o3, o4, o5, o6, o7⟩, eJ (o := 0) (k := 2) d0 (eJ (o := 2) (k := 1) d1 (eJ (o := 3) (k := 1) d2 (eJ (o := 4) (k := 1) d3 (eJ (o := 5) (k := 1) d4 (eJ (o := 6) (k := 1) d5 (eJ (o := 7) (k := 1) d6 (eJ (o := 8) (k := 1) d7 (yC hl))))))))⟩
theorem rd_32 : Rd Tryz.prog 32 aSw (okL (okL okI)) := wJ Tryz.underlying32 (by kernel_rfl) (by decide) rd_22 (fun _ => rfl)
theorem contract (H : Type) (eh : TypeId × Value → H) (W : World) (base : Nat) (args : Array Value) (ds gs : List (DataW H)) (before : List MemPlace)
    (hval : ∀ (j : Nat) t v, Tryz.f3.params[j]? = some t → args[j]? = some v → Value.okWide Tryz.prog W .any base t v)
    (hW : DataW.Whole eh Tryz.prog Tryz.f3.params.toList Rows.purseSureSpec.vars false W args.toList ds gs before) :
    Calls Tryz.prog 3 args W fun e W' => ∃ v, e = .returned v ∧ Rows.purseSureSpec.post eh Tryz.prog Tryz.f3 false true false false W args v W' := by
  have hW0 := hW
  obtain ⟨p, q, hA, hV, rfl, hfz, hnd⟩ := hW
  rw [Tryz.params3] at hA hval
  obtain ⟨v0, vs0, d0, ds0, p0, q0, hargs0, rfl, rfl, h0, r0⟩ := trodAll_cons hA
  obtain ⟨v1, vs1, d1, ds1, p1, q1, hargs1, rfl, rfl, h1, r1⟩ := trodAll_cons r0
  obtain ⟨v2, vs2, d2, ds2, p2, q2, hargs2, rfl, rfl, h2, r2⟩ := trodAll_cons r1
  obtain ⟨rfl, rfl, rfl⟩ := trodAll_nil r2
  obtain rfl : args = #[v0, v1, v2] := by cases args; simp_all
  obtain ⟨rfl, rfl⟩ := trodVars_none hV
  obtain ⟨a0, ok0, av0⟩ := bAw Tryz.underlying31 rd_31 (hval 0 31 v0 rfl rfl) h0 (aMl)
  obtain ⟨a1, ok1, av1⟩ := bBj Tryz.underlying32 rd_32 (hval 1 32 v1 rfl rfl) h1 (aMl)
  obtain ⟨a2, ok2, av2⟩ := bAx Tryz.underlying3 (hval 2 3 v2 rfl rfl) h2 (aMl)
  have hlaw := zY a0 a1 a2 ok0 ok1 ok2
  refine aUt laidOut (by kernel_rfl) Tryz.underlying4 rfl (by kernel_rfl) hW0 rfl (aCq _ _ _  hlaw) ?_
  exact ⟨av0, av1, av2, trivial⟩

set_option maxRecDepth 100000 in
theorem lifted (os : Os) (started : os.Started) (H : Type) (eh : TypeId × Value → H) :
    ReturnsInHanded {} Tryz.checked os 3 .any (Rows.purseSureSpec.pre6 eh Tryz.prog Tryz.f3 Rows.purseSureRow.domain false) (Rows.purseSureSpec.post eh Tryz.prog Tryz.f3 false true false false) := by
  refine returnsInHanded_of_change (C := Tryz.checked) own started (by kernel_rfl) Tryz.func3
    (ChangeSpec.witness6 (enc := eh) (C := Tryz.checked) false ⟨#[], #[(.agg #[.int .i64 0, .slice none 0 0, .slice none 0 0, .slice none 0 0, .int .i64 0, .slice none 0 0, .slice none 0 0, .slice none 0 0, .slice none 0 0]), (.slice none 0 0), (.int .i64 0)], []⟩ 8 (by kernel_rfl) (by kernel_rfl) (by kernel_rfl) (by kernel_rfl)) ?_
  intro W base args ds gs before hval hW hcnd _
  exact contract H eh W base args ds gs before hval hW
theorem purseSure_holds : Rows.PurseSureSaid :=
  OpenClaim.holds_of_wide 3 Tryz.f3 rfl rfl rfl rfl rfl rfl rfl ⟨rfl, rfl, rfl, rfl, rfl⟩ rfl rfl rfl rfl rfl (by kernel_rfl) Tryz.func3 (by kernel_rfl)
    (of_decide_eq_true (by kernel_rfl)) (by unfold Func.isWrapper; first | (rw [if_pos (by decide +kernel)]; kernel_rfl) | (rw [if_neg (by decide +kernel)]; exact ⟨rfl, rfl⟩))
    (fun os started H eh _ => lifted os started H eh)
end Go.Proofs.YtoflekecpkjghaaGreat
