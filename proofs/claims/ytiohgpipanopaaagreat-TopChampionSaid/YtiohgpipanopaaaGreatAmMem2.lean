/- The program logic 'Am': slices and structs that a call makes; calls. -/
import Derived.Test.YtiohgpipanopaaaGreatAmMem
import Derived.Laws.MakeOwn
namespace Go.Am
theorem aEj : ∀ (vs : List Value) (off k : Nat) (cs : Array Value), off + k + vs.length ≤ cs.size →
  ((vs.zipIdx k).foldl (fun cs x => cs.setIfInBounds (off + x.2) x.1) cs).toList = cs.toList.take (off + k) ++ vs ++ cs.toList.drop (off + k + vs.length)
 | [], off, k, cs, _ => by simp
 | v :: vs, off, k, cs, h => by
  simp only [List.length_cons] at h
  simp only [List.zipIdx_cons, List.foldl_cons]
  rw [aEj vs off (k + 1) (cs.setIfInBounds (off + k) v) (by simp; omega)]
  rw [Array.toList_setIfInBounds]
  have hl : off + k < cs.toList.length := by simp; omega
  rw [show off + (k + 1) = off + k + 1 by omega, List.take_succ_eq_append_getElem (by simpa using hl), List.take_set_of_le (by omega)]
  rw [List.drop_set_of_lt (by omega)]
  simp only [List.getElem_set_self, List.length_cons, List.append_assoc, List.singleton_append, List.cons_append, List.nil_append]
  rw [show off + k + 1 + vs.length = off + k + (vs.length + 1) by omega]
def aIr (place : Nat → Option (Nat × Nat)) (ds : List D) : List (Nat × AV) → Option (List D)
 | [] => some ds
 | (i, x) :: rest =>
  match place i, x.cells with
  | some (off, size), some es => if es.length = size ∧ off + es.length ≤ ds.length then aIr place (pK ds off es) rest else none
  | _, _ => none
def PRs (w : World) (X : bZ) : List (Nat × AV) → List (Nat × Value) → Prop
 | [], [] => True
 | (i, x) :: l, (j, v) :: l' => i = j ∧ VR w X x v ∧ PRs w X l l'
 | _, _ => False
theorem aNd {w : World} {X : bZ} {place : Nat → Option (Nat × Nat)} : ∀ {l : List (Nat × AV)} {l' : List (Nat × Value)} {ds ds' : List D} {cs : Array Value},
  DRs w X ds cs.toList → PRs w X l l' → aIr place ds l = some ds' → ∃ cs', Instr.fill place cs l' = some cs' ∧ DRs w X ds' cs'.toList
 | [], [], ds, ds', cs, h, _, hf => by
  simp only [aIr, Option.some.injEq] at hf
  subst hf
  exact ⟨cs, rfl, h⟩
 | (i, x) :: l, (j, v) :: l', ds, ds', cs, h, hp, hf => by
  obtain ⟨rfl, hv, hp'⟩ := hp
  simp only [aIr] at hf
  split at hf
  ·rename_i off size es hpl hcell
   split at hf
   ·rename_i hcond
    obtain ⟨h1, h2⟩ := hcond
    have hes := hv.cells hcell
    have hle := hes.length
    have hlc := h.length
    simp only [Array.length_toList] at hle hlc
    have hfold := aEj v.cells.toList off 0 cs (by simp; omega)
    simp only [Nat.add_zero] at hfold
    have harr : v.cells.zipIdx.foldl (fun cs (c, j) => cs.setIfInBounds (off + j) c) cs = (cs.toList.take off ++ v.cells.toList ++ cs.toList.drop (off + v.cells.toList.length)).toArray := by
     apply Array.ext'
     rw [← hfold, ← Array.foldl_toList]
     simp
    have hd' : DRs w X (pK ds off es) (cs.toList.take off ++ v.cells.toList ++ cs.toList.drop (off + v.cells.toList.length)) := by
     unfold pK
     rw [show v.cells.toList.length = es.length by simp; omega]
     exact ((h.take off).append hes).append (h.drop _)
    obtain ⟨cs', hc1, hc2⟩ := aNd (l := l) (l' := l') (cs := (cs.toList.take off ++ v.cells.toList ++ cs.toList.drop (off + v.cells.toList.length)).toArray) (by simpa using hd') hp' hf
    refine ⟨cs', ?_, hc2⟩
    simp only [Instr.fill, hpl, harr]
    rw [if_neg (by simp; omega)]
    exact hc1
   ·cases hf
  ·cases hf
section
variable {P : Program} {n d : Nat} {st : St} {o : Oper}
def St.parts (st : St) : List (Nat × Operand) → List (Nat × AV)
 | [] => []
 | (i, x) :: l => (i, st.eval x) :: St.parts st l
def yT : List (Nat × Operand) → Bool
 | [] => true
 | (_, x) :: l => eC x && yT l
theorem aAg {A M : bZ} {w0 : W0} {a : Act} {w : World} (hR : R A M w0 n st a w) : ∀ {l : List (Nat × Operand)}, yT l = true →
  PRs w (bN A st.objs) (st.parts l) (l.map fun (i, x) => (i, a.eval x))
 | [], _ => trivial
 | (i, x) :: l, h => by
  simp only [yT, Bool.and_eq_true] at h
  exact ⟨rfl, hR.eval' h.1, aAg hR h.2⟩
def iP (P : Program) (t : TypeId) (z : Value) (pl : List (Nat × Nat)) : Prop :=
 (∀ w, (zeroValue t).run P w = .ok z w) ∧ ∃ fs, (∀ w, (underlying t).run P w = .ok (.struct fs) w) ∧
  (∀ w, (fs.mapM fun f => (do pure (f.offset, ← sizeOf f.type) : Sem (Nat × Nat))).run P w = .ok pl.toArray w)
theorem cQ {t : TypeId} {z : Value} {pl : List (Nat × Nat)} {l : List (Nat × Operand)} {zs es : List D} {ty : TypeId} {pos : String} {af : Array Edge} {gd : Option (Nat × Bool)} (hd : d < n)
  (ht : iP P t z pl) (hzs : z.cells = (zs.map bJ).toArray) (hok : zOK zs = true) (hp : yT l = true) {ps : List (Nat × AV)} (hps : st.parts l = ps) (he : aIr (fun i => pl[i]?) zs ps = some es) :
  bR P n ⟨some d, .build t l.toArray, ty, pos, af, gd⟩ st (st.set d (.agg es)) :=
 dE rfl hd fun A M w0 a w hR => by
  replace hps := hps.symm; subst hps
  obtain ⟨hz, fs, hu, hm⟩ := ht
  obtain ⟨cs', h1, h2⟩ := aNd (place := fun i => pl[i]?) (cs := (zs.map bJ).toArray) (by simpa using zU (w := w) (X := bN A st.objs) hok) (aAg hR hp) he
  refine ⟨.agg cs', ?_, .agg h2⟩
  have h1' : Instr.fill (fun x => pl.toArray[x]?) (zs.map bJ).toArray (l.map fun (i, x) => (i, a.eval x)) = some cs' := by
   rw [← h1]; congr 1; funext i; simp
  simp only [execOp, Instr.build, Sem.run_bind, hz, Result.andThen_ok, hu, hm, hzs, List.map_toArray]
  rw [h1']
  simp
def zP : Nat → List (Nat × AV) → Option (List (List D))
 | _, [] => some []
 | k, (i, x) :: l => match x.cells, zP (k + 1) l with
  | some ds, some rows => if i = k then some (ds :: rows) else none
  | _, _ => none
theorem aKu {w : World} {X : bZ} {size len : Nat} : ∀ {l : List (Nat × AV)} {l' : List (Nat × Value)} {k : Nat} {rows : List (List D)} {cs : Array Value} {pre : List Value}, PRs w X l l' → zP k l = some rows → (∀ r ∈ rows, r.length = size) →
  cs.toList.take (k * size) = pre → cs.size = len * size → k + rows.length = len →
  ∃ vs, Instr.fill (fun i => some (i * size, size)) cs l' = some (pre ++ vs).toArray ∧ DRs w X rows.flatten vs
 | [], [], k, rows, cs, pre, _, hr, hs, hpre, hc, hl => by
  simp only [zP, Option.some.injEq] at hr
  subst hr
  refine ⟨[], ?_, trivial⟩
  simp only [List.length_nil, Nat.add_zero] at hl
  subst hl
  rw [List.take_of_length_le (by simp [hc])] at hpre
  subst hpre
  simp [Instr.fill]
 | (i, x) :: l, (j, v) :: l', k, rows, cs, pre, hp, hr, hs, hpre, hc, hl => by
  obtain ⟨rfl, hv, hp'⟩ := hp
  simp only [zP] at hr
  split at hr
  ·rename_i ds rows' hcell hrows'
   split at hr
   ·rename_i hik
    subst hik
    cases hr
    have hes := hv.cells hcell
    have hle := hes.length
    have hds : ds.length = size := hs ds (by simp)
    simp only [Array.length_toList] at hle
    simp only [List.length_cons] at hl
    have hsum : i * size + size ≤ cs.size := by rw [hc, ← hl, ← Nat.succ_mul]; exact Nat.mul_le_mul_right _ (by omega)
    have hfold := aEj v.cells.toList (i * size) 0 cs (by simp; omega)
    simp only [Nat.add_zero] at hfold
    have harr : v.cells.zipIdx.foldl (fun cs (c, j) => cs.setIfInBounds (i * size + j) c) cs = (cs.toList.take (i * size) ++ v.cells.toList ++ cs.toList.drop (i * size + v.cells.toList.length)).toArray := by
     apply Array.ext'
     rw [← hfold, ← Array.foldl_toList]
     simp
    have hvl : v.cells.toList.length = size := by simp; omega
    obtain ⟨vs, h1, h2⟩ := aKu (l := l) (l' := l') (k := i + 1) (len := len) (size := size) (cs := (cs.toList.take (i * size) ++ v.cells.toList ++ cs.toList.drop (i * size + v.cells.toList.length)).toArray) (pre := pre ++ v.cells.toList) hp' hrows'
     (fun r h => hs r (List.mem_cons_of_mem _ h)) (by
      rw [← hpre, Nat.succ_mul, List.toList_toArray]
      rw [List.take_append_of_le_length (by simp; omega), List.take_of_length_le (by simp; omega)])
     (by simp only [List.size_toArray, List.length_append, List.length_take, List.length_drop, hvl, Array.length_toList]; omega) (by omega)
    refine ⟨v.cells.toList ++ vs, ?_, by simpa using hes.append h2⟩
    simp only [Instr.fill, harr]
    rw [if_neg (by simp; omega), ← List.append_assoc]
    exact h1
   ·cases hr
  ·cases hr
theorem aBn {t e k : Nat} (ht : jV P t e k) {z : Value} (hz : ∀ w, (zeroValue e).run P w = .ok z w) (hzc : z.cells.size = k) {w : World} {X : bZ} {len : Nat} {l : List (Nat × AV)} {l' : List (Nat × Value)} {rows : List (List D)}
  (hp : PRs w X l l') (hr : zP 0 l = some rows) (hk : ∀ r ∈ rows, r.length = k) (hl : rows.length = len) (hb : len * k ≤ 16777216) :
  ∃ vs, (Instr.buildSlice t len l'.toArray).run P w = .ok (.slice (some ⟨w.heap.size, 0, none⟩) len len) (w.alloc (.cells vs.toArray e)) ∧ DRs w X rows.flatten vs := by
 have key : ∀ cs : Array Value, cs.size = len * k →
   ∃ vs, Instr.fill (fun i => some (i * k, k)) cs l' = some vs.toArray ∧ DRs w X rows.flatten vs := by
  intro cs hcs
  obtain ⟨vs, h1, h2⟩ := aKu (l := l) (l' := l') (k := 0) (len := len) (size := k) (cs := cs) (pre := []) hp hr hk (by simp) hcs (by omega)
  exact ⟨vs, by simpa using h1, h2⟩
 by_cases h0 : len * k = 0
 ·obtain ⟨vs, h1, h2⟩ := key ((Array.range (len * k)).map ((#[] : Array Value)[· % (#[] : Array Value).size]!)) (by simp)
  refine ⟨vs, ?_, h2⟩
  simp only [Instr.buildSlice, Sem.run_bind, ht.1, ht.2, Result.andThen_ok, h0, if_true]
  rw [h0, Array.range_zero', Array.map_empty] at h1
  simp [newRow, Array.range_zero', h1]
 ·obtain ⟨vs, h1, h2⟩ := key ((Array.range (len * k)).map (z.cells[· % z.cells.size]!)) (by simp)
  refine ⟨vs, ?_, h2⟩
  simp only [Instr.buildSlice, Sem.run_bind, ht.1, ht.2, Result.andThen_ok, h0, if_false, show ¬ 2 ^ 24 < len * k by omega, gt_iff_lt, hz, Sem.run_pure, h1]
  simp [newRow]
end
end Go.Am
