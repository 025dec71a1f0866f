/- The program logic 'Am': operations that make or write memory. -/
import Derived.Test.YtiohgpipanopaaaGreatAmOps
import Derived.Laws.IdiomCopy
namespace Go.Am
theorem Keeps.alloc (Z : bZ) (w : World) (o : Obj) : Keeps Z w (w.alloc o) :=
  ⟨rfl, rfl, rfl, by simp, fun b hb _ => heap_alloc_old w o b hb, fun b _ hb _ => World.cell?_alloc_lt w o _ hb,
   fun b _ hb _ => World.frozen?_alloc_old w o ⟨b, _, none⟩ (Nat.ne_of_lt hb), Nat.le_refl _⟩
theorem Keeps.drew (Z : bZ) (w : World) : Keeps Z w w.drew :=
 ⟨rfl, rfl, rfl, Nat.le_refl _, fun _ _ _ => rfl, fun _ _ _ _ => rfl, fun _ _ _ _ => rfl, Nat.le_succ _⟩
theorem zG (b : Nat) : ∀ (vs : List Value) (o : Nat) (w : World) (i : Nat), i ≠ b → (w.setCells b o vs).heap[i]? = w.heap[i]?
 | [], _, _, _, _ => rfl
 | v :: vs, o, w, i, h => by
  rw [World.setCells, zG b vs _ _ i h, heap_setCell_other _ _ _ _ h]
theorem aFj (b : Nat) : ∀ (vs : List Value) (o : Nat) (w : World), (w.setCells b o vs).os = w.os ∧ (w.setCells b o vs).tape = w.tape ∧ (w.setCells b o vs).output = w.output ∧ (w.setCells b o vs).heap.size = w.heap.size ∧ (w.setCells b o vs).drawn = w.drawn
 | [], _, _ => ⟨rfl, rfl, rfl, rfl, rfl⟩
 | v :: vs, o, w => by
  rw [World.setCells]
  have := aFj b vs (o + 1) (w.setCell ⟨b, o, none⟩ v)
  simpa [World.setCell] using this
theorem Keeps.setCells (w : World) (b o : Nat) (vs : List Value) {Z : bZ} (hz : ∀ y, o ≤ y → y < o + vs.length → Z b y) (hne : vs ≠ []) : Keeps Z w (w.setCells b o vs) := by
 have hf := aFj b vs o w
 refine ⟨hf.1, hf.2.1, hf.2.2.1, by rw [hf.2.2.2.1]; exact Nat.le_refl _, fun i hi h => ?_, fun i y hi h => ?_, fun _ _ _ _ => World.frozen?_setCells b vs o w _, by rw [hf.2.2.2.2]; exact Nat.le_refl _⟩
 ·by_cases hib : i = b
  ·subst hib
   have : 0 < vs.length := List.length_pos_iff.2 hne
   exact absurd (hz o (Nat.le_refl _) (by omega)) (h o)
  ·exact zG b vs o w i hib
 ·refine World.cell?_setCells_out b vs o w ⟨i, y, none⟩ fun hb _ => ?_
  simp only at hb ⊢
  subst hb
  rcases Nat.lt_or_ge y o with h1 | h1
  ·exact .inl h1
  ·rcases Nat.lt_or_ge y (o + vs.length) with h2 | h2
   ·exact absurd (hz y h1 h2) h
   ·exact .inr h2
theorem R.change {A M Z : bZ} {w0 : W0} {n : Nat} {st : St} {a : Act} {w w' : World} {objs' : List MO} (h : R A M w0 n st a w) (hk : Keeps Z w w')
  (hz : ∀ b o, Z b o → eT st.objs b o) (hl : ∀ b o, b < w.heap.size → eT objs' b o → eT st.objs b o) (hsep : Sep objs')
  (hh : Mono w (bN A st.objs) w' (bN A objs') → ∀ m ∈ objs', m.holds w' (bN A objs')) : R A M w0 n ⟨st.env, objs'⟩ a w' := by
 have hm : Mono w (bN A st.objs) w' (bN A objs') := oJ hk (fun b o hb => .inr (hz b o hb)) fun b o hb hx => hx.imp id (hl b o hb)
 have hs0 := h.keeps.size
 refine ⟨h.size, h.defers.step hk (fun b o hb => .inr (hz b o hb)) (fun b o hb hx => hx.imp id (hl b o hb)), fun k => (h.env k).mono hm, ⟨hsep, fun m hm' b o hf hA => ?_, hh hm⟩, h.keeps.weaken hk fun b o hb => ?_, fun m hm' b o hf => ?_, h.old⟩
 ·have hlt := Nat.lt_of_lt_of_le (h.old b o hA) hs0
  obtain ⟨m2, h2, h3⟩ := hl b o hlt ⟨m, hm', hf⟩
  exact h.inv.apart m2 h2 b o h3 hA
 ·obtain ⟨m2, h2, h3⟩ := hz b o hb
  exact h.own m2 h2 b o h3
 ·rcases Nat.lt_or_ge b w.heap.size with hlt | hge
  ·obtain ⟨m2, h2, h3⟩ := hl b o hlt ⟨m, hm', hf⟩
   exact h.own m2 h2 b o h3
  ·exact .inr (Nat.le_trans hs0 hge)
theorem nF {l l' : List MO} {b o : Nat} : eT (l ++ l') b o ↔ eT l b o ∨ eT l' b o := by
 constructor
 ·rintro ⟨m, hm, hf⟩
  rcases List.mem_append.1 hm with h | h
  ·exact .inl ⟨m, h, hf⟩
  ·exact .inr ⟨m, h, hf⟩
 ·rintro (⟨m, hm, hf⟩ | ⟨m, hm, hf⟩)
  ·exact ⟨m, List.mem_append.2 (.inl hm), hf⟩
  ·exact ⟨m, List.mem_append.2 (.inr hm), hf⟩
theorem aUs {m : MO} {b o : Nat} : eT [m] b o ↔ m.foot b o := by simp [eT]
theorem R.add {A M : bZ} {w0 : W0} {n : Nat} {st : St} {a : Act} {w w' : World} {m : MO} (h : R A M w0 n st a w) (hk : Keeps (fun _ _ => False) w w')
  (hf : ∀ b o, m.foot b o → w.heap.size ≤ b) (hh : Mono w (bN A st.objs) w' (bN A (st.objs ++ [m])) → m.holds w' (bN A (st.objs ++ [m]))) : R A M w0 n ⟨st.env, st.objs ++ [m]⟩ a w' := by
 have hlt : ∀ x ∈ st.objs, ∀ b o, x.foot b o → b < w.heap.size := fun x hx b o hxf => lR (h.inv.holds x hx) hxf
 refine h.change hk (fun _ _ hx => hx.elim) (fun b o hb hx => ?_) ?_ fun hm x hx => ?_
 ·rcases nF.1 hx with h1 | h1
  ·exact h1
  ·have := hf b o (aUs.1 h1); omega
 ·refine List.pairwise_append.2 ⟨h.inv.sep, by simp, fun x hx y hy b o hxf hyf => ?_⟩
  simp at hy; subst hy
  have := hlt x hx b o hxf
  have := hf b o hyf
  omega
 ·rcases List.mem_append.1 hx with h1 | h1
  ·exact cV (h.inv.holds x h1) hk (fun _ _ _ hx => hx) hm
  ·simp at h1; subst h1; exact hh hm
theorem R.replace {A M Z : bZ} {w0 : W0} {n : Nat} {st : St} {a : Act} {w w' : World} {i : Nat} {m m' : MO} (h : R A M w0 n st a w) (hi : st.objs[i]? = some m) (hk : Keeps Z w w')
  (hz : ∀ b o, Z b o → m.foot b o) (hf : ∀ b o, m'.foot b o → m.foot b o ∨ w.heap.size ≤ b)
  (hh : Mono w (bN A st.objs) w' (bN A (st.objs.set i m')) → m'.holds w' (bN A (st.objs.set i m'))) : R A M w0 n ⟨st.env, st.objs.set i m'⟩ a w' := by
 have hlt : ∀ x ∈ st.objs, ∀ b o, x.foot b o → b < w.heap.size := fun x hx b o hxf => lR (h.inv.holds x hx) hxf
 have hil : i < st.objs.length := (List.getElem?_eq_some_iff.1 hi).1
 have hmi : st.objs[i] = m := (List.getElem?_eq_some_iff.1 hi).2
 have hsep := List.pairwise_iff_getElem.1 h.inv.sep
 refine h.change hk (fun b o hb => ⟨m, List.mem_of_getElem? hi, hz b o hb⟩) (fun b o hb hx => ?_) ?_ fun hm x hx => ?_
 ·obtain ⟨x, hx, hxf⟩ := hx
  rcases List.mem_or_eq_of_mem_set hx with h1 | rfl
  ·exact ⟨x, h1, hxf⟩
  ·rcases hf b o hxf with h1 | h1
   ·exact ⟨m, List.mem_of_getElem? hi, h1⟩
   ·omega
 ·refine List.pairwise_iff_getElem.2 fun p q hp hq hpq b o hpf hqf => ?_
  simp only [List.length_set] at hp hq
  simp only [List.getElem_set] at hpf hqf
  split at hpf
  ·rename_i hip
   split at hqf
   ·omega
   ·subst hip
    rcases hf b o hpf with h1 | h1
    ·exact hsep i q hil hq hpq b o (hmi ▸ h1) hqf
    ·have := hlt _ (List.getElem_mem hq) b o hqf; omega
  ·split at hqf
   ·rename_i hiq
    subst hiq
    rcases hf b o hqf with h1 | h1
    ·exact hsep p i hp hil hpq b o hpf (hmi ▸ h1)
    ·have := hlt _ (List.getElem_mem hp) b o hpf; omega
   ·exact hsep p q hp hq hpq b o hpf hqf
 ·obtain ⟨q, hq⟩ := List.getElem?_of_mem hx
  rw [List.getElem?_set] at hq
  by_cases hne : i = q
  ·subst hne
   rw [if_pos rfl, if_pos hil] at hq
   cases hq; exact hh hm
  ·rw [if_neg hne] at hq
   have hql : q < st.objs.length := (List.getElem?_eq_some_iff.1 hq).1
   have hqe : st.objs[q] = x := (List.getElem?_eq_some_iff.1 hq).2
   have hxm : x ∈ st.objs := List.mem_of_getElem? hq
   refine cV (h.inv.holds x hxm) hk (fun b o hxf hzb => ?_) hm
   have hmf := hz b o hzb
   rcases Nat.lt_or_gt_of_ne hne with h1 | h1
   ·exact hsep i q hil hql h1 b o (hmi ▸ hmf) (hqe ▸ hxf)
   ·exact hsep q i hql hil h1 b o (hqe ▸ hxf) (hmi ▸ hmf)
def AV.cells : AV → Option (List D)
 | .d x => some [x]
 | .agg xs => some xs
 | _ => none
theorem VR.cells {w : World} {X : bZ} {x : AV} {v : Value} {ds : List D} (h : VR w X x v) (hc : x.cells = some ds) : DRs w X ds v.cells.toList := by
 cases h with
 | d h =>
  cases hc
  have := h.oneCell
  cases v <;> first | (exact ⟨h, trivial⟩) | (simp [Value.oneCell'] at this)
 | agg h => cases hc; exact h
 | _ => cases hc
section
variable {P : Program} {n d : Nat} {st : St} {o : Oper}
theorem aKp {w : World} {X X' : bZ} {ds : List D} {cs : Array Value} {e : TypeId} (h : DRs w X ds cs.toList) (hm : Mono w X (w.alloc (.cells cs e)) X') : (MO.box w.heap.size 0 ds).holds (w.alloc (.cells cs e)) X' := by
 refine ⟨cs.toList, h.mono hm, fun j v hj => ?_, fun j _ => ?_⟩
 ·rw [World.cell?_alloc_new]; simpa using hj
 ·simp
theorem cT {x : Operand} {t : TypeId} {v : AV} {ds : List D} {ty : TypeId} {pos : String} {af : Array Edge} {gd : Option (Nat × Bool)} (hd : d < n)
  (hx : st.eval x = v) (hk : eC x = true) (hv : v.cells = some ds) :
  Step P n ⟨some d, .box t x, ty, pos, af, gd⟩ st (fun s => ∃ b, s = (st.setadd d (.bp b 0 0) (.box b 0 ds))) := by
 intro A M w0 a w hR K Q hK
 have h := hR.eval' hk
 rw [hx] at h
 have hds := h.cells hv
 unfold Oper.wp
 have hrun : (execOp a.eval ⟨some d, .box t x, ty, pos, af, gd⟩).run P w = .ok (.value (.pointer (some ⟨w.heap.size, 0, none⟩))) (w.alloc (.cells (a.eval x).cells t)) := by
  simp [execOp, Instr.box, newVar, newRow]
 rw [hrun, Oper.upon_value]
 refine hK _ _ _ ⟨w.heap.size, rfl⟩ ?_
 have hR' := hR.add (w' := w.alloc (.cells (a.eval x).cells t)) (m := .box w.heap.size 0 ds) (Keeps.alloc _ _ _) (fun b o hf => by cases hf.1; exact Nat.le_refl _)
  (fun hm => aKp hds hm)
 exact hR'.put (o := ⟨some d, .box t x, ty, pos, af, gd⟩) rfl hd (.bp _ 0 0)
def bJ : D → Value
 | .lit v => v
 | .sl _ _ => .slice none 0 0
 | .sn _ _ => .slice none 0 0
 | .mp _ _ => .map none
 | .pt _ => .pointer none
def zOK : List D → Bool
 | [] => true
 | .lit v :: l => v.oneCell' && zOK l
 | .sl _ [] :: l => zOK l
 | _ => false
theorem zU {w : World} {X : bZ} : ∀ {zs : List D}, zOK zs = true → DRs w X zs (zs.map bJ)
 | [], _ => trivial
 | .lit v :: l, h => by
  simp only [zOK, Bool.and_eq_true] at h
  exact ⟨.lit v h.1, zU h.2⟩
 | .sl k [] :: l, h => ⟨.nil k, zU (by simpa [zOK] using h)⟩
 | .sl k (r :: rs) :: l, h => by simp [zOK] at h
 | .sn k rs :: l, h => by simp [zOK] at h
 | .mp _ _ :: l, h => by simp [zOK] at h
 | .pt _ :: l, h => by simp [zOK] at h
theorem cG {t : TypeId} {z : Value} {zs : List D} {ty : TypeId} {pos : String} {af : Array Edge} {gd : Option (Nat × Bool)} (hd : d < n)
  (hz : ∀ w, (zeroValue t).run P w = .ok z w) (hzs : z.cells = (zs.map bJ).toArray) (hok : zOK zs = true) :
  Step P n ⟨some d, .alloc t, ty, pos, af, gd⟩ st (fun s => ∃ b, s = (st.setadd d (.bp b 0 0) (.box b 0 zs))) := by
 intro A M w0 a w hR K Q hK
 unfold Oper.wp
 have hrun : (execOp a.eval ⟨some d, .alloc t, ty, pos, af, gd⟩).run P w = .ok (.value (.pointer (some ⟨w.heap.size, 0, none⟩))) (w.alloc (.cells (zs.map bJ).toArray t)) := by
  simp [execOp, Instr.alloc, newVar, newRow, hz, hzs]
 rw [hrun, Oper.upon_value]
 refine hK _ _ _ ⟨w.heap.size, rfl⟩ ?_
 have hR' := hR.add (w' := w.alloc (.cells (zs.map bJ).toArray t)) (m := .box w.heap.size 0 zs) (Keeps.alloc _ _ _) (fun b o hf => by cases hf.1; exact Nat.le_refl _)
  (fun hm => aKp (by simpa using zU (w := w) (X := bN A st.objs) hok) hm)
 exact hR'.put (o := ⟨some d, .alloc t, ty, pos, af, gd⟩) rfl hd (.bp _ 0 0)
theorem vJ {t m : Nat} (hs : ∀ w, (sizeOf t).run P w = .ok m w) {w : World} {b o : Nat} {v : Value} (hm : v.cells.size = m)
  (hc : ∀ j, j < m → (w.cell? ⟨b, o + j, none⟩).isSome = true) (hf : ∀ j, j < m → w.frozen? ⟨b, o + j, none⟩ = false) (h1 : ∀ u ∈ v.cells.toList, u.oneCell' = true) :
  (Instr.storeAt t (.pointer (some ⟨b, o, none⟩)) v).run P w = .ok () (w.setCells b o v.cells.toList) := by
 have := run_storeCells_cells (P := P) b o v.cells.toList 0 w (by simpa [hm] using hc) (by simpa [hm] using hf) h1
 simp [Instr.storeAt, Instr.sureAddr, storeVar, hs, hm]
 simpa using this
def pK (ds : List D) (j : Nat) (es : List D) : List D := ds.take j ++ es ++ ds.drop (j + es.length)
theorem vH {ds es : List D} {j : Nat} (h : j + es.length ≤ ds.length) : (pK ds j es).length = ds.length := by
 simp [pK]; omega
theorem aGt {w : World} {X X' : bZ} {b o : Nat} {ds es : List D} {vs us : List Value} {j : Nat} (hds : DRs w X ds vs) (hc : cellsAt w b o vs) (hes : DRs w X es us) (hj : j + es.length ≤ ds.length)
  (hm : Mono w X (w.setCells b (o + j) us) X') :
  ∃ vs', DRs (w.setCells b (o + j) us) X' (pK ds j es) vs' ∧ cellsAt (w.setCells b (o + j) us) b o vs' := by
 have hlv := hds.length
 have hlu := hes.length
 refine ⟨vs.take j ++ us ++ vs.drop (j + es.length), (((hds.take j).append hes).append (hds.drop _)).mono hm, fun q v hq => ?_⟩
 have hcell : ∀ i, i < vs.length → (w.cell? ⟨b, o + i, none⟩).isSome = true := fun i hi => by rw [hc i _ (List.getElem?_eq_getElem hi)]; rfl
 rcases Nat.lt_or_ge q j with h1 | h1
 ·rw [List.append_assoc, List.getElem?_append_left (by simp; omega), List.getElem?_take, if_pos h1] at hq
  rw [World.cell?_setCells_out b us (o + j) w ⟨b, o + q, none⟩ fun _ _ => .inl (by simp only; omega)]
  exact hc q v hq
 ·rcases Nat.lt_or_ge q (j + us.length) with h2 | h2
  ·rw [List.append_assoc, List.getElem?_append_right (by simp; omega), List.getElem?_append_left (by simp; omega)] at hq
   have hq' : q - (List.take j vs).length = q - j := by simp; omega
   rw [hq'] at hq
   have := World.cell?_setCells_in b us (o + j) w (fun i hi => by rw [Nat.add_assoc]; exact hcell (j + i) (by omega)) (q - j) (by omega)
   rw [show o + j + (q - j) = o + q by omega] at this
   rw [this, ← hq, List.getElem?_eq_getElem]
  ·rw [List.getElem?_append_right (by simp; omega), List.getElem?_drop] at hq
   have hq' : j + es.length + (q - (List.take j vs ++ us).length) = q := by simp; omega
   rw [hq'] at hq
   rw [World.cell?_setCells_out b us (o + j) w ⟨b, o + q, none⟩ fun _ _ => .inr (by simp only; omega)]
   exact hc q v hq
theorem qX {x y : Operand} {t m b o0 j i : Nat} {ds es ds' : List D} {v : AV} {ty : TypeId} {pos : String} {af : Array Edge} {gd : Option (Nat × Bool)}
  (hx : st.eval x = .bp b o0 j) (ho : st.objs[i]? = some (.box b o0 ds)) (hy : st.eval y = v) (hk : eC y = true) (hv : v.cells = some es) (ht : ∀ w, (sizeOf t).run P w = .ok m w) (hm : es.length = m) (hm0 : 0 < m)
  (hj : j + es.length ≤ ds.length) (hds : pK ds j es = ds') :
  bR P n ⟨none, .store t x y, ty, pos, af, gd⟩ st (st.put1 i (.box b o0 ds')) := by
 intro A M w0 a w hR K Q hK
 have hkx : eC x = true := by cases x with | const u => cases hx | _ => rfl
 have h := hR.eval' hkx
 rw [hx] at h
 have hyv := hR.eval' hk
 rw [hy] at hyv
 have hes := hyv.cells hv
 obtain ⟨vs, hvs, hc, hf⟩ := hR.inv.holds _ (List.mem_of_getElem? ho)
 have hlv := hvs.length
 have hle := hes.length
 have hsz : (a.eval y).cells.size = m := by rw [← Array.length_toList, hle, hm]
 have hcell : ∀ i, i < vs.length → (w.cell? ⟨b, o0 + i, none⟩).isSome = true := fun i hi => by rw [hc i _ (List.getElem?_eq_getElem hi)]; rfl
 have hpt : a.eval x = .pointer (some ⟨b, o0 + j, none⟩) := by
  generalize hu : a.eval x = u at h
  cases h; rfl
 have hst := vJ (P := P) ht (w := w) (b := b) (o := o0 + j) hsz (fun q hq => by rw [Nat.add_assoc]; exact hcell _ (by omega)) (fun q hq => by rw [Nat.add_assoc]; exact hf _ (by omega)) hes.oneCell
 unfold Oper.wp
 have hrun : (execOp a.eval ⟨none, .store t x y, ty, pos, af, gd⟩).run P w = .ok .skip (w.setCells b (o0 + j) (a.eval y).cells.toList) := by
  simp [execOp, hpt, hst]
 rw [hrun, Oper.upon_skip]
 refine hK _ _ _ rfl ?_
 subst hds
 have hne : (a.eval y).cells.toList ≠ [] := by intro h0; rw [h0] at hle; simp at hle; omega
 have hR' := hR.replace (w' := w.setCells b (o0 + j) (a.eval y).cells.toList) (m' := .box b o0 (pK ds j es)) ho (Keeps.setCells w b (o0 + j) _ (Z := (MO.box b o0 ds).foot) (fun q h1 h2 => ⟨rfl, by omega, by omega⟩) hne)
  (fun _ _ hz => hz) (fun p q hf' => .inl ⟨hf'.1, hf'.2.1, by have := hf'.2.2; rwa [vH hj] at this⟩) fun hmono => by
   obtain ⟨vs', h1, h2⟩ := aGt hvs hc hes hj hmono
   exact ⟨vs', h1, h2, fun q hq => by rw [World.frozen?_setCells]; exact hf q (by rwa [vH hj] at hq)⟩
 exact hR'.put_none rfl
end
end Go.Am
