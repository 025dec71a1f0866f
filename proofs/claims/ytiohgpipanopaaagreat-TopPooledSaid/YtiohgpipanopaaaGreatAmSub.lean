/- The program logic 'Am': parts of slices of the call's own: 's[i:]', 'clear(s[i:])', 's[:i]'. -/
import Derived.Test.YtiohgpipanopaaaGreatAmFull
namespace Go.Am
def kT (v : Value) (lo k : Nat) : Value := match v with
 | .slice (some a) n c => .slice (some (if c = lo then a else a.add (lo * k))) (n - lo) (c - lo)
 | v => v
def mH (v : Value) (q : Nat) : Value := match v with
 | .slice a _ c => .slice a q c
 | v => v
theorem aSg (v : Value) (q : Nat) : (mH v q).ownBlock = v.ownBlock := by
 cases v <;> try rfl
 rename_i a _ _; cases a <;> rfl
section
variable {P : Program} {n d : Nat} {st : St} {o : Oper}
theorem aXe {x y : Operand} {t e k m : Nat} {v : Value} {e' : Nat} {rows : List (List D)} {kd : IntKind} {p : Int} {ty : TypeId} {pos : String} {af : Array Edge} {gd : Option (Nat × Bool)} (hd : d < n)
  (hx : st.eval x = .d (.lit v)) (ho : st.objs[m]? = some (.arr v e' k rows)) (hy : st.eval y = .d (.lit (.int kd p))) (ht : fF P t e k) (h0 : 0 ≤ p) (h1 : p ≤ rows.length) :
  bL P n ⟨some d, .slice t x (some y) none none, ty, pos, af, gd⟩ st (st.set d (.d (.lit (kT v p.toNat k)))) :=
 cY rfl hd fun A M w0 a w hR => by
  obtain ⟨xs, _, hown, _⟩ := hR.inv.holds _ (List.mem_of_getElem? ho)
  rcases hown.2 with ⟨rfl, hn⟩ | ⟨g, cap, cur, rfl, _, _, hcap, _⟩
  ·have hp : p = 0 := by omega
   subst hp
   exact ⟨_, by simp [execOp, Instr.sliceAt, Instr.slice, ht.1, ht.2, hR.lit hx, hR.lit hy, Instr.sliceBounds, Instr.sliceBound, asIntOf, kT], .of_lit rfl⟩
  ·refine ⟨_, ?_, .of_lit rfl⟩
   by_cases hc : cap = p.toNat
   ·simp [execOp, Instr.sliceAt, Instr.slice, ht.1, ht.2, hR.lit hx, hR.lit hy, Instr.sliceBounds, Instr.sliceBound, asIntOf, kT, h0, h1, hc]
   ·simp [execOp, Instr.sliceAt, Instr.slice, ht.1, ht.2, hR.lit hx, hR.lit hy, Instr.sliceBounds, Instr.sliceBound, asIntOf, kT, h0, h1, hc]
theorem bBu {x : Operand} {v : Value} {e k m lo : Nat} {rows : List (List D)} {t ty : TypeId} {pos : String} {af : Array Edge} {gd : Option (Nat × Bool)} (hd : d < n)
  (hx : st.eval x = .d (.lit (kT v lo k))) (ho : st.objs[m]? = some (.arr v e k rows)) {e' kk : Nat} (ht : fF P t e' kk) :
  bL P n ⟨some d, .call { callee := .builtin .len, args := #[x], argTypes := #[t] }, ty, pos, af, gd⟩ st (st.set d (.i ((rows.drop lo).length : Nat))) :=
 cY rfl hd fun A M w0 a w hR => by
  obtain ⟨b, c, rfl⟩ := aXk (hR.inv.holds _ (List.mem_of_getElem? ho))
  obtain ⟨xs, _, hown, _⟩ := hR.inv.holds _ (List.mem_of_getElem? ho)
  have hs : ∃ b' c', kT (.slice b rows.length c) lo k = .slice b' (rows.length - lo) c' := by
   rcases hown.2 with ⟨h, hn⟩ | ⟨g, cap, cur, h, _⟩
   ·simp only [Value.slice.injEq] at h
    obtain ⟨rfl, _, rfl⟩ := h
    exact ⟨none, 0, by rw [hn]; simp [kT]⟩
   ·simp only [Value.slice.injEq] at h
    obtain ⟨rfl, _, rfl⟩ := h
    exact ⟨_, _, rfl⟩
  obtain ⟨b', c', hs⟩ := hs
  rw [hs] at hx
  exact ⟨.int .i64 ((rows.drop lo).length : Nat), by simp [execOp, resolve, hR.lit hx, invoke, builtin, Builtin.len_, goInt, ht.1], .of_lit rfl⟩
theorem vP {x y : Operand} {t e k m lo : Nat} {v : Value} {e' : Nat} {rows : List (List D)} {kd : IntKind} {p : Int} {ty : TypeId} {pos : String} {af : Array Edge} {gd : Option (Nat × Bool)} {ds : List D} (hd : d < n)
  (hx : st.eval x = .d (.lit (kT v lo k))) (ho : st.objs[m]? = some (.arr v e' k rows)) (hy : st.eval y = .d (.lit (.int kd p))) (ht : fF P t e k) (hp : idx (rows.drop lo) p = some ds) :
  bL P n ⟨some d, .indexAddr t x y, ty, pos, af, gd⟩ st (st.set d (.ep v k (lo + p.toNat) 0)) :=
 cY rfl hd fun A M w0 a w hR => by
  obtain ⟨h0, h1, h2⟩ := uY hp
  rw [List.length_drop] at h1
  obtain ⟨xs, _, hown, _⟩ := hR.inv.holds _ (List.mem_of_getElem? ho)
  rcases hown.2 with ⟨_, hn⟩ | ⟨g, cap, cur, rfl, _, _, hcap, _⟩
  ·omega
  ·refine ⟨.pointer (some ⟨g, (lo + p.toNat) * k + 0, none⟩), ?_, .ep g rows.length cap k (lo + p.toNat) 0⟩
   have := aAg (P := P) ht (w := w) (b := g) (o := lo * k) (len := rows.length - lo) (cap := cap - lo) (kd := kd) h0 h1
   have he : kT (.slice (some ⟨g, 0, none⟩) rows.length cap) lo k = .slice (some ⟨g, lo * k, none⟩) (rows.length - lo) (cap - lo) := by
    simp [kT, show ¬ cap = lo by omega, Addr.add_lit]
   rw [he] at hx
   simp [execOp, hR.lit hx, hR.lit hy, this, Nat.add_mul]
theorem aPp {w : World} {X : bV} {v : Value} {e k q : Nat} {rows : List (List D)} (h : (MO.arr v e k rows).holds w X) (hq : q ≤ rows.length) : (MO.arr (mH v q) e k (rows.take q)).holds w X := by
 obtain ⟨xs, hd, hown, hr⟩ := h
 have hrt : ∀ r ∈ rows.take q, r.length = k := fun r hr' => hr r (List.mem_of_mem_take hr')
 have hfl : (rows.take q).flatten = rows.flatten.take (q * k) := by
  have h1 : rows.flatten = (rows.take q).flatten ++ (rows.drop q).flatten := by rw [← List.flatten_append, List.take_append_drop]
  have h2 : (rows.take q).flatten.length = q * k := by rw [qB hrt, List.length_take, Nat.min_eq_left hq]
  rw [h1, ← h2, List.take_left']
  rfl
 have hlq : (rows.take q).length = q := by rw [List.length_take, Nat.min_eq_left hq]
 have hqk : q * k ≤ rows.length * k := Nat.mul_le_mul_right _ hq
 refine ⟨xs.take (q * k), by rw [hfl]; exact hd.take _, ⟨by rw [List.length_take, hlq, hown.1]; omega, ?_⟩, hrt⟩
 rw [hlq]
 rcases hown.2 with ⟨rfl, hn⟩ | ⟨g, cap, cur, rfl, h1, h2, h3, h4, h5, h6⟩
 ·have : q = 0 := by omega
  subst this
  exact .inl ⟨rfl, rfl⟩
 ·exact .inr ⟨g, cap, cur, rfl, h1, h2, by omega, h4, h5, by rw [← h6, List.take_take, Nat.min_eq_left hqk]⟩
theorem aXb {x : Operand} {t e k bytes m lo : Nat} {z v : Value} {rows : List (List D)} {ty : TypeId} {pos : String} {af : Array Edge} {gd : Option (Nat × Bool)} (ht : SliceTy P t e k bytes z)
  (hx : st.eval x = .d (.lit (kT v lo k))) (ho : st.objs[m]? = some (.arr v e k rows)) (hlo : lo ≤ rows.length) (hz1 : ∀ u ∈ z.cells.toList, u.oneCell' = true) :
  bL P n ⟨none, .call { callee := .builtin .clear, args := #[x], argTypes := #[t] }, ty, pos, af, gd⟩ st (st.put1 m (.arr (mH v lo) e k (rows.take lo))) := by
 intro A M w0 a w hR K Q hK
 have hh := hR.inv.holds _ (List.mem_of_getElem? ho)
 have hown := hh
 obtain ⟨xs, hxs, hown, hr⟩ := hown
 unfold Oper.wp
 have done0 : (execOp a.eval ⟨none, .call { callee := .builtin .clear, args := #[x], argTypes := #[t] }, ty, pos, af, gd⟩).run P w = .ok (.value (.tuple #[])) w →
   (⟨none, .call { callee := .builtin .clear, args := #[x], argTypes := #[t] }, ty, pos, af, gd⟩ : Oper).upon P a K Q ((execOp a.eval ⟨none, .call { callee := .builtin .clear, args := #[x], argTypes := #[t] }, ty, pos, af, gd⟩).run P w) := by
  intro hrun
  rw [hrun, Oper.upon_value]
  refine hK _ _ _ rfl ?_
  have hR' := hR.replace (w' := w) (m' := .arr (mH v lo) e k (rows.take lo)) ho (Keeps.refl (fun _ _ => False) w) (fun _ _ h => h.elim) (fun b o hf => .inl (by simpa [MO.foot, aSg] using hf)) fun hm =>
   cU (aPp hh hlo) (Keeps.refl (fun _ _ => False) w) (fun _ _ _ h => h) hm
  exact hR'.put_none rfl
 rcases hown.2 with ⟨rfl, hn⟩ | ⟨g, cap, cur, rfl, hg1, hg2, hg3, hg4, hg5, hg6⟩
 ·refine done0 ?_
  simp [execOp, resolve, invoke, builtin, hR.lit hx, kT, Builtin.clear_, run_underlying ht.und]
 ·by_cases he : rows.length = lo
  ·refine done0 ?_
   simp [execOp, resolve, invoke, builtin, hR.lit hx, kT, he, Builtin.clear_, run_underlying ht.und]
  ·have hv : kT (.slice (some ⟨g, 0, none⟩) rows.length cap) lo k = .slice (some ⟨g, lo * k, none⟩) (rows.length - lo) (cap - lo) := by
    simp [kT, show ¬ cap = lo by omega, Addr.add_lit]
   rw [hv] at hx
   obtain ⟨inf, hi, hz, hs, hbs⟩ := ht.inf
   have hzl : z.cells.toList.length = k := by simpa using ht.size
   have hcl : (Builtin.zeroCells z.cells (rows.length - lo)).toList.length = (rows.length - lo) * k := by simp [size_zeroCells, ht.size]
   have hin : lo * k + (rows.length - lo) * k ≤ cur.size := by
    rw [hg5, ← Nat.add_mul]; exact Nat.mul_le_mul_right _ (by omega)
   have hcell : ∀ j, j < cur.size → w.cell? ⟨g, j, none⟩ = cur[j]? := fun j _ => cell_of_row w g j cur e (0, 0) hg2
   have hz1' : ∀ u ∈ (Builtin.zeroCells z.cells (rows.length - lo)).toList, u.oneCell' = true := by
    intro u hu
    simp only [Builtin.zeroCells, Array.toList_map, List.mem_map] at hu
    obtain ⟨i, _, rfl⟩ := hu
    have hlt : i % z.cells.size < z.cells.size := Nat.mod_lt _ (by rw [ht.size]; exact ht.pos)
    rw [getElem!_pos z.cells (i % z.cells.size) hlt]
    exact hz1 _ (by simp)
   have hst := run_storeCells_cells (P := P) g (lo * k) (Builtin.zeroCells z.cells (rows.length - lo)).toList 0 w (fun j hj => by
     rw [hcell _ (by omega), Array.getElem?_eq_getElem (by omega)]; rfl) (fun j hj => frozen_of_row w g _ cur e hg2) hz1'
   have hrun : (execOp a.eval ⟨none, .call { callee := .builtin .clear, args := #[x], argTypes := #[t] }, ty, pos, af, gd⟩).run P w = .ok (.value (.tuple #[])) (w.setCells g (lo * k) (Builtin.zeroCells z.cells (rows.length - lo)).toList) := by
    have hz0 : ¬ rows.length - lo = 0 := by omega
    generalize hq : rows.length - lo = q at *
    obtain ⟨q', rfl⟩ : ∃ q', q = q' + 1 := ⟨q - 1, by omega⟩
    simp only [execOp, resolve, invoke, builtin, Sem.run_bind, hR.lit hx, List.map_toArray, List.map_cons, List.map_nil]
    simp [Builtin.clear_, run_underlying ht.und, ht.zero, hst]
   rw [hrun, Oper.upon_value]
   refine hK _ _ _ rfl ?_
   have hne : (Builtin.zeroCells z.cells (rows.length - lo)).toList ≠ [] := by
    intro h0; rw [h0] at hcl; simp at hcl
    have := Nat.mul_pos (n := rows.length - lo) (m := k) (by omega) ht.pos
    omega
   have hrow : ∀ (vs : List Value) (off : Nat) (w : World) (cur : Array Value), w.heap[g]? = some (.cells cur e (0, 0)) → ∃ cur', (w.setCells g off vs).heap[g]? = some (.cells cur' e (0, 0)) ∧ cur'.size = cur.size := by
    intro vs
    induction vs with
    | nil => exact fun off w cur hh => ⟨cur, hh, rfl⟩
    | cons v vs ih =>
     intro off w cur hh
     obtain ⟨cur', h1, h2⟩ := ih (off + 1) (w.setCell ⟨g, off, none⟩ v) _ (heap_setCell_same w g off cur e v hh)
     exact ⟨cur', h1, by simpa using h2⟩
   have hR' := hR.replace (w' := w.setCells g (lo * k) (Builtin.zeroCells z.cells (rows.length - lo)).toList) (m' := .arr (mH (.slice (some ⟨g, 0, none⟩) rows.length cap) lo) e k (rows.take lo)) ho
    (Keeps.setCells w g (lo * k) _ (Z := fun b _ => b = g) (fun q h1 h2 => rfl) hne)
    (fun b o hb => by subst hb; rfl) (fun b o hf => .inl (by simpa [MO.foot, aSg] using hf)) fun hmono => by
     obtain ⟨ys, hys, hyo, hyr⟩ := aPp hh hlo
     have hlq : (rows.take lo).length = lo := by rw [List.length_take, Nat.min_eq_left hlo]
     obtain ⟨cur', hc1, hc2⟩ := hrow (Builtin.zeroCells z.cells (rows.length - lo)).toList (lo * k) w cur hg2
     refine ⟨ys, hys.mono hmono, ⟨hyo.1, .inr ⟨g, cap, cur', by rw [hlq]; rfl, hg1, hc1, by omega, hg4, by rw [hc2, hg5], ?_⟩⟩, hyr⟩
     have h6 : cur.toList.take ((rows.take lo).length * k) = ys := by
      rcases hyo.2 with ⟨h, _⟩ | ⟨g', cap', cur2, h, _, h2, _, _, _, h6⟩
      ·simp [mH] at h
      ·simp [mH] at h
       obtain ⟨rfl, _, _⟩ := h
       rw [hg2] at h2
       cases h2
       exact h6
     rw [← h6]
     apply List.ext_getElem?
     intro q
     rw [List.getElem?_take, List.getElem?_take]
     split
     ·rename_i hq
      rw [hlq] at hq
      have hout := World.cell?_setCells_out g (Builtin.zeroCells z.cells (rows.length - lo)).toList (lo * k) w ⟨g, q, none⟩ fun _ _ => .inl hq
      rw [cell_of_row _ g q cur' e (0, 0) hc1, cell_of_row w g q cur e (0, 0) hg2] at hout
      simpa using hout
     ·rfl
   exact hR'.put_none rfl
theorem aLp {x y : Operand} {t e k m q : Nat} {v : Value} {e' : Nat} {rows : List (List D)} {kd : IntKind} {p : Int} {ty : TypeId} {pos : String} {af : Array Edge} {gd : Option (Nat × Bool)} (hd : d < n)
  (hx : st.eval x = .d (.lit v)) (ho : st.objs[m]? = some (.arr (mH v q) e' k rows)) (hy : st.eval y = .d (.lit (.int kd p))) (hp : p.toNat = q) (h0 : 0 ≤ p) (ht : fF P t e k) :
  bL P n ⟨some d, .slice t x none (some y) none, ty, pos, af, gd⟩ st (st.set d (.d (.lit (mH v q)))) :=
 cY rfl hd fun A M w0 a w hR => by
  subst hp
  obtain ⟨xs, _, hown, _⟩ := hR.inv.holds _ (List.mem_of_getElem? ho)
  cases v with
  | slice b c1 c2 =>
   rcases hown.2 with ⟨h, hn⟩ | ⟨g, cap, cur, h, _, _, hcap, _⟩
   ·simp only [mH, Value.slice.injEq] at h
    obtain ⟨rfl, hp, rfl⟩ := h
    exact ⟨_, by simp [execOp, Instr.sliceAt, Instr.slice, ht.1, ht.2, hR.lit hx, hR.lit hy, Instr.sliceBounds, Instr.sliceBound, asIntOf, mH, show p = 0 by omega], .of_lit rfl⟩
   ·simp only [mH, Value.slice.injEq] at h
    obtain ⟨rfl, hp, rfl⟩ := h
    refine ⟨_, ?_, .of_lit rfl⟩
    by_cases hc : c2 = 0
    ·simp [execOp, Instr.sliceAt, Instr.slice, ht.1, ht.2, hR.lit hx, hR.lit hy, Instr.sliceBounds, Instr.sliceBound, asIntOf, mH, h0, hc]
     intro _; omega
    ·simp [execOp, Instr.sliceAt, Instr.slice, ht.1, ht.2, hR.lit hx, hR.lit hy, Instr.sliceBounds, Instr.sliceBound, asIntOf, mH, h0, show p ≤ (c2 : Int) by omega, hc, Addr.add_lit]
  | _ => 
   rcases hown.2 with ⟨h, hn⟩ | ⟨g, cap, cur, h, _⟩ <;> simp [mH] at h
end
theorem uG {α : Type} {f : α → List D} {xs : List α} {lo : Nat} {p : Int} {x : α} (h : idx (xs.drop lo) p = some x) : idx ((xs.map f).drop lo) p = some (f x) := by
 rw [← List.map_drop]; exact aW f h
theorem aDy {α : Type} (f : α → List D) {xs : List α} {lo : Nat} {p : Int} {x : α} (h : idx (xs.drop lo) p = some x) : (xs.map f)[lo + p.toNat]? = some (f x) := by
 have := (uY h).2.2
 rw [List.getElem?_drop] at this
 rw [List.getElem?_map, this]; rfl
section
variable {P : Program} {n d : Nat} {st : St} {o : Oper}
theorem aQq {α : Type} {x : Operand} {v : Value} {e k m lo : Nat} {f : α → List D} {xs : List α} {t ty : TypeId} {pos : String} {af : Array Edge} {gd : Option (Nat × Bool)} (hd : d < n)
  (hx : st.eval x = .d (.lit (kT v lo k))) (ho : st.objs[m]? = some (.arr v e k (xs.map f))) {e' kk : Nat} (ht : fF P t e' kk) :
  bL P n ⟨some d, .call { callee := .builtin .len, args := #[x], argTypes := #[t] }, ty, pos, af, gd⟩ st (st.set d (.i ((xs.drop lo).length : Nat))) := by
 have := bBu (ty := ty) (pos := pos) (af := af) (gd := gd) hd hx ho ht
 rwa [← List.map_drop, List.length_map] at this
theorem aVn {α : Type} {x : Operand} {t e k bytes m lo : Nat} {z v : Value} {f : α → List D} {xs : List α} {u : Unit} {ty : TypeId} {pos : String} {af : Array Edge} {gd : Option (Nat × Bool)} (ht : SliceTy P t e k bytes z)
  (hx : st.eval x = .d (.lit (kT v lo k))) (ho : st.objs[m]? = some (.arr v e k (xs.map f))) (hlo : chk (decide (lo ≤ xs.length)) = some u) (hz1 : ∀ u ∈ z.cells.toList, u.oneCell' = true) :
  bL P n ⟨none, .call { callee := .builtin .clear, args := #[x], argTypes := #[t] }, ty, pos, af, gd⟩ st (st.put1 m (.arr (mH v lo) e k ((xs.take lo).map f))) := by
 have := aXb (n := n) (ty := ty) (pos := pos) (af := af) (gd := gd) ht hx ho (by simpa using aHx hlo) hz1
 rwa [← List.map_take] at this
theorem aAl {α : Type} {x y : Operand} {t e k m : Nat} {v : Value} {e' : Nat} {f : α → List D} {xs : List α} {kd : IntKind} {p : Int} {u : Unit} {ty : TypeId} {pos : String} {af : Array Edge} {gd : Option (Nat × Bool)} (hd : d < n)
  (hx : st.eval x = .d (.lit v)) (ho : st.objs[m]? = some (.arr v e' k (xs.map f))) (hy : st.eval y = .d (.lit (.int kd p))) (ht : fF P t e k) (h : chk (decide (0 ≤ p) && decide (p ≤ (xs.length : Int))) = some u) :
  bL P n ⟨some d, .slice t x (some y) none none, ty, pos, af, gd⟩ st (st.set d (.d (.lit (kT v p.toNat k)))) := by
 have hc := aHx h
 simp only [Bool.and_eq_true, decide_eq_true_eq] at hc
 exact aXe hd hx ho hy ht hc.1 (by rw [List.length_map]; exact hc.2)
end
theorem bAk {a b : Int} {u : Unit} (h : chk (decide (a ≤ b)) = some u) : a ≤ b := by simpa using aHx h
end Go.Am
