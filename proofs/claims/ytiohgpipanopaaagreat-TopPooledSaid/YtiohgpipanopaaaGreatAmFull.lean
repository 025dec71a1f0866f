/- The program logic 'Am': slices without room behind them: literals that are appended to once. -/
import Derived.Test.YtiohgpipanopaaaGreatAmMap
namespace Go.Am
section
variable {P : Program} {n d : Nat} {st : St} {o : Oper}
theorem aVq {t e k len bytes : Nat} {z : Value} {l : List (Nat × Operand)} {rows : List (List D)} {ty : TypeId} {pos : String} {af : Array Edge} {gd : Option (Nat × Bool)} (hd : d < n)
  (ht : SliceTy P t e k bytes z) (hp : aBj l = true) {ps : List (Nat × AV)} (hps : st.parts l = ps) (hr : aCl 0 ps = some rows) (hk : ∀ r ∈ rows, r.length = k)
  (hl : rows.length = len) (hb : len * k ≤ 16777216) : bL P n ⟨some d, .buildSlice t len l.toArray, ty, pos, af, gd⟩ st (st.set d (.fl true k rows)) := by
 replace hps := hps.symm; subst hps
 intro A M w0 a w hR K Q hK
 obtain ⟨vs, hrun, hds⟩ := aBm (P := P) ht.of ht.zero ht.size (w := w) (aCh hR hp) hr hk hl hb
 unfold Oper.wp
 have hrun' : (execOp a.eval ⟨some d, .buildSlice t len l.toArray, ty, pos, af, gd⟩).run P w = .ok (.value (.slice (some ⟨w.heap.size, 0, none⟩) len len)) (w.alloc (.cells vs.toArray e)) := by
  simp only [execOp, Sem.run_bind, List.map_toArray]
  rw [hrun]
  rfl
 rw [hrun', Oper.upon_value]
 refine hK _ _ _ rfl ?_
 have hR' : R A M w0 n ⟨st.env, st.objs⟩ a (w.alloc (.cells vs.toArray e)) := hR.change (Keeps.alloc (fun _ _ => False) _ _) (fun _ _ h => h.elim) (fun _ _ _ h => h) hR.inv.sep fun hm m hmm =>
  cU (hR.inv.holds m hmm) (Keeps.alloc (fun _ _ => False) _ _) (fun _ _ _ h => h) hm
 refine hR'.put (o := ⟨some d, .buildSlice t len l.toArray, ty, pos, af, gd⟩) rfl hd ?_
 subst hl
 have hm : Mono w (bX A st.objs) (w.alloc (.cells vs.toArray e)) (bX A st.objs) := sB (Keeps.alloc (fun _ _ => False) _ _) (fun _ _ h => h.elim) (fun _ _ _ h => h)
 refine .fl (DR.of_flat hk (hds.mono hm) (fun j v hj => by rw [World.cell?_alloc_new]; simpa using hj) (fun j hj hx => ?_) (Nat.le_refl _) (by
  have := Nat.le_mul_of_pos_right rows.length ht.pos
  simp only [maxLen]; omega)) (.inr ⟨_, _, rfl⟩) (fun _ h => by cases h)
 exact aEp hR _ hx
theorem bAe {t e k bytes : Nat} {z : Value} (ht : SliceTy P t e k bytes z) {A M : bV} {w0 : W0} {a : Act} {w : World} (hR : R A M w0 n st a w) {nn : Bool} {v u : Value} {rows rows2 : List (List D)}
  (hv : VR w (bX A st.objs) (.fl nn k rows) v) (hu : DR w (bX A st.objs) (.sl k rows2) u) (hk1 : ∀ r ∈ rows, r.length = k) (hk2 : ∀ r ∈ rows2, r.length = k) (hb : (rows.length + rows2.length) * bytes ≤ 140737488355328) (hby : 0 < bytes) (ty : TypeId) :
  ∃ v' w', (Builtin.append_ #[t, t] ty #[v, u]).run P w = .ok v' w' ∧ R A M w0 n st a w' ∧ DR w' (bX A st.objs) (.sl k (rows ++ rows2)) v' ∧ (nn = true → v' ≠ .slice none 0 0) := by
 cases hv with
 | fl hv hc hn =>
 obtain ⟨inf, hi, hz, hs, hbs⟩ := ht.inf
 subst hs
 subst hbs
 have hn63 : rows.length + rows2.length ≤ maxLen := by
  have := Nat.le_mul_of_pos_right (rows.length + rows2.length) hby
  simp only [maxLen]; omega
 have hn64 : rows.length + rows2.length ≤ 9223372036854775807 := by simp only [maxLen] at hn63; omega
 obtain ⟨ad, m, c, news, hu', rfl, hnd, hnc⟩ := hu.news ht.pos hk2
 obtain ⟨ax, mx, cx, xs, hx', rfl, hxs, hxc⟩ := hv.news ht.pos hk1
 have hnl : news.length = rows2.length * inf.size := by rw [hnd.length, qB hk2]
 have hxl : xs.length = rows.length * inf.size := by rw [hxs.length, qB hk1]
 have hall : ∀ r ∈ rows ++ rows2, r.length = inf.size := fun r hr => by
  rcases List.mem_append.1 hr with h | h
  ·exact hk1 r h
  ·exact hk2 r h
 have fin : ∀ cap (cur : Array Value), rows.length + rows2.length ≤ cap → cap ≤ maxLen → cur.toList.take ((rows.length + rows2.length) * inf.size) = xs ++ news →
   R A M w0 n st a (w.drew.alloc (.cells cur e)) ∧ DR (w.drew.alloc (.cells cur e)) (bX A st.objs) (.sl inf.size (rows ++ rows2)) (.slice (some ⟨w.heap.size, 0, none⟩) (rows.length + rows2.length) cap) := by
  intro cap cur h1 h2 h4
  have hk' : Keeps (fun _ _ => False) w (w.drew.alloc (.cells cur e)) := (Keeps.drew _ _).trans (Keeps.alloc _ _ _)
  have hm : Mono w (bX A st.objs) (w.drew.alloc (.cells cur e)) (bX A st.objs) := sB hk' (fun _ _ h => h.elim) (fun _ _ _ h => h)
  refine ⟨hR.change hk' (fun _ _ h => h.elim) (fun _ _ _ h => h) hR.inv.sep fun hm m hmm => cU (hR.inv.holds m hmm) hk' (fun _ _ _ h => h) hm, ?_⟩
  have hlen : (rows ++ rows2).length = rows.length + rows2.length := by simp
  rw [← hlen]
  have hfl : DRs (w.drew.alloc (.cells cur e)) (bX A st.objs) (rows ++ rows2).flatten (xs ++ news) := by
   rw [List.flatten_append]
   exact (hxs.append hnd).mono hm
  refine DR.of_flat hall hfl (fun j q hj => ?_) (fun j hj hx => ?_) (by simpa using h1) h2
  ·have hsz : w.heap.size = w.drew.heap.size := rfl
   rw [hsz, World.cell?_alloc_new]
   rw [← h4, List.getElem?_take] at hj
   split at hj
   ·simpa using hj
   ·cases hj
  ·exact aEp hR _ hx
 have zc : ∀ q, (Builtin.zeroCells z.cells q).size = q * inf.size := fun q => by rw [size_zeroCells, ht.size]
 have gmax : ∀ old, grownCap w (rows.length + rows2.length) old e ≤ maxLen := fun old => grownCap_le_maxLen w _ old e hn63
 have gge : ∀ old, rows.length + rows2.length ≤ grownCap w (rows.length + rows2.length) old e := fun old => grownCap_ge w _ old e
 have tk : ∀ (zs : Array Value), (xs.toArray ++ news.toArray ++ zs).toList.take ((rows.length + rows2.length) * inf.size) = xs ++ news := by
  intro zs
  have : (rows.length + rows2.length) * inf.size = (xs ++ news).length := by simp [hxl, hnl, Nat.add_mul]
  simp only [Array.toList_append, this]
  exact List.take_left
 by_cases hm0 : rows2.length = 0
 ·have hr2 : rows2 = [] := List.eq_nil_of_length_eq_zero hm0
  subst hr2
  refine ⟨v, w, ?_, hR, by simpa using hv, hn⟩
  rcases hc with rfl | ⟨b, q, rfl⟩ <;> rcases hu' with rfl | ⟨rfl, _⟩ <;>
   simp [Builtin.append_, run_underlying ht.und, sizeOf, typeInfo, hi, Builtin.lenOf, Builtin.firstCells, loadCells, loadCellsFrom, storeCells]
 ·rcases hu' with rfl | ⟨rfl, h0⟩
  ·rcases hc with rfl | ⟨b, q, rfl⟩
   ·rcases hx' with h | ⟨_, h0⟩
    ·cases h
    ·have hx0 : xs = [] := List.eq_nil_of_length_eq_zero (by rw [hxl, h0]; simp)
     have hr := run_append_nil (P := P) w t ty e inf z ht.und hi hz ad rows2.length c news hnl hnc (by omega) (by omega) (by rw [h0, Nat.zero_add] at hb; omega)
     have hf := fin (grownCap w (rows.length + rows2.length) 0 e) (xs.toArray ++ news.toArray ++ Builtin.zeroCells z.cells (grownCap w (rows.length + rows2.length) 0 e - (rows.length + rows2.length))) (gge 0) (gmax 0) (tk _)
     rw [hx0] at hf
     simp only [h0, Nat.zero_add, Array.empty_append] at hf
     exact ⟨_, _, hr, hf.1, hf.2, fun _ h => by cases h⟩
   ·rcases hx' with h | ⟨h, _⟩
    ·cases h
     have hr := run_append_grow (P := P) w t ty e inf z ht.und hi hz ax rows.length rows.length xs hxl hxc ad rows2.length c news hnl hnc (by omega) (by omega) (growslice_fits (by omega) hb)
     have hf := fin (grownCap w (rows.length + rows2.length) rows.length e) (xs.toArray ++ news.toArray ++ Builtin.zeroCells z.cells (grownCap w (rows.length + rows2.length) rows.length e - (rows.length + rows2.length))) (gge _) (gmax _) (tk _)
     exact ⟨_, _, hr, hf.1, hf.2, fun _ h => by cases h⟩
    ·cases h
  ·omega
theorem aWy {nn : Bool} {t e k bytes : Nat} {z : Value} {x y : Operand} {rows rows2 : List (List D)} {ty : TypeId} {pos : String} {af : Array Edge} {gd : Option (Nat × Bool)} (hd : d < n) (ht : SliceTy P t e k bytes z)
  (hx : st.eval x = .fl nn k rows) (hy : st.eval y = .d (.sl k rows2)) (hk1 : ∀ r ∈ rows, r.length = k) (hk2 : ∀ r ∈ rows2, r.length = k)
  (hb : (rows.length + rows2.length) * bytes ≤ 140737488355328) (hby : 0 < bytes) :
  bL P n ⟨some d, .call { callee := .builtin .append, args := #[x, y], argTypes := #[t, t] }, ty, pos, af, gd⟩ st (st.set d (bif nn then .d (.sn k (rows ++ rows2)) else .d (.sl k (rows ++ rows2)))) := by
 intro A M w0 a w hR K Q hK
 have hky : dS y = true := by cases y with | const u => cases hy | _ => rfl
 have hkx : dS x = true := by cases x with | const u => cases hx | _ => rfl
 have h := hR.eval' hky
 rw [hy] at h
 have hv := hR.eval' hkx
 rw [hx] at hv
 generalize hu : a.eval y = u at h
 cases h with
 | d h =>
  obtain ⟨v', w', hr, hR', hdr, hnn⟩ := bAe ht hR hv h hk1 hk2 hb hby ty
  unfold Oper.wp
  have hrun : (execOp a.eval ⟨some d, .call { callee := .builtin .append, args := #[x, y], argTypes := #[t, t] }, ty, pos, af, gd⟩).run P w = .ok (.value v') w' := by
   simp [execOp, resolve, invoke, builtin, hu, hr]
  rw [hrun, Oper.upon_value]
  refine hK _ _ _ rfl (hR'.put (o := ⟨some d, .call { callee := .builtin .append, args := #[x, y], argTypes := #[t, t] }, ty, pos, af, gd⟩) rfl hd ?_)
  cases nn with
  | false => exact .d hdr
  | true => exact .d (hdr.strong (hnn rfl))
theorem aSt {nn : Bool} {α : Type} {t e k bytes : Nat} {z : Value} {x y : Operand} {f : α → List D} {xs ys zs : List α} {ty : TypeId} {pos : String} {af : Array Edge} {gd : Option (Nat × Bool)} (hd : d < n) (ht : SliceTy P t e k bytes z)
  (hx : st.eval x = .fl nn k (xs.map f)) (hy : st.eval y = .d (.sl k (ys.map f))) (hk : ∀ x, (f x).length = k)
  (h : app bytes xs ys = some zs) (hby : Nat.blt 0 bytes = true) :
  bL P n ⟨some d, .call { callee := .builtin .append, args := #[x, y], argTypes := #[t, t] }, ty, pos, af, gd⟩ st (st.set d (bif nn then .d (.sn k (zs.map f)) else .d (.sl k (zs.map f)))) := by
 obtain ⟨h1, rfl⟩ := aTx h
 have := aWy (ty := ty) (pos := pos) (af := af) (gd := gd) hd ht hx hy (bY hk) (bY hk) (by simpa using h1) (aE hby)
 simpa using this
end
theorem aLa {w : World} {X : bV} {zs : List D} (h : zOK zs = true) : DRs w X zs (zs.map bS) := aFf h
end Go.Am
