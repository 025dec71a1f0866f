/- Ranges over frozen maps; pointers as data; own slices that a call gives while it is lent things. -/
import Derived.Test.YtfdappeickbpeaaGreatAmPtr
import Derived.Test.YtfdappeickbpeaaGreatAmLent
import Derived.Test.YtfdappeickbpeaaGreatAmPrim
namespace Go.Am
theorem aSb {env : Nat → AV} {objs : List MO} {x y : AV} (k : Nat) (h : env k = x) (hb : BV [] x y) : Ent ⟨env, objs⟩ ⟨upd env k y, objs⟩ :=
 pU (gone := []) (by simp) fun j => by
  by_cases hj : k = j
  ·subst hj; rw [gG, h]; exact hb
  ·rw [lO _ _ hj]; exact .same _
theorem aIq {fs : List MO} (i : Nat) {b o : Nat} {ds es : List D} (ho : fs[i]? = some (.box b o ds)) (h : DVs fs ds es) : DV fs (tE b o 0) (.pt es) := by
 have hl := h.length
 refine .box b o ds es (List.mem_of_getElem? ho) hl fun j hj => ?_
 clear ho
 induction ds generalizing es j with
 | nil => simp at hj
 | cons x ds ih =>
  cases es with
  | nil => exact h.elim
  | cons y es =>
   cases j with
   | zero => exact h.1
   | succ j => simpa using ih h.2 (by simpa using hl) j (by simpa using hj)
def xE {α β : Type} (kv : α → Value) (av : β → AV) (l : List (α × β)) (r : Nat) (bs : List Nat) (ck : Nat) : MO :=
 .ext (fun _ _ => False) fun w X => ∃ ms, w.heap[r]? = some (.map ms ck) ∧ (∀ o, ¬ X r o) ∧ MRs w X (l.map fun p => (kv p.1, av p.2)) ms.toList ∧ ms.toList.map (·.born) = bs ∧ bs.Pairwise (· < ·) ∧ ∀ b ∈ bs, b < ck
theorem aOm {α β : Type} {kv : α → Value} {av : β → AV} {l : List (α × β)} {r : Nat} {bs : List Nat} {ck : Nat} {w : World} {X : bT}
  (h : ∃ ms, w.heap[r]? = some (.map ms ck) ∧ (∀ o, ¬ X r o) ∧ MRs w X (l.map fun p => (kv p.1, av p.2)) ms.toList ∧ ms.toList.map (·.born) = bs ∧ bs.Pairwise (· < ·) ∧ ∀ b ∈ bs, b < ck) : (xE kv av l r bs ck).holds w X := by
 refine ⟨fun _ _ h => h.elim, fun w' X' hm _ => ?_⟩
 obtain ⟨ms, h1, h2, h3, h4⟩ := h
 obtain ⟨k1, k2⟩ := hm.map r ms ck h1 h2
 exact ⟨ms, k1, k2, h3.mono hm, h4⟩
theorem aMz {α β : Type} {kv : α → Value} {av : β → AV} {l : List (α × β)} {r : Nat} {bs : List Nat} {ck : Nat} {w : World} {X : bT} (h : (xE kv av l r bs ck).holds w X) :
  ∃ ms, w.heap[r]? = some (.map ms ck) ∧ MRs w X (l.map fun p => (kv p.1, av p.2)) ms.toList ∧ ms.toList.map (·.born) = bs ∧ bs.Pairwise (· < ·) ∧ ∀ b ∈ bs, b < ck := by
 obtain ⟨ms, h1, _, h3⟩ := h.2 w X (Mono.refl _ _) (Keeps.refl _ _)
 exact ⟨ms, h1, h3⟩
theorem MRs.of {w : World} {X : bT} : ∀ {es : List (Value × AV)} {ms : List MapEntry}, ms.map (·.key) = es.map (·.1) → (∀ (i : Nat) (m : MapEntry) (e : Value × AV), ms[i]? = some m → es[i]? = some e → VR w X e.2 m.val) → MRs w X es ms
 | [], [], _, _ => trivial
 | (k, x) :: es, m :: ms, hk, h => by
  simp only [List.map_cons, List.cons.injEq] at hk
  exact ⟨hk.1, h 0 m (k, x) rfl rfl, MRs.of hk.2 fun i m' e h1 h2 => h (i + 1) m' e (by simpa using h1) (by simpa using h2)⟩
 | [], _ :: _, hk, _ => by simp at hk
 | _ :: _, [], hk, _ => by simp at hk
theorem aXn {w : World} {X : bT} {α β : Type} {kv : α → Value} {enc : β → List D} {agg : Bool} {l : List (α × β)} {av : β → AV} (ha : ∀ v, av v = aBx agg (enc v)) {u : Value} (h : DR w X (.mp agg (l.map fun p => (kv p.1, enc p.2))) u) :
  ∃ r bs ck, u = .map (some r) ∧ bs.length = l.length ∧ (xE kv av l r bs ck).holds w X ∧ ∃ ms, w.heap[r]? = some (.map ms ck) := by
 have hp := aNa h
 cases h with
 | mp _ _ r clock ms f hb hx hk hpw hc hv h1 hr =>
  obtain ⟨r', c', ms', e, hb', hk', hval⟩ := hp
  cases e
  rw [hb] at hb'
  cases hb'
  refine ⟨r, ms.toList.map (·.born), clock, rfl, ?_, aOm ⟨ms, hb, hx, ?_, rfl, hpw, hc⟩, ms, hb⟩
  ·have := congrArg List.length hk
   simpa using this
  ·refine MRs.of (by rw [hk]; simp) fun i m e hi he => ?_
   simp only [List.getElem?_map, Option.map_eq_some_iff] at he
   obtain ⟨p, hp, rfl⟩ := he
   have := hval i m (kv p.1, enc p.2) hi (by simp [hp])
   simp only [ha]
   exact this
section
variable {P : Program} {n d : Nat} {st : St}
theorem aQz {t kt et : TypeId} {α β : Type} {kv : α → Value} {enc : β → List D} {agg : Bool} {l : List (α × β)} {av : β → AV} (ha : ∀ v, av v = aBx agg (enc v)) {x : Operand} {ty : TypeId} {pos : String} {af : Array Edge} {gd : Option (Nat × Bool)} (hd : d < n)
  (ht : P.underlying t = some (.map kt et)) (hx : st.eval x = .d (.mp agg (l.map fun p => (kv p.1, enc p.2)))) (hxk : eO x = true) :
  Step P n ⟨some d, .range t x, ty, pos, af, gd⟩ st (fun s => ∃ q r bs ck, oK l bs [] = l ∧ s = ⟨upd st.env d (.d (.lit (.pointer (some ⟨q, 0, none⟩)))), (st.objs ++ [xE kv av l r bs ck]) ++ [.iter q r ck [] ck]⟩) := by
 intro A M w0 ac w hR K Q hK
 have h := hR.eval' hxk
 rw [hx] at h
 generalize hu : ac.eval x = u at h
 cases h with
 | d h =>
  obtain ⟨r, bs, ck, rfl, hlen, hfact, ms, hh⟩ := aXn ha h
  have hrun : (execOp ac.eval ⟨some d, .range t x, ty, pos, af, gd⟩).run P w = .ok (.value (.pointer (some ⟨w.heap.size, 0, none⟩))) (w.alloc (.mapIter (some r) ck #[] ck)) := by
   simp [execOp, hu, Instr.range, run_underlying ht, iS hh]
  unfold Oper.wp
  rw [hrun, Oper.upon_value]
  refine hK _ _ _ ⟨w.heap.size, r, bs, ck, aSm hlen, rfl⟩ ?_
  have hR1 := hR.add (w' := w) (m := xE kv av l r bs ck) (Keeps.refl _ _) (fun b o hf => hf.elim) (fun hm => by
   obtain ⟨h1, h2⟩ := hfact
   exact ⟨fun _ _ h => h.elim, fun w' X' hm' hk' => h2 w' X' (hm.trans hm') hk'⟩)
  have hR' := hR1.add (w' := w.alloc (.mapIter (some r) ck #[] ck)) (m := .iter w.heap.size r ck [] ck) (Keeps.alloc _ _ _) (fun b o hf => by simp [MO.foot] at hf; omega) (fun hm => by
   show (w.alloc (.mapIter (some r) ck #[] ck)).heap[w.heap.size]? = _
   exact heap_alloc_new w _)
  exact hR'.put (o := ⟨some d, .range t x, ty, pos, af, gd⟩) rfl hd (.of_lit rfl)
theorem aTc {α β : Type} {kv : α → Value} {av : β → AV} {l : List (α × β)} {x : Operand} {q r mi mm : Nat} {bs seen : List Nat} {ck : Nat} {ty : TypeId} {pos : String} {af : Array Edge} {gd : Option (Nat × Bool)} (hd : d < n)
  (hx : st.eval x = .d (.lit (.pointer (some ⟨q, 0, none⟩)))) (hi : st.objs[mi]? = some (.iter q r ck seen ck)) (ho : st.objs[mm]? = some (xE kv av l r bs ck)) :
  Step P n ⟨some d, .next x false, ty, pos, af, gd⟩ st (fun s => (oK l bs seen = [] ∧ s = st.set d (.tup [.d (.lit (.bool false))])) ∨
   ∃ (j b : Nat) (p : α × β), (bs.Pairwise (· < ·) ∧ l[j]? = some p ∧ bs[j]? = some b ∧ b ∉ seen) ∧ s = ⟨upd st.env d (.tup [.d (.lit (.bool true)), .any, .any]), st.objs.set mi (.iter q r ck (seen ++ [b]) ck)⟩) := by
 intro A M w0 ac w hR K Q hK
 obtain ⟨ms, hh, hms, hb1, hb2, hb3⟩ := aMz (hR.inv.holds _ (List.mem_of_getElem? ho))
 have hq : w.heap[q]? = some (.mapIter (some r) ck seen.toArray ck) := hR.inv.holds _ (List.mem_of_getElem? hi)
 have hlen : bs.length = l.length := by rw [← hb1, List.length_map, hms.len, List.length_map]
 have hbj : ∀ j (hj : j < ms.toList.length), bs[j]? = some ms.toList[j].born := by intro j hj; rw [← hb1, List.getElem?_map, List.getElem?_eq_getElem hj]; rfl
 rcases run_next_at (P := P) w ty q r ck ck seen.toArray ms ck hq hh (fun e he => hb3 _ (by rw [← hb1]; exact List.mem_map_of_mem he)) (Nat.le_refl _) with ⟨h0, hrun⟩ | ⟨e, he, w1, hw1, hrun⟩
 ·unfold Oper.wp
  have hrun' : (execOp ac.eval ⟨some d, .next x false, ty, pos, af, gd⟩).run P w = .ok (.value (.tuple #[.bool false])) w := by
   simp [execOp, hR.lit hx, hrun]
  rw [hrun', Oper.upon_value]
  refine hK _ _ _ (.inl ⟨?_, rfl⟩) (hR.put (o := ⟨some d, .next x false, ty, pos, af, gd⟩) rfl hd (.tup (us := [_]) rfl fun i hi => by
   match i, hi with
   | 0, _ => exact .d (.lit _ rfl)))
  unfold oK
  rw [List.map_eq_nil_iff, List.filter_eq_nil_iff]
  intro z hz
  have hz2 := (List.of_mem_zip hz).2
  rw [← hb1] at hz2
  obtain ⟨e, he, hez⟩ := List.mem_map.1 hz2
  have h1 : leftOf ms seen.toArray = #[] := Array.eq_empty_of_size_eq_zero h0
  have h2 : e ∉ (leftOf ms seen.toArray) := by rw [h1]; simp
  simp only [leftOf, Array.mem_filter, not_and] at h2
  have := h2 (by simpa using he)
  simp at this
  simp [← hez, this]
 ·unfold Oper.wp
  have hrun' : (execOp ac.eval ⟨some d, .next x false, ty, pos, af, gd⟩).run P w = .ok (.value (.tuple #[.bool true, e.key, e.val])) (ChangeMaps.setBlock w1 q (.mapIter (some r) ck (seen.toArray.push e.born) ck)) := by
   simp [execOp, hR.lit hx, hrun]
  rw [hrun', Oper.upon_value]
  obtain ⟨hem, hes⟩ := mem_left he
  obtain ⟨j, hj, rfl⟩ := List.getElem_of_mem hem
  have hjl : j < l.length := by rw [← hlen, ← hb1]; simpa using hj
  refine hK _ _ _ (.inr ⟨j, ms.toList[j].born, l[j], ⟨hb2, List.getElem?_eq_getElem hjl, hbj j hj, by simpa using hes⟩, rfl⟩) ?_
  exact (aUm hR hi hw1).put (o := ⟨some d, .next x false, ty, pos, af, gd⟩) rfl hd (.tup (us := [_, _, _]) rfl fun i hi => by
   match i, hi with
   | 0, _ => exact .d (.lit _ rfl)
   | 1, _ => exact .any _
   | 2, _ => exact .any _)
theorem aQv {α β : Type} {kv : α → Value} {av : β → AV} {l : List (α × β)} {x : Operand} {q r mi mm j b : Nat} {p : α × β} {bs seen : List Nat} {ck : Nat} {ka : AV} {ty : TypeId} {pos : String} {af : Array Edge} {gd : Option (Nat × Bool)} (hd : d < n)
  (hx : st.eval x = .d (.lit (.pointer (some ⟨q, 0, none⟩)))) (hi : st.objs[mi]? = some (.iter q r ck (seen ++ [b]) ck)) (ho : st.objs[mm]? = some (xE kv av l r bs ck))
  (hp : bs.Pairwise (· < ·) ∧ l[j]? = some p ∧ bs[j]? = some b ∧ b ∉ seen) (hk : ∀ w X, VR w X ka (kv p.1)) :
  bO P n ⟨some d, .entry x, ty, pos, af, gd⟩ st (st.set d (.tup [ka, av p.2])) :=
 dB rfl hd fun A M w0 ac w hR => by
  obtain ⟨ms, hh, hms, hb1, hb2, hb3⟩ := aMz (hR.inv.holds _ (List.mem_of_getElem? ho))
  have hq : w.heap[q]? = some (.mapIter (some r) ck (seen ++ [b]).toArray ck) := hR.inv.holds _ (List.mem_of_getElem? hi)
  obtain ⟨e, he, hv⟩ := hms.get (j := j) (e := (kv p.1, av p.2)) (by simp [hp.2.1])
  have hborn : e.born = b := by
   have := hp.2.2.1
   rw [← hb1] at this
   simp only [List.getElem?_map, he, Option.map_some, Option.some.injEq] at this
   exact this
  have hkey : e.key = kv p.1 := by
   have := congrArg (fun z => z[j]?) hms.keys
   simp only [List.getElem?_map, he, hp.2.1, Option.map_some, Option.some.injEq] at this
   exact this
  have hq2 : w.heap[q]? = some (.mapIter (some r) ck (seen.toArray.push e.born) ck) := by rw [hq, hborn]; simp
  have hrun := run_entry_at (P := P) w q r ck seen.toArray ms ck e hq2 hh (List.mem_of_getElem? he) (by rw [hb1]; exact hb2.imp fun h => Nat.ne_of_lt h)
  refine ⟨.tuple #[e.key, e.val], by simp [execOp, hR.lit hx, hrun], .tup (us := [_, _]) rfl fun i hi => by
   match i, hi with
   | 0, _ => exact hkey ▸ hk _ _
   | 1, _ => exact hv⟩
end
section
variable {P : Program} {n d : Nat} {st : St}
def aYo (i j : Nat) : Option Nat := if j < i then some j else if j = i then none else some (j - 1)
theorem er {α : Type} {l : List α} {i j : Nat} (j' : Nat) {x : α} (hj : aYo i j' = some j) (h : l[j']? = some x) : (l.eraseIdx i)[j]? = some x := by
 unfold aYo at hj
 split at hj
 ·cases hj
  rw [List.getElem?_eraseIdx, if_pos (by assumption)]
  exact h
 ·split at hj
  ·cases hj
  ·cases hj
   rw [List.getElem?_eraseIdx, if_neg (by omega), show j' - 1 + 1 = j' by omega]
   exact h
theorem dU {α : Type} {l : List α} {i : Nat} {x : α} (h : l[i]? = some x) : l.Perm (x :: l.eraseIdx i) := by
 induction l generalizing i with
 | nil => simp at h
 | cons a l ih =>
  cases i with
  | zero => simp at h; subst h; simp
  | succ i =>
   simp only [List.eraseIdx_cons_succ]
   exact ((ih (by simpa using h)).cons a).trans (.swap _ _ _)
theorem aVf {α : Type} {l : List α} {i : Nat} {x y : α} (h : l[i]? = some x) : (y :: l.eraseIdx i).Perm (l.set i y) := by
 induction l generalizing i with
 | nil => simp at h
 | cons a l ih =>
  cases i with
  | zero => simp
  | succ i =>
   simp only [List.eraseIdx_cons_succ, List.set_cons_succ]
   exact (List.Perm.swap _ _ _).trans ((ih (by simpa using h)).cons a)
theorem aGs {env : Nat → AV} {objs objs' : List MO} (h : objs.Perm objs') : Ent ⟨env, objs⟩ ⟨env, objs'⟩ :=
 pU (gone := []) (by simpa using h) fun _ => .same _
theorem aJm (objs : List MO) : ∀ l, St.evals ⟨st.env, objs⟩ l = st.evals l
 | [] => rfl
 | x :: l => by
  simp only [St.evals, aJm objs l]
  cases x <;> rfl
theorem uO {c : Callee} {l : List Operand} {f : FuncId} {args args' : List AV} {e k : Nat} {rows : List (List D)} {ts : Array TypeId} {ty : TypeId} {pos : String} {af : Array Edge} {gd : Option (Nat × Bool)} (hd : d < n)
  {a0 : List AV} (hc : pM P st c l f a0) (ha : a0 = args) (hok : qK l = true) (hb : BVs st.objs args args') (hf : dW P f args' [] (fun r' o' => ∃ w, r' = .d (.lit w) ∧ o' = [.arr w e k rows])) (hp : eX rows.flatten = true) :
  Step P n ⟨some d, .call { callee := c, args := l.toArray, argTypes := ts }, ty, pos, af, gd⟩ st (fun s => ∃ w, s = (st.setadd d (.d (.lit w)) (.arr w e k rows))) := by
 intro A M w0 a w hR K Q hK
 refine aNp (passed := []) hd rfl hc ha hok hb hf pmn (by rintro _ _ ⟨w, rfl, rfl⟩; exact ⟨rfl, pmc (aEp hp) pmn⟩) A M w0 a w hR K Q ?_
 rintro s a' w' ⟨_, _, ⟨v, rfl, rfl⟩, rfl⟩ hR'
 refine hK _ a' w' ⟨v, rfl⟩ (aGs ?_ A M w0 n a' w' hR')
 exact List.perm_append_comm
theorem aPs (i : Nat) {c : Callee} {l : List Operand} {f : FuncId} {args args' : List AV} {v : Value} {e k : Nat} {rows rows' : List (List D)} {ts : Array TypeId} {ty : TypeId} {pos : String} {af : Array Edge} {gd : Option (Nat × Bool)} (hd : d < n)
  (ho : st.objs[i]? = some (.arr v e k rows)) {a0 : List AV} (hc : pM P st c l f a0) (ha : a0 = args) (hok : qK l = true) (hb : BVs (st.objs.eraseIdx i) args args')
  (hf : dW P f args' [.arr v e k rows] (fun r' o' => ∃ w, r' = .d (.lit w) ∧ o' = [.arr w e k rows'])) (hp : eX rows.flatten = true) (hp' : eX rows'.flatten = true) :
  Step P n ⟨some d, .call { callee := c, args := l.toArray, argTypes := ts }, ty, pos, af, gd⟩ st (fun s => ∃ w, s = (st.setput d (.d (.lit w)) i (.arr w e k rows'))) := by
 have hev : ∀ objs, St.evals ⟨st.env, objs⟩ l = st.evals l := fun objs => aJm objs l
 have hc' : ∀ objs, pM P ⟨st.env, objs⟩ c l f a0 := fun objs => by
  cases hc with
  | func _ _ h => rw [← hev objs]; exact .func _ _ h
  | clo _ _ _ _ h ht => rw [← hev objs]; exact .clo _ _ _ _ h ht
 refine aVp (st1 := ⟨st.env, .arr v e k rows :: st.objs.eraseIdx i⟩) (aGs (dU ho)) ?_
 intro A M w0 a w hR K Q hK
 refine aNp (passed := [.arr v e k rows]) (rest := st.objs.eraseIdx i) hd rfl (hc' _) ha hok hb hf (pmc (aEp hp) pmn) (by rintro _ _ ⟨w, rfl, rfl⟩; exact ⟨rfl, pmc (aEp hp') pmn⟩) A M w0 a w hR K Q ?_
 rintro s a' w' ⟨_, _, ⟨v, rfl, rfl⟩, rfl⟩ hR'
 exact hK _ a' w' ⟨v, rfl⟩ (aGs (aVf ho) A M w0 n a' w' hR')
end
theorem aSf {P : Program} {f : FuncId} {args : List AV} {e k : Nat} {rows : List (List D)} (h : dW P f args [] (fun r' o' => ∃ w, r' = .d (.lit w) ∧ o' = [.arr w e k rows])) : Fn P f args (.d (.sl k rows)) := by
 intro A w vs h1 h2 h3
 refine (h A w vs h1 h2 h3).mono ?_
 rintro e' w' ⟨v, r, o, rfl, hk, hinv, hv, hnew, u, rfl, rfl⟩
 have hsub : Mono w' (bU A [.arr u e k rows]) w' (bU A []) := Mono.sub fun b o h => h.imp id fun ⟨m, hm, _⟩ => by simp at hm
 have hu := hv.lit
 subst hu
 have hh := hinv.holds _ (List.mem_singleton.2 rfl)
 have hlen : ∀ r ∈ rows, r.length = k := hh.choose_spec.2.2
 refine ⟨_, _, [], rfl, hk, ⟨by simp [Sep], by simp, by simp⟩, .d (yL (X' := bU A []) hh (fun b o hb hx => ?_) rfl hlen fun i j _ _ q hq => hq.mono hsub), by simp, rfl, rfl⟩
 rcases hx with hx | ⟨m, hm, _⟩
 ·exact hinv.apart _ (List.mem_singleton.2 rfl) b o hb hx
 ·simp at hm
theorem aSs {P : Program} {f : FuncId} {args : List AV} {α : Type} {e k : Nat} {enc : α → List (List D)} {r : α} (h : dW P f args [] (fun r' o' => ∃ (x : α) (w : Value), x = r ∧ r' = .d (.lit w) ∧ o' = [.arr w e k (enc x)])) : dW P f args [] (fun r' o' => ∃ w, r' = .d (.lit w) ∧ o' = [.arr w e k (enc r)]) :=
 aPw h fun _ _ ⟨_, w, hx, h1, h2⟩ => ⟨w, h1, hx ▸ h2⟩
end Go.Am
