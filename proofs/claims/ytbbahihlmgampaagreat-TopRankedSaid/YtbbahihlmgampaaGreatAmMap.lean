/- The program logic 'Am': maps. -/
import Derived.Test.YtbbahihlmgampaaGreatAmRes
import Derived.MapKept
import Derived.ChangeKeysEq
namespace Go.Am
def sF {α : Type} [DecidableEq α] (a : α) : List α → Option Nat
 | [] => none
 | b :: l => bif decide (a = b) then some 0 else (sF a l).map (· + 1)
structure aBi (P : Program) (kt : TypeId) {α : Type} [DecidableEq α] (kv : α → Value) : Prop where
 chk : ∀ b a w, (Instr.checkKey b 10000 kt (kv a)).run P w = .ok () w
 find : ∀ (a : α) (l : List α) (ms : List MapEntry) (w : World), ms.map (·.key) = l.map kv →
  (Instr.findKey kt (kv a) ms).run P w = .ok ((sF a l).bind fun i => (ms[i]?).map fun e => (i, e.val)) w
 stays : ∀ a w, (Instr.keyThatStays (kv a) (kv a)).run P w = .ok (kv a) w
 inj : ∀ a b, kv a = kv b → a = b
section
variable {P : Program} {n d : Nat} {st : St}
theorem aJz {t : TypeId} {ty : TypeId} {pos : String} {af : Array Edge} {gd : Option (Nat × Bool)} (hd : d < n) :
  Step P n ⟨some d, .makeMap t none, ty, pos, af, gd⟩ st (fun s => ∃ r, s = ⟨upd st.env d (.d (.lit (.map (some r)))), st.objs ++ [.map r [] [] 0]⟩) := by
 intro A M w0 a w hR K Q hK
 unfold Oper.wp
 have hrun : (execOp a.eval ⟨some d, .makeMap t none, ty, pos, af, gd⟩).run P w = .ok (.value (.map (some w.heap.size))) (w.alloc (.map #[] 0)) := by
  simp [execOp, Instr.makeMap]
 rw [hrun, Oper.upon_value]
 refine hK _ _ _ ⟨w.heap.size, rfl⟩ ?_
 have hR' := hR.add (w' := w.alloc (.map #[] 0)) (m := .map w.heap.size [] [] 0) (Keeps.alloc _ _ _)
  (fun b o hf => by simp [MO.foot] at hf; omega)
  (fun hmo => ⟨#[], heap_alloc_new w _, trivial, rfl, List.Pairwise.nil, fun b hb => by simp at hb⟩)
 exact hR'.put (o := ⟨some d, .makeMap t none, ty, pos, af, gd⟩) rfl hd (.of_lit rfl)
end
def aH {α β : Type} [DecidableEq α] (a : α) (z : β) : List (α × β) → β
 | [] => z
 | (b, v) :: l => bif decide (a = b) then v else aH a z l
def dS {α β : Type} [DecidableEq α] (a : α) (v : β) : List (α × β) → List (α × β)
 | [] => [(a, v)]
 | (b, u) :: l => bif decide (a = b) then (b, v) :: l else (b, u) :: dS a v l
def lS {α β : Type} [DecidableEq α] (a : α) : List (α × β) → Bool
 | [] => false
 | (b, _) :: l => decide (a = b) || lS a l
theorem MRs.keys {w : World} {X : bO} : ∀ {es : List (Value × AV)} {ms : List MapEntry}, MRs w X es ms → ms.map (·.key) = es.map (·.1)
 | [], [], _ => rfl
 | (_, _) :: _, _ :: _, h => by simp [h.1, MRs.keys h.2.2]
theorem MRs.get {w : World} {X : bO} : ∀ {es : List (Value × AV)} {ms : List MapEntry}, MRs w X es ms → ∀ {j : Nat} {e : Value × AV}, es[j]? = some e → ∃ m, ms[j]? = some m ∧ VR w X e.2 m.val
 | [], [], _, j, e, h => by simp at h
 | (_, _) :: _, m :: _, h, 0, e, he => by simp at he; subst he; exact ⟨m, rfl, h.2.1⟩
 | (_, _) :: _, m :: _, h, j + 1, e, he => by simpa using MRs.get h.2.2 (j := j) (by simpa using he)
theorem wY {α β : Type} [DecidableEq α] (a : α) (z : β) : ∀ (l : List (α × β)), (sF a (l.map (·.1)) = none ∧ aH a z l = z) ∨ ∃ j p, sF a (l.map (·.1)) = some j ∧ l[j]? = some p ∧ aH a z l = p.2 ∧ p.1 = a
 | [] => .inl ⟨rfl, rfl⟩
 | (b, v) :: l => by
  simp only [List.map_cons, sF, aH]
  by_cases hab : a = b
  ·exact .inr ⟨0, (b, v), by simp [hab], rfl, by simp [hab], hab.symm⟩
  ·rcases wY a z l with ⟨h1, h2⟩ | ⟨j, p, h1, h2, h3, h4⟩
   ·exact .inl ⟨by simp [hab, h1], by simp [hab, h2]⟩
   ·exact .inr ⟨j + 1, p, by simp [hab, h1], by simpa using h2, by simp [hab, h3], h4⟩
section
variable {P : Program} {n d : Nat} {st : St}
theorem lG {w : World} {r : Nat} {ms : Array MapEntry} {clock : Nat} (h : w.heap[r]? = some (.map ms clock)) : (getObj r).run P w = .ok (.map ms clock) w := by simp [getObj, Sem.run, h]
def aGo {α : Type} (kv : α → Value) (x : AV) (a : α) : Prop := ∀ w X u, VR w X x u → u = kv a
theorem aSq {t kt et : TypeId} {α β : Type} [DecidableEq α] {kv : α → Value} {av : β → AV} {l : List (α × β)} {z : β} {zv : Value} {a : α} {x y : Operand} {r m : Nat} {bs : List Nat} {clock : Nat} {ty : TypeId} {pos : String} {af : Array Edge} {gd : Option (Nat × Bool)} (hd : d < n)
  (hk : aBi P kt kv) (ht : P.underlying t = some (.map kt et)) (hz : ∀ w, (zeroValue et).run P w = .ok zv w) (hzv : ∀ w X, VR w X (av z) zv)
  (hx : st.eval x = .d (.lit (.map (some r)))) (ho : st.objs[m]? = some (.map r (l.map fun p => (kv p.1, av p.2)) bs clock)) (hyk : fD y = true) {yv : AV} (hyv : st.eval y = yv) (hy : aGo kv yv a) :
  bM P n ⟨some d, .lookup t x y false, ty, pos, af, gd⟩ st (st.set d (av (aH a z l))) :=
 cV rfl hd fun A M w0 ac w hR => by
  obtain ⟨ms, hh, hms, _⟩ := hR.inv.holds _ (List.mem_of_getElem? ho)
  have hkey := hy _ _ _ (hyv ▸ hR.eval' hyk)
  have hkeys : ms.toList.map (·.key) = (l.map (·.1)).map kv := by rw [hms.keys]; simp
  have hf := hk.find a (l.map (·.1)) ms.toList w hkeys
  rcases wY a z l with ⟨h1, h2⟩ | ⟨j, p, h1, h2, h3, h4⟩
  ·refine ⟨zv, ?_, by rw [h2]; exact hzv _ _⟩
   simp [execOp, hR.lit hx, hkey, Instr.lookup, run_underlying ht, lG hh, hk.chk, hf, h1, hz]
  ·obtain ⟨e, he, hv⟩ := hms.get (j := j) (e := (kv p.1, av p.2)) (by simp [h2])
   refine ⟨e.val, ?_, by rw [h3]; exact hv⟩
   simp only [Array.getElem?_toList] at he
   simp [execOp, hR.lit hx, hkey, Instr.lookup, run_underlying ht, lG hh, hk.chk, hf, h1, he]
end
def mbs {α β : Type} [DecidableEq α] (a : α) (l : List (α × β)) (bs : List Nat) (clock : Nat) : List Nat := bif lS a l then bs else bs ++ [clock]
def mck {α β : Type} [DecidableEq α] (a : α) (l : List (α × β)) (clock : Nat) : Nat := bif lS a l then clock else clock + 1
theorem sO {α β : Type} [DecidableEq α] (a : α) : ∀ (l : List (α × β)), lS a l = (sF a (l.map (·.1))).isSome
 | [] => rfl
 | (b, v) :: l => by
  simp only [lS, List.map_cons, sF, sO a l]
  by_cases hab : a = b <;> simp [hab]
theorem Keeps.setObj (w : World) (r : Nat) (o : Obj) : Keeps (fun b _ => b = r) w { w with heap := w.heap.setIfInBounds r o } := by
 have hb : ∀ b, b ≠ r → (w.heap.setIfInBounds r o)[b]? = w.heap[b]? := fun b h => Array.getElem?_setIfInBounds_ne (Ne.symm h)
 exact ⟨rfl, rfl, rfl, by simp, fun b _ h => hb b (h 0), fun b o _ h => World.cell?_of_block (hb b h), fun b o _ h => World.frozen?_of_block (hb b h), Nat.le_refl _⟩
section
variable {P : Program} {n d : Nat} {st : St}
theorem aCs {w : World} {r : Nat} {es : Array MapEntry} {clock : Nat} (o : Obj) (hb : w.heap[r]? = some (.map es clock)) : (setObj r o).run P w = .ok () { w with heap := w.heap.setIfInBounds r o } := by
 simp [setObj, Sem.run, hb]
theorem MRs.snoc {w : World} {X : bO} : ∀ {es : List (Value × AV)} {ms : List MapEntry} {k : Value} {x : AV} {m : MapEntry}, MRs w X es ms → m.key = k → VR w X x m.val → MRs w X (es ++ [(k, x)]) (ms ++ [m])
 | [], [], _, _, _, _, h1, h2 => ⟨h1, h2, trivial⟩
 | (_, _) :: _, _ :: _, _, _, _, h, h1, h2 => ⟨h.1, h.2.1, MRs.snoc h.2.2 h1 h2⟩
end
theorem aNz {α β : Type} [DecidableEq α] (a : α) (v : β) : ∀ (l : List (α × β)) (j : Nat), sF a (l.map (·.1)) = some j → dS a v l = l.set j (a, v)
 | [], j, h => by simp [sF] at h
 | (b, u) :: l, j, h => by
  simp only [List.map_cons, sF] at h
  by_cases hab : a = b
  ·simp [hab] at h; subst h; simp [dS, hab]
  ·simp [hab] at h
   obtain ⟨i, hi, rfl⟩ := h
   simp [dS, hab, aNz a v l i hi]
theorem MRs.set {w : World} {X : bO} : ∀ {es : List (Value × AV)} {ms : List MapEntry} {j : Nat} {k : Value} {x : AV} {u : Value}, MRs w X es ms → (es[j]?).map (·.1) = some k → VR w X x u →
  MRs w X (es.set j (k, x)) (ms.modify j fun e => { e with val := u })
 | [], [], _, _, _, _, _, _, _ => by simp; trivial
 | (k0, x0) :: es, m :: ms, 0, k, x, u, h, hk, hv => by
  simp at hk; subst hk
  simp only [List.set_cons_zero, List.modify_zero_cons]
  exact ⟨h.1, hv, h.2.2⟩
 | (k0, x0) :: es, m :: ms, j + 1, k, x, u, h, hk, hv => by
  simp only [List.set_cons_succ, List.modify_succ_cons]
  exact ⟨h.1, h.2.1, MRs.set h.2.2 (by simpa using hk) hv⟩
section
variable {P : Program} {n d : Nat} {st : St}
end
theorem aSg (k : IntKind) (a : Int) (P : Program) (w : World) : (Instr.keyThatStays (.int k a) (.int k a)).run P w = .ok (.int k a) w := by
 simp [Instr.keyThatStays, Instr.sameBits]
theorem aEx {k : IntKind} (a : Int) : ∀ (l : List Int) (ms : List MapEntry) (i : Nat), ms.map (·.key) = l.map (fun n => Value.int k n) →
  Instr.findNow (.int k) (.int k a) ms i = some ((sF a l).bind fun j => (ms[j]?).map fun e => (i + j, e.val))
 | [], [], _, _ => by simp [Instr.findNow, sF]
 | b :: l, m :: ms, i, h => by
  simp only [List.map_cons, List.cons.injEq] at h
  simp only [Instr.findNow, h.1, Instr.sameNow, if_true, sF]
  have ih := aEx (k := k) a l ms (i + 1) h.2
  by_cases hab : a = b
  ·simp [hab]
  ·have e : (a == b) = false := by simpa using hab
   simp only [e, hab, decide_false, cond_false]
   rw [ih]
   cases sF a l with
   | none => rfl
   | some j => simp [Nat.add_assoc, Nat.add_comm 1 j]
 | [], _ :: _, _, h => by simp at h
 | _ :: _, [], _, h => by simp at h
theorem aQn {P : Program} {kt : TypeId} {k : IntKind} (hu : P.underlying kt = some (.int k)) : aBi P kt (fun n : Int => .int k n) where
 chk b a w := by
  rw [show (10000 : Nat) = 9999 + 1 from rfl]
  generalize (9999 : Nat) = m
  simp only [Instr.checkKey, Sem.run_bind, run_underlying hu, Result.andThen_ok]
  rfl
 find a l ms w h := by simp [Instr.findKey, run_underlying hu, aEx a l ms 0 h]
 stays a w := aSg k a P w
 inj a b h := by simpa using h
theorem eE {α : Type} {kv : α → Value} (a : α) : aGo kv (.d (.lit (kv a))) a := fun _ _ _ h => h.lit
section
variable {P : Program} {n d : Nat} {st : St}
end
end Go.Am
