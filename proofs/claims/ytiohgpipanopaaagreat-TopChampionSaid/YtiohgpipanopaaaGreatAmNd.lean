/- The program logic 'Am': looks into frozen maps; functions whose outcome depends on an order. -/
import Derived.Test.YtiohgpipanopaaaGreatAmIter
namespace Go.Am
def aHh (agg : Bool) (ds : List D) : AV := bif agg then .agg ds else .d (ds.getD 0 (.lit undef))
theorem aNs {w : World} {X : bZ} {agg : Bool} {es : List (Value × List D)} {u : Value} (h : DR w X (.mp agg es) u) :
  ∃ r clock, ∃ ms : Array MapEntry, u = .map (some r) ∧ w.heap[r]? = some (.map ms clock) ∧ ms.toList.map (·.key) = es.map (·.1) ∧
   ∀ (i : Nat) (m : MapEntry) (e : Value × List D), ms.toList[i]? = some m → es[i]? = some e → VR w X (aHh agg e.2) m.val := by
 cases h with
 | mp _ _ r clock ms f hb hx hk hp hc hv h1 hr =>
  refine ⟨r, clock, ms, rfl, hb, hk, fun i m e hi he => ?_⟩
  rw [hv i m e hi he]
  cases agg with
  | true =>
   refine .agg (DRs.of (by simp) fun j d v hd hv => ?_)
   have hj : j < e.2.length := (List.getElem?_eq_some_iff.1 hd).1
   simp [hj] at hv
   subst hv
   exact hr i j e d he hd
  | false =>
   have hl := h1 rfl e (List.mem_of_getElem? he)
   have hd : e.2[0]? = some (e.2.getD 0 (.lit undef)) := by simp [List.getD, show 0 < e.2.length by omega]
   exact .d (hr i 0 e _ he hd)
section
variable {P : Program} {n d : Nat} {st : St}
theorem aXb {kt : TypeId} {α β : Type} [DecidableEq α] {kv : α → Value} {enc : β → List D} {agg : Bool} {l : List (α × β)} {a : α} {z : β} (hk : sW P kt kv) {w : World} {X : bZ} {ms : Array MapEntry}
  (hkeys : ms.toList.map (·.key) = (l.map fun p => (kv p.1, enc p.2)).map (·.1)) (hval : ∀ (i : Nat) (m : MapEntry) (e : Value × List D), ms.toList[i]? = some m → (l.map fun p => (kv p.1, enc p.2))[i]? = some e → VR w X (aHh agg e.2) m.val) :
  ((Instr.findKey kt (kv a) ms.toList).run P w = .ok none w ∧ cO a l = false ∧ cK a z l = z) ∨ ∃ (j : Nat) (u : Value), (Instr.findKey kt (kv a) ms.toList).run P w = .ok (some (j, u)) w ∧ cO a l = true ∧ VR w X (aHh agg (enc (cK a z l))) u := by
 have hkeys' : ms.toList.map (·.key) = (l.map (·.1)).map kv := by rw [hkeys]; simp
 have hf := hk.find a (l.map (·.1)) ms.toList w hkeys'
 rcases qD a z l with ⟨h1, h2⟩ | ⟨j, p, h1, h2, h3, h4⟩
 ·left
  rw [h1] at hf
  exact ⟨hf, by rw [mF, h1]; rfl, h2⟩
 ·right
  have hjl := (List.getElem?_eq_some_iff.1 h2).1
  have hlen : ms.toList.length = l.length := by have := congrArg List.length hkeys'; simpa using this
  have hm : ms.toList[j]? = some (ms.toList[j]'(by omega)) := List.getElem?_eq_getElem (by omega)
  rw [h1] at hf
  simp only [Option.bind_some, hm, Option.map_some] at hf
  refine ⟨j, _, hf, by rw [mF, h1]; rfl, ?_⟩
  have := hval j _ (kv p.1, enc p.2) hm (by simp [h2])
  rw [h3]
  exact this
theorem rG {t kt et : TypeId} {α β : Type} [DecidableEq α] {kv : α → Value} {enc : β → List D} {agg : Bool} {l : List (α × β)} {z : β} {zv : Value} {a : α} {x y : Operand} {ty : TypeId} {pos : String} {af : Array Edge} {gd : Option (Nat × Bool)} (hd : d < n)
  (hk : sW P kt kv) (ht : P.underlying t = some (.map kt et)) (hz : ∀ w, (zeroValue et).run P w = .ok zv w) (hzv : ∀ w X, VR w X (aHh agg (enc z)) zv)
  (hx : st.eval x = .d (.mp agg (l.map fun p => (kv p.1, enc p.2)))) (hxk : eC x = true) (hyk : eC y = true) {yv : AV} (hyv : st.eval y = yv) (hy : xX kv yv a) :
  bR P n ⟨some d, .lookup t x y true, ty, pos, af, gd⟩ st (st.set d (.tup [aHh agg (enc (cK a z l)), .d (.lit (.bool (cO a l)))])) :=
 dE rfl hd fun A M w0 ac w hR => by
  have h := hR.eval' hxk
  rw [hx] at h
  generalize hu : ac.eval x = u at h
  cases h with
  | d h =>
   obtain ⟨r, clock, ms, rfl, hh, hkeys, hval⟩ := aNs h
   have hkey := hy _ _ _ (hyv ▸ hR.eval' hyk)
   rcases aXb (a := a) (z := z) hk hkeys hval with ⟨hf, hhas, h2⟩ | ⟨j, v, hf, hhas, hv⟩
   ·refine ⟨.tuple #[zv, .bool false], ?_, .tup (us := [_, _]) rfl fun i hi => by
     match i, hi with
     | 0, _ => rw [h2]; exact hzv _ _
     | 1, _ => rw [hhas]; exact .d (.lit _ rfl)⟩
    simp [execOp, hu, hkey, Instr.lookup, run_underlying ht, eQ hh, hk.chk, hf, hz]
   ·refine ⟨.tuple #[v, .bool true], ?_, .tup (us := [_, _]) rfl fun i hi => by
     match i, hi with
     | 0, _ => exact hv
     | 1, _ => rw [hhas]; exact .d (.lit _ rfl)⟩
    simp [execOp, hu, hkey, Instr.lookup, run_underlying ht, eQ hh, hk.chk, hf]
theorem aPj {t kt et : TypeId} {agg : Bool} {es : List (Value × List D)} {x : Operand} {ty : TypeId} {pos : String} {af : Array Edge} {gd : Option (Nat × Bool)} (hd : d < n)
  (ht : P.underlying t = some (.map kt et)) (hx : st.eval x = .d (.mp agg es)) (hxk : eC x = true) :
  bR P n ⟨some d, .call { callee := .builtin .len, args := #[x], argTypes := #[t] }, ty, pos, af, gd⟩ st (st.set d (.i es.length)) :=
 dE rfl hd fun A M w0 ac w hR => by
  have h := hR.eval' hxk
  rw [hx] at h
  generalize hu : ac.eval x = u at h
  cases h with
  | d h =>
   obtain ⟨r, clock, ms, rfl, hh, hkeys, hval⟩ := aNs h
   have : ms.size = es.length := by have := congrArg List.length hkeys; simpa using this
   refine ⟨.int .i64 es.length, ?_, .d (.lit _ rfl)⟩
   simp [execOp, resolve, hu, invoke, builtin, Builtin.len_, run_underlying ht, eQ hh, goInt, this]
theorem sT {S : Type} {c : Code} {Q : Exit → St → Prop} (l : List Nat) (us : S → List (Nat × AV)) (objs : S → List MO) (F : Nat → S → Prop) (hz : ∀ s, ¬ F 0 s) {k0 : Nat} (s0 : S) (h0 : F k0 s0)
  (he : Ent st ⟨tN (keep l st.env) (us s0), objs s0⟩)
  (body : ∀ k s, F (k + 1) s → Tr P n c ⟨tN (keep l st.env) (us s), objs s⟩ (kH (fun st' => ∃ s', F k s' ∧ Ent st' ⟨tN (keep l st.env) (us s'), objs s'⟩) Q)) : Tr P n (.loop c) st Q := by
 classical
 have hF : ∀ k s, (if F k s then some () else none) = some () ↔ F k s := fun k s => by split <;> simp_all
 refine eO l us objs (fun k s => if F k s then some () else none) (fun s => if_neg (hz s)) s0 ((hF k0 s0).2 h0) he fun k s h => ?_
 have := body k s ((hF (k + 1) s).1 h)
 refine wL this ?_
 intro e s' hq
 cases e with
 | normal =>
  obtain ⟨s'', h1, h2⟩ := hq
  exact ⟨s'', (hF k s'').2 h1, h2⟩
 | _ => exact hq
def nb {α : Type} (o : Option α) (f : α → Prop) : Prop := ∃ x, o = some x ∧ f x
theorem dN {α : Type} {o : Option α} {f : α → Prop} (h : nb o f) : ∃ x, o = some x ∧ f x := h
theorem aPr {a b : Prop} {c : Bool} (hc : c = true) (h : bif c then a else b) : a := by subst hc; exact h
theorem aPq {a b : Prop} {c : Bool} (hc : c = false) (h : bif c then a else b) : b := by subst hc; exact h
def aIy : AV → Bool
 | .d (.lit _) => true
 | .agg ds => fD ds
 | .tup vs => vs.all fun v => match v with
  | .d (.lit _) => true
  | .agg ds => fD ds
  | _ => false
 | _ => false
theorem aEr {w w' : World} {X X' : bZ} : ∀ {ds : List D} {vs : List Value}, fD ds = true → DRs w X ds vs → DRs w' X' ds vs
 | [], [], _, _ => trivial
 | .lit v :: ds, u :: vs, hl, h => by
  refine ⟨?_, aEr (by simpa [fD] using hl) h.2⟩
  have h1 := h.1
  cases h1 with
  | lit _ hv => exact .lit _ hv
 | .sl _ _ :: _, _ :: _, hl, _ => by simp [fD] at hl
 | .sn _ _ :: _, _ :: _, hl, _ => by simp [fD] at hl
 | .mp _ _ :: _, _ :: _, hl, _ => by simp [fD] at hl
 | .pt _ :: _, _ :: _, hl, _ => by simp [fD] at hl
 | [], _ :: _, _, h => h.elim
 | _ :: _, [], _, h => h.elim
theorem VR.litMove {w w' : World} {X X' : bZ} {r : AV} {v : Value} (hl : aIy r = true) (h : VR w X r v) : VR w' X' r v := by
 have one : ∀ (x : AV) (u : Value), (match x with | .d (.lit _) => true | .agg ds => fD ds | _ => false) = true → VR w X x u → VR w' X' x u := by
  intro x u hx h
  cases h with
  | @d y u h =>
   cases y with
   | lit v => cases h with | lit _ hv => exact .d (DR.lit _ hv)
   | _ => simp at hx
  | agg h => exact .agg (aEr hx h)
  | _ => simp at hx
 cases r with
 | tup vs =>
  cases h with
  | tup hlen h =>
   refine .tup hlen fun i hi => one _ _ ?_ (h i hi)
   simp only [aIy, List.all_eq_true] at hl
   have := hl vs[i] (List.getElem_mem hi)
   simpa [List.getD, hi] using this
 | d x => exact one _ _ (by cases x <;> simp_all [aIy]) h
 | agg ds => exact one _ _ hl h
 | _ => simp [aIy] at hl
def uT (m : MO) : Prop := ∀ (w : World) (X X' : bZ), m.holds w X → m.holds w X'
theorem aLh {v : Value} {e k : Nat} {rows : List (List D)} (h : fD rows.flatten = true) : uT (.arr v e k rows) := by
 rintro w X X' ⟨xs, h1, h2, h3⟩
 exact ⟨xs, aEr h h1, h2, h3⟩
theorem aOb {c : Callee} {l : List Operand} {f : FuncId} {args args' : List AV} {Qc : AV → List MO → Prop} {passed rest : List MO} {ts : Array TypeId} {ty : TypeId} {pos : String} {af : Array Edge} {gd : Option (Nat × Bool)} (hd : d < n)
  (ho : st.objs = passed ++ rest) {a0 : List AV} (hc : rH P st c l f a0) (ha : a0 = args) (hok : oZ l = true) (hb : BVs rest args args') (hf : dR P f args' passed Qc)
  (hp : ∀ m ∈ passed, uT m) (hr : ∀ r o, Qc r o → aIy r = true ∧ ∀ m ∈ o, uT m) :
  Step P n ⟨some d, .call { callee := c, args := l.toArray, argTypes := ts }, ty, pos, af, gd⟩ st (fun s => ∃ r objs', Qc r objs' ∧ s = ⟨upd st.env d r, objs' ++ rest⟩) := by
 replace ha := ha.symm; subst ha
 intro A M w0 a w hR K Q hK
 obtain ⟨vs, hrun, hvs⟩ := yH (d := d) (ts := ts) (ty := ty) (pos := pos) (af := af) (gd := gd) hR hc hok
 unfold Oper.wp
 rw [hrun, Oper.upon_enter]
 have hs0 := hR.keeps.size
 have hsep := hR.inv.sep
 rw [ho] at hsep
 have hsp := List.pairwise_append.1 hsep
 have hin : ∀ m ∈ passed, m ∈ st.objs := fun m hm => by rw [ho]; exact List.mem_append.2 (.inl hm)
 have hir : ∀ m ∈ rest, m ∈ st.objs := fun m hm => by rw [ho]; exact List.mem_append.2 (.inr hm)
 have hlt : ∀ b o, A b o → b < w.heap.size := fun b o h => Nat.lt_of_lt_of_le (hR.old b o h) hs0
 have hinv0 : Inv w A passed := ⟨hsp.1, fun m hm => hR.inv.apart m (hin m hm), fun m hm => hp m hm _ _ _ (hR.inv.holds m (hin m hm))⟩
 have hvs' : VRs w (bN A passed) args' vs := hb.sound (fun m hm => hR.inv.holds m (hir m hm)) (fun b o h => h.imp id fun ⟨m, hm, hx⟩ => ⟨m, hin m hm, hx⟩) (fun m hm b o hf hx => by
  rcases hx with hx | ⟨m', hm', hf'⟩
  ·exact hR.inv.apart m (hir m hm) b o hf hx
  ·exact hsp.2.2 m' hm' m hm b o hf' hf) hvs
 refine (hf A w vs hinv0 hlt hvs').mono ?_
 rintro e w' ⟨v, r, objs', rfl, hk, hinv, hv, hnew, hq⟩
 obtain ⟨hlit, hpl⟩ := hr r objs' hq
 refine hK _ _ _ ⟨r, objs', hq, rfl⟩ ?_
 have hdis : ∀ m ∈ objs', ∀ m' ∈ rest, ∀ b o, m.foot b o → ¬ m'.foot b o := by
  intro m hm m' hm' b o h1 h2
  rcases hnew m hm b o h1 with ⟨q, hq', hqf⟩ | h
  ·exact hsp.2.2 q hq' m' hm' b o hqf h2
  ·have := lR (hR.inv.holds m' (hir m' hm')) h2; omega
 have hR2 : R A M w0 n ⟨st.env, objs' ++ rest⟩ a w' := by
  refine hR.change hk (fun b o ⟨m, hm, hf⟩ => ⟨m, hin m hm, hf⟩) (fun b o hb hx => ?_) ?_ fun hm m hmm => ?_
  ·rcases nF.1 hx with ⟨m, hm, hf⟩ | ⟨m, hm, hf⟩
   ·rcases hnew m hm b o hf with ⟨m', hm', hf'⟩ | h
    ·exact ⟨m', hin m' hm', hf'⟩
    ·omega
   ·exact ⟨m, hir m hm, hf⟩
  ·exact List.pairwise_append.2 ⟨hinv.sep, hsp.2.1, fun x hx y hy b o h1 h2 => hdis x hx y hy b o h1 h2⟩
  ·rcases List.mem_append.1 hmm with h | h
   ·exact hpl m h _ _ _ (hinv.holds m h)
   ·exact cV (hR.inv.holds m (hir m h)) hk (fun b o hf ⟨m', hm', hf'⟩ => hsp.2.2 m' hm' m h b o hf' hf) hm
 exact R.put (o := ⟨some d, .call { callee := c, args := l.toArray, argTypes := ts }, ty, pos, af, gd⟩) hR2 rfl hd (hv.litMove hlit)
def cM {α : Type} (enc : α → List D) : Option α → AV
 | none => .d (.lit (.pointer none))
 | some x => .cp (enc x)
theorem rN {α : Type} {enc : α → List D} {o : Option α} {a : α} {x : Operand} {ty : TypeId} {pos : String} {af : Array Edge} {gd : Option (Nat × Bool)} (hd : d < n) (hx : st.eval x = cM enc o) (h : o = some a) :
  bR P n ⟨some d, .nilCheck x, ty, pos, af, gd⟩ st (st.set d (.cp (enc a))) := by
 subst h
 exact eB hd hx
theorem aKa {α : Type} {enc : α → List D} {env : Nat → AV} {objs : List MO} {k : Nat} {o : Option α} {a : α} (hk : env k = cM enc o) (h : o = some a) : Ent ⟨env, objs⟩ ⟨upd env k (.cp (enc a)), objs⟩ :=
 aJz fun j => by
  by_cases hj : k = j
  ·subst hj
   right
   rw [gW, hk, h]
   rfl
  ·rw [nC _ _ hj]; exact .inr rfl
end
section
variable {P : Program} {n d : Nat} {st : St}
theorem aRp {k : Nat} {rows : List (List D)} {x : Operand} {t u el ty : TypeId} {pos : String} {af : Array Edge} {gd : Option (Nat × Bool)} (hd : d < n)
  (hx : st.eval x = .d (.sl k rows)) (hk : eC x = true) (ht : P.underlying t = some (.slice el)) :
  Step P n ⟨some d, .binOp .eql t x (.const (.slice none 0 0)) u, ty, pos, af, gd⟩ st (fun s => ∃ b : Bool, (b = true → rows = []) ∧ s = st.set d (.b b)) := by
 intro A M w0 a w hR K Q hK
 have h := hR.eval' hk
 rw [hx] at h
 generalize hu : a.eval x = v at h
 have key : ∀ (ad : Option Addr) (m cap : Nat), v = .slice ad m cap → (execOp a.eval ⟨some d, .binOp .eql t x (.const (.slice none 0 0)) u, ty, pos, af, gd⟩).run P w = .ok (.value (.bool ad.isNone)) w := by
  rintro ad m cap rfl
  have hb := Lib.run_eql_slice_nil (P := P) w t el ad m cap 0 0 ht
  have hg : eqGuard .eql t x (.const (.slice none 0 0)) (.slice ad m cap) (.slice none 0 0) = pure () := rfl
  have hc : a.eval (.const (.slice none 0 0)) = .slice none 0 0 := rfl
  simp only [execOp, hu, hc, Sem.run_bind, Sem.run_pure, hg, hb, Result.andThen_ok]
 have fin : ∀ (b : Bool), (b = true → rows = []) → (execOp a.eval ⟨some d, .binOp .eql t x (.const (.slice none 0 0)) u, ty, pos, af, gd⟩).run P w = .ok (.value (.bool b)) w → Oper.wp P ⟨some d, .binOp .eql t x (.const (.slice none 0 0)) u, ty, pos, af, gd⟩ a w K Q := by
  intro b hb hrun
  unfold Oper.wp
  rw [hrun, Oper.upon_value]
  exact hK _ _ _ ⟨b, hb, rfl⟩ (hR.put (o := ⟨some d, .binOp .eql t x (.const (.slice none 0 0)) u, ty, pos, af, gd⟩) rfl hd (.d (.lit _ rfl)))
 cases h with
 | d h =>
  generalize hd' : D.sl k rows = dd at h
  cases h with
  | nil => exact fin true (fun _ => by cases hd'; rfl) (key none 0 0 rfl)
  | e0 _ ad => exact fin false (fun h => by cases h) (key (some ad) 0 0 rfl)
  | sl _ _ b o cap f' => exact fin false (fun h => by cases h) (key _ _ _ rfl)
  | _ => cases hd'
theorem aJl {c : Callee} {l : List Operand} {f : FuncId} {args : List AV} {e k : Nat} {rows : List (List D)} {ts : Array TypeId} {ty : TypeId} {pos : String} {af : Array Edge} {gd : Option (Nat × Bool)} (hd : d < n)
  {a0 : List AV} (hc : rH P st c l f a0) (ha : a0 = args) (hok : oZ l = true) (hf : dR P f args [] (fun r' o' => ∃ w, r' = .d (.lit w) ∧ o' = [.arr w e k rows])) :
  Step P n ⟨some d, .call { callee := c, args := l.toArray, argTypes := ts }, ty, pos, af, gd⟩ st (fun s => ∃ w, s = (st.setadd d (.d (.lit w)) (.arr w e k rows))) := by
 intro A M w0 a w hR K Q hK
 refine rM hd hc ha hok hf A M w0 a w hR K Q ?_
 rintro s a' w' ⟨_, _, ⟨v, rfl, rfl⟩, hs⟩ hR'
 exact hK s a' w' ⟨v, hs⟩ hR'
end
theorem aQz {α β : Type} {f : α → β} {l : List α} (h : l.map f = []) : l = [] := List.map_eq_nil_iff.1 h
theorem aYu {α β : Type} {enc : β → List D} {agg : Bool} {fs : List MO} (i : Nat) {r ck : Nat} {bs : List Nat} {l : List (α × β)} {kv : α → Value} {av : β → AV} (ho : fs[i]? = some (.map r (l.map fun p => (kv p.1, av p.2)) bs ck)) (h1 : agg = false → ∀ v, (enc v).length = 1)
  (ha : ∀ v, av v = aHh agg (enc v)) : DV fs (.lit (.map (some r))) (.mp agg (l.map fun p => (kv p.1, enc p.2))) := by
 refine .map r bs ck agg _ (fun h e he => ?_) (List.mem_of_getElem? (i := i) ?_)
 ·obtain ⟨p, _, rfl⟩ := List.mem_map.1 he
  exact h1 h p.2
 ·rw [ho, List.map_map]
  congr 2
  exact List.map_congr_left fun p _ => by simp [ha, aHh]
theorem aId {P : Program} {f : FuncId} {args : List AV} {objs : List MO} {Q Q' : AV → List MO → Prop} (h : dR P f args objs Q) (hq : ∀ r o, Q r o → Q' r o) : dR P f args objs Q' :=
 fun A w vs h1 h2 h3 => (h A w vs h1 h2 h3).mono fun _ _ ⟨v, r, o, a, b, c, d, e, k⟩ => ⟨v, r, o, a, b, c, d, e, hq r o k⟩
theorem aCl {P : Program} {f : FuncId} {args : List AV} {α : Type} {enc : α → AV} {r : α} (h : dR P f args [] (fun r' o' => ∃ x, x = r ∧ r' = enc x ∧ o' = [])) : Fn P f args (enc r) :=
 aId h fun _ _ ⟨_, hx, h1, h2⟩ => ⟨by rw [h1, hx], h2⟩
end Go.Am
