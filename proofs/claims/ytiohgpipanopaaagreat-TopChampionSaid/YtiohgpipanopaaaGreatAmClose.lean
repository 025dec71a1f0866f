/- The program logic 'Am': from the arguments of a statement to data, and back. -/
import Derived.Test.YtiohgpipanopaaaGreatAmFull
import Derived.Carry
import Derived.ChangeArms
import Derived.OpenShut
import Derived.ProofKit
namespace Go.Am
open Go.ChangeShapes Go.WideShapes Go.ChangeAt Go.RowKit
def Rd (P : Program) (t : TypeId) {α : Type} (enc : α → List D) (ok : α → Prop) : Prop :=
 ∀ (H : Type) (eh : TypeId × Value → H) (w : World) (X : bZ), (∀ b o, ¬ X b o) → ∀ (fuel : Nat) (cs : List Value) (x : DataW H × List MemPlace), DataW.trod eh P w 0 (fun _ => true) true fuel t cs = some x →
  ∃ a : α, ok a ∧ DRs w X (enc a) cs
section
variable {P : Program}
theorem tV {t : TypeId} (ht : P.underlying t = some (.int .i64)) : Rd P t aL okI := by
 intro H eh w X hX fuel cs x h
 obtain ⟨n, rfl, _, hw⟩ := DataW.trod_int ht h
 exact ⟨n, by simpa [okI, Lit.wf, IntKind.min, IntKind.max, IntKind.signed, IntKind.bits] using hw, .lit _ rfl, trivial⟩
theorem aPy {t : TypeId} (ht : P.underlying t = some .bool) : Rd P t dC okB := by
 intro H eh w X hX fuel cs x h
 obtain ⟨n, rfl, _⟩ := DataW.trod_bool ht h
 exact ⟨n, trivial, .lit _ rfl, trivial⟩
theorem aNn {α β : Type} {f : α → Option β} : ∀ {l : List α} {vs : List β}, l.mapM f = some vs → vs.length = l.length ∧ ∀ (j : Nat) (x : α), l[j]? = some x → f x = vs[j]?
 | [], vs, h => by
  simp at h
  subst h
  simp
 | a :: l, vs, h => by
  rw [List.mapM_cons] at h
  simp only [bind, Option.bind_eq_some_iff, pure, Option.some.injEq] at h
  obtain ⟨b, hb, bs, hbs, rfl⟩ := h
  obtain ⟨h1, h2⟩ := aNn hbs
  refine ⟨by simp [h1], fun j x hj => ?_⟩
  cases j with
  | zero => simp at hj; subst hj; simpa using hb
  | succ j => simpa using h2 j x (by simpa using hj)
theorem aEe {w : World} {a : Addr} {n : Nat} {vs : List Value} (h : w.cells? 0 a n = some vs) : vs.length = n ∧ ∀ j, j < n → w.cell? (a.add j) = vs[j]? := by
 unfold World.cells? at h
 rw [if_pos (Nat.zero_le _)] at h
 obtain ⟨h1, h2⟩ := aNn h
 exact ⟨by simpa using h1, fun j hj => h2 j j (by simp [hj])⟩
theorem aNy {t e : TypeId} {k : Nat} {α : Type} {enc : α → List D} {ok : α → Prop} (ht : P.underlying t = some (.slice e)) (hc : P.cellsOf e = k) (hk0 : 0 < k) (he : Rd P e enc ok) (hk : ∀ a, (enc a).length = k) :
  Rd P t (fun xs : List α => [.sl k (xs.map enc)]) (okL ok) := by
 intro H eh w X hX fuel cs x h
 subst hc
 rcases DataW.trod_slice ht h with ⟨rfl, _⟩ | ⟨a, len, cap, elems, rest, n, _, rfl, _, hb, hl, hm, hlen, hel, hsp, _⟩
 ·exact ⟨[], ⟨Nat.zero_le _, by simp⟩, .nil _, trivial⟩
 ·have each : ∀ i, i < len → ∃ (y : α) (vs : List Value), ok y ∧ DRs w X (enc y) vs ∧ w.cells? 0 (a.add (i * P.cellsOf e)) (P.cellsOf e) = some vs := by
   intro i hi
   have h1 := hel i hi
   rw [List.getElem?_eq_getElem (by omega)] at h1
   obtain ⟨vs, h2, h3⟩ := Option.bind_eq_some_iff.1 h1
   obtain ⟨y, hy, hd⟩ := he H eh w X hX _ _ _ h3
   exact ⟨y, vs, hy, hd, h2⟩
  have all : ∀ m, m ≤ len → ∃ xs : List α, xs.length = m ∧ ∀ i y, xs[i]? = some y → ok y ∧ ∃ vs, DRs w X (enc y) vs ∧ w.cells? 0 (a.add (i * P.cellsOf e)) (P.cellsOf e) = some vs := by
   intro m
   induction m with
   | zero => exact fun _ => ⟨[], rfl, by simp⟩
   | succ m ih =>
    intro hm
    obtain ⟨xs, hx, hxs⟩ := ih (by omega)
    obtain ⟨y, vs, hy, hd, hcs⟩ := each m (by omega)
    refine ⟨xs ++ [y], by simp [hx], fun i z hz => ?_⟩
    by_cases hi : i < m
    ·rw [List.getElem?_append_left (by omega)] at hz
     exact hxs i z hz
    ·rw [List.getElem?_append_right (by omega), hx] at hz
     have : i = m := by
      have := (List.getElem?_eq_some_iff.1 hz).1
      simp at this; omega
     subst this
     simp at hz
     subst hz
     exact ⟨hy, vs, hd, hcs⟩
  obtain ⟨xs, hxl, hxs⟩ := all len (Nat.le_refl _)
  refine ⟨xs, ⟨by omega, fun y hy => ?_⟩, ?_, trivial⟩
  ·obtain ⟨i, hi⟩ := List.getElem?_of_mem hy
   exact (hxs i y hi).1
  ·by_cases h0 : cap = 0
   ·have : len = 0 := by omega
    subst this; subst h0
    have : xs = [] := List.eq_nil_of_length_eq_zero hxl
    subst this
    exact .e0 _ a
   ·have hspot : a.spot = none := by
     obtain ⟨hs1, hs2⟩ := hsp rfl
     have key : ∃ vs, w.cells? 0 (a.add (0 * P.cellsOf e)) (P.cellsOf e) = some vs := by
      by_cases hl0 : 0 < len
      ·obtain ⟨_, vs, _, _, h⟩ := each 0 hl0
       exact ⟨vs, h⟩
      ·have h1 := hs2 0 (by omega)
       rw [List.getElem?_eq_getElem (by omega)] at h1
       obtain ⟨vs, h2, _⟩ := Option.bind_eq_some_iff.1 h1
       have : len = 0 := by omega
       subst this
       exact ⟨vs, by simpa using h2⟩
     obtain ⟨vs, hvs⟩ := key
     obtain ⟨g1, g2⟩ := aEe hvs
     have g3 := g2 0 hk0
     rw [List.getElem?_eq_getElem (by omega)] at g3
     have := World.cell?_spot g3
     simpa [Addr.add] using this
    obtain ⟨b, o, spot⟩ := a
    simp only at hspot
    subst hspot
    have hxl' : len = (xs.map enc).length := by simp [hxl]
    rw [hxl']
    refine .sl _ _ b o cap (fun i j => (w.cell? ⟨b, o + (i * P.cellsOf e + j), none⟩).getD undef) (fun r hr => ?_) (by rw [← hxl']; exact hl) hm (fun i j hi hj => ?_) (fun i j hi hj => ?_)
    ·obtain ⟨y, _, rfl⟩ := List.mem_map.1 hr
     exact hk y
    ·rw [← hxl'] at hi
     obtain ⟨_, vs, hd, hcs⟩ := hxs i _ (List.getElem?_eq_getElem (by omega))
     obtain ⟨g1, g2⟩ := aEe hcs
     have g3 := g2 j hj
     rw [List.getElem?_eq_getElem (by omega)] at g3
     have e1 : (((⟨b, o, none⟩ : Addr).add (i * P.cellsOf e)).add j) = ⟨b, o + (i * P.cellsOf e + j), none⟩ := by
      rw [Addr.add_lit, Addr.add_lit, Nat.add_assoc]
     rw [e1] at g3
     exact ⟨by simp [g3], hX _ _⟩
    ·rw [← hxl'] at hi
     have hix : i < xs.length := by omega
     obtain ⟨_, vs, hd, hcs⟩ := hxs i _ (List.getElem?_eq_getElem hix)
     obtain ⟨g1, g2⟩ := aEe hcs
     have g3 := g2 j hj
     have e1 : (((⟨b, o, none⟩ : Addr).add (i * P.cellsOf e)).add j) = ⟨b, o + (i * P.cellsOf e + j), none⟩ := by
      rw [Addr.add_lit, Addr.add_lit, Nat.add_assoc]
     rw [e1] at g3
     have hjy : j < (enc xs[i]).length := by rw [hk]; exact hj
     obtain ⟨q, hq, hdq⟩ := hd.get (List.getElem?_eq_getElem hjy)
     rw [hq] at g3
     have e2 : ((xs.map enc).getD i []).getD j (.lit undef) = (enc xs[i])[j] := by
      simp [List.getD, List.getElem?_eq_getElem hix, List.getElem?_eq_getElem hjy]
     rw [e2]
     simp only [g3, Option.getD_some]
     exact hdq
theorem jI {w : World} {X : bZ} {ds1 ds2 : List D} {cs : List Value} {o k : Nat} (h1 : DRs w X ds1 ((cs.drop o).take k)) (h2 : DRs w X ds2 (cs.drop (o + k))) : DRs w X (ds1 ++ ds2) (cs.drop o) := by
 have := h1.append h2
 rw [← List.drop_drop, List.take_append_drop] at this
 exact this
theorem aJy {w : World} {X : bZ} {cs : List Value} {n : Nat} (h : cs.length = n) : DRs w X [] (cs.drop n) := by
 rw [List.drop_of_length_le (by omega)]
 trivial
end
theorem Keeps.below {w w' : World} (h : Keeps (eT []) w w') : RowKit.Below w.heap.size w w' :=
 ⟨h.os, h.tape, h.output, h.size, fun b hb => h.block b hb fun o ⟨m, hm, _⟩ => by simp at hm⟩
theorem aGv {H : Type} {eh : TypeId × Value → H} {P : Program} (hl : laidOutB P = true) {W W' : World} (hb : RowKit.Below W.heap.size W W') :
  ∀ {ts : List TypeId} {vs : List Value} {ds : List (DataW H)} {ps : List MemPlace}, (ts.all fun t => P.readableRec t && decide (t < P.types.size)) = true → (∀ x ∈ ps, x.block < W.heap.size) →
   DataW.TrodAll eh P W 0 (fun _ => true) true ts vs ds ps → DataW.TrodAll eh P W' 0 (fun b => decide (b < W.heap.size)) true ts vs ds ps
 | [], [], [], _, _, _, h => h
 | t :: ts, v :: vs, d :: ds, ps, ht, hlt, h => by
  obtain ⟨p, q, h1, h2, rfl⟩ := h
  simp only [List.all_cons, Bool.and_eq_true, decide_eq_true_eq] at ht
  exact ⟨p, q, RowKit.Below.trod hl ht.1.1 ht.1.2 h1 hb fun x hx => hlt x (List.mem_append.2 (.inl hx)), aGv hl hb ht.2 (fun x hx => hlt x (List.mem_append.2 (.inr hx))) h2, rfl⟩
 | [], _ :: _, _, _, _, _, h => h.elim
 | [], [], _ :: _, _, _, _, h => h.elim
 | _ :: _, [], _, _, _, _, h => h.elim
 | _ :: _, _ :: _, [], _, _, _, h => h.elim
theorem aVe {P : Program} {f : Func} {s : ChangeSpec} {tb : TypeId} (hl : laidOutB P = true) (hres : f.resultTypes = #[tb]) (htb : P.underlying tb = some .bool) (hvars : s.vars = [])
  (ht : (f.params.toList.all fun t => P.readableRec t && decide (t < P.types.size)) = true)
  {H : Type} {eh : TypeId × Value → H} {W W' : World} {args : Array Value} {ds gs : List (DataW H)} {before : List MemPlace} (hW : DataW.Whole eh P f.params.toList s.vars false W args.toList ds gs before)
  (hb : RowKit.Below W.heap.size W W') (hfn : s.fn H (ds ++ gs) = { results := [.lit (.bool true)], args := ds }) : s.post eh P f false true false false W args (.bool true) W' := by
 have hlt := hW.lt
 have hW0 := hW
 obtain ⟨p, q, hA, hV, rfl, hfz, hnd⟩ := hW
 rw [hvars] at hV
 obtain ⟨rfl, rfl⟩ := trodVars_none hV
 refine ⟨ds, [], p ++ [], [], p, [], hW0, ?_, ?_, ?_, ?_, fun h => by cases h⟩
 ·rw [hres, hfn]
  exact trodAll_cons_mk (shut_bool htb _) trodAll_mk0
 ·rw [hfn]
  exact aGv hl hb ht (fun x hx => hlt x (by simpa using hx)) hA
 ·rw [hfn, hvars]; rfl
 ·exact hb.frame _
section
variable {P : Program} {W : World} {X : bZ} {r : Reach} {base : Nat} {t : TypeId} {v : Value} {H : Type} {eh : TypeId × Value → H} {d : DataW H} {p : List MemPlace} {α : Type} {ok : α → Prop}
theorem aOr {enc : α → List D} {fs : Array Field} (ht : P.underlying t = some (.struct fs)) (hr : Rd P t enc ok) (hv : Value.okWide P W r base t v)
  (h : DataW.Trod eh P W 0 (fun _ => true) true t v d p) (hX : ∀ b o, ¬ X b o) : ∃ a, ok a ∧ VR W X (.agg (enc a)) v := by
 obtain ⟨fuel, h⟩ := h
 obtain ⟨xs, h1, h2⟩ := hr H eh W X hX fuel _ _ h
 refine ⟨xs, h1, ?_⟩
 simp only [Value.okWide, ht] at hv
 obtain ⟨cs, rfl, _⟩ := hv
 exact .agg h2
theorem aSx {f : FuncId} {fn : Func} {s : ChangeSpec} {tb : TypeId} (hl : laidOutB P = true) (hres : fn.resultTypes = #[tb]) (htb : P.underlying tb = some .bool) (hvars : s.vars = [])
  (ht : (fn.params.toList.all fun t => P.readableRec t && decide (t < P.types.size)) = true) {args : Array Value} {ds gs : List (DataW H)} {before : List MemPlace} (hW : DataW.Whole eh P fn.params.toList s.vars false W args.toList ds gs before)
  (hfn : s.fn H (ds ++ gs) = { results := [.lit (.bool true)], args := ds }) {avs : List AV} (hf : Fn P f avs (.b true)) (hv : VRs W (bN (fun _ _ => False) []) avs args.toList) :
  Calls P f args W fun e W' => ∃ v, e = .returned v ∧ s.post eh P fn false true false false W args v W' := by
 refine (hf (fun _ _ => False) W args.toList ⟨by simp [Sep], by simp, by simp⟩ (fun _ _ h => h.elim) hv).mono ?_
 rintro e w' ⟨v, r', objs', rfl, hk, hinv, hr, hnew, rfl, rfl⟩
 have := hr.lit
 subst this
 exact ⟨_, rfl, aVe hl hres htb hvars ht hW hk.below hfn⟩
theorem aKd (b o : Nat) : ¬ bN (fun _ _ => False) [] b o := by
 rintro (h | ⟨m, hm, _⟩)
 ·exact h
 ·simp at hm
end
end Go.Am
