/- The program logic 'Am': ranges over functions. -/
import Derived.Test.YtiohgpipanopaaaGreatAmNd
import Derived.RangeFuncSeq
namespace Go.Am
def yv (l : Nat) : Value := .func (.yield l) #[] #[]
section
variable {P : Program} {n d : Nat} {st : St}
end
def Fst (objs : List MO) (l dd : Nat) : bV := fun b o => jJ objs b o ∨ b = l ∨ b = dd
def Hst (env : Nat → AV) (tmps : Array Value) (objs : List MO) (l dd : Nat) (rec : Loop) (w : World) (X : bV) : Prop :=
 (Sep objs ∧ ∀ b o, jJ objs b o → b ≠ l ∧ b ≠ dd) ∧ (∀ k, VR w X (env k) (tmps.getD k undef)) ∧ (∀ m ∈ objs, m.holds w X) ∧ w.heap[l]? = some (.loop rec) ∧ w.heap[dd]? = some (.deferred (some []))
def Est (env : Nat → AV) (tmps : Array Value) (objs : List MO) (l dd : Nat) (rec : Loop) : MO := .ext (Fst objs l dd) (Hst env tmps objs l dd rec)
theorem aRy {env : Nat → AV} {tmps : Array Value} {objs : List MO} {l dd : Nat} {rec : Loop} {w : World} {X : bV} (h : Hst env tmps objs l dd rec w X) : (Est env tmps objs l dd rec).holds w X := by
 obtain ⟨h0, h1, h2, h3, h4⟩ := h
 have hl := (Array.getElem?_eq_some_iff.1 h3).1
 have hd := (Array.getElem?_eq_some_iff.1 h4).1
 refine ⟨fun b o hf => ?_, fun w' X' hm hk => ⟨h0, fun k => (h1 k).mono hm, fun m hmm => cU (h2 m hmm) hk (fun b o hf hn => hn (.inl ⟨m, hmm, hf⟩)) hm, ?_, ?_⟩⟩
 ·rcases hf with ⟨m, hm, hf⟩ | rfl | rfl
  ·exact rG (h2 m hm) hf
  ·exact hl
  ·exact hd
 ·exact (hk.block l hl fun o hn => hn (.inr (.inl rfl))).trans h3
 ·exact (hk.block dd hd fun o hn => hn (.inr (.inr rfl))).trans h4
theorem aXr {env : Nat → AV} {tmps : Array Value} {objs : List MO} {l dd : Nat} {rec : Loop} {w : World} {X : bV} (h : (Est env tmps objs l dd rec).holds w X) : Hst env tmps objs l dd rec w X :=
 h.2 w X (Mono.refl w X) (Keeps.refl _ w)
theorem aEm {w : World} {r : Nat} {o : Obj} {Z : bV} (hz : ∀ o, Z r o) : Keeps Z w (w.putObj r o) := by
 refine ⟨rfl, rfl, rfl, by simp [World.putObj], fun b hb h => World.putObj_heap_other fun e => h 0 (e ▸ hz 0), fun b y hb h => ?_, fun b y hb h => ?_, Nat.le_refl _⟩
 ·have : (w.putObj r o).heap[b]? = w.heap[b]? := World.putObj_heap_other fun e => h (e ▸ hz y)
  simp only [World.cell?, this]
 ·have : (w.putObj r o).heap[b]? = w.heap[b]? := World.putObj_heap_other fun e => h (e ▸ hz y)
  simp only [World.frozen?, this]
theorem aGl {w : World} {r : Nat} {o o' : Obj} {X : bV} (h : w.heap[r]? = some o') (h1 : ∀ (c : Array Value) (e : TypeId) (z : Nat × Nat), o' ≠ .cells c e z) (h2 : ∀ ms c, o' ≠ .map ms c) : Mono w X (w.putObj r o) X := by
 refine ⟨fun b y v hc hx => ⟨?_, hx⟩, fun b ms c hc hx => ⟨?_, hx⟩⟩
 ·by_cases hb : b = r
  ·subst hb
   simp only [World.cell?, h] at hc
   split at hc
   ·rename_i c e z hh; exact absurd (Option.some.inj hh) (h1 c e z)
   ·cases hc
  ·have : (w.putObj r o).heap[b]? = w.heap[b]? := World.putObj_heap_other hb
   simp only [World.cell?, this] at hc ⊢
   exact hc
 ·by_cases hb : b = r
  ·subst hb; rw [h] at hc; exact absurd (Option.some.inj hc) (h2 ms c)
  ·rw [World.putObj_heap_other hb]; exact hc
def aLx (e : Nat → AV) : List Nat → List AV → Nat → AV
 | p :: ps, x :: xs => aLx (upd e p x) ps xs
 | _, _ => e
theorem aWa {w : World} {X : bV} {n : Nat} : ∀ (ps : List Nat) (xs : List AV) (vs : List Value) (e : Nat → AV) (tmps : Array Value), tmps.size = n → (∀ p ∈ ps, p < n) → VRs w X xs vs → (∀ k, VR w X (e k) (tmps.getD k undef)) →
  (∀ k, VR w X (aLx e ps xs k) ((((ps.zip vs).foldl (fun t (p, v) => t.setIfInBounds p v) tmps)).getD k undef)) ∧ ((ps.zip vs).foldl (fun t (p, v) => t.setIfInBounds p v) tmps).size = n
 | [], _, _, e, tmps, hs, _, _, he => ⟨by simpa [aLx] using he, by simpa using hs⟩
 | p :: ps, [], [], e, tmps, hs, _, _, he => ⟨by simpa [aLx] using he, by simpa using hs⟩
 | p :: ps, x :: xs, v :: vs, e, tmps, hs, hp, hv, he => by
  have := aWa ps xs vs (upd e p x) (tmps.setIfInBounds p v) (by simpa using hs) (fun q hq => hp q (by simp [hq])) hv.2 (aXq hs (hp p (by simp)) he hv.1)
  simpa [aLx] using this
 | _ :: _, [], _ :: _, _, _, _, _, hv, _ => hv.elim
 | _ :: _, _ :: _, [], _, _, _, _, hv, _ => hv.elim
section
variable {P : Program} {n : Nat} {st : St} {Q : Exit → St → Prop} {N : St → Prop}
end
end Go.Am
namespace Go.Am
section
variable {P : Program} {n : Nat} {st : St} {Q : Exit → St → Prop} {N : St → Prop}
theorem bFn : ∀ e s, qS N (fun _ _ => False) e s → (e = .normal ∧ N s) := fun e s h => by
 cases e <;> first | exact ⟨rfl, h⟩ | exact h.elim
theorem bBe {e : Nat → AV} : Le e emp := fun _ => .inl rfl
end
end Go.Am
namespace Go.Am
theorem qT {P : Program} {f : FuncId} {fn : Func} {c : Code} {args : List AV} {objs : List MO} {Q : AV → List MO → Prop} (hf : P.funcs[f]? = some fn) (hb : fn.body = some c) {rs : List ResultVar} (hr : fn.results = rs.toArray) {n : Nat} (hn : fn.ntmps = n) (ha : args.length ≤ n)
  (h : Tr P n c ⟨entry args, objs⟩ (qS (fun st => ∃ r0 objs' gone r, aCr P st rs r0 ∧ st.objs.Perm (objs' ++ gone) ∧ BV gone r0 r ∧ Q r objs') (fun e st => e = .ret ∧ ∃ r0 objs' gone r, aCr P st rs r0 ∧ st.objs.Perm (objs' ++ gone) ∧ BV gone r0 r ∧ Q r objs'))) : dP P f args objs Q := by
 subst hn
 have key : ∀ e st, qS (fun st => ∃ r0 objs' gone r, aCr P st rs r0 ∧ st.objs.Perm (objs' ++ gone) ∧ BV gone r0 r ∧ Q r objs') (fun e st => e = .ret ∧ ∃ r0 objs' gone r, aCr P st rs r0 ∧ st.objs.Perm (objs' ++ gone) ∧ BV gone r0 r ∧ Q r objs') e st → (e = .ret ∨ e = .normal) ∧ ∃ r0 objs' gone r, aCr P st rs r0 ∧ st.objs.Perm (objs' ++ gone) ∧ BV gone r0 r ∧ Q r objs' := by
  intro e st h
  cases e <;> first | exact ⟨.inr rfl, h⟩ | exact ⟨.inl h.1, h.2⟩
 intro A w vs hinv hA hvs
 refine aGh hf hb ha h hinv hA hvs (fun e st hq => (key e st hq).1) ?_
 intro e st a' w' hq hR'
 obtain ⟨_, r0, objs', gone, r, hres, hp, hbv, hq⟩ := key e st hq
 obtain ⟨v, hrun, hv⟩ := aJs hr hres hR'
 have hR1 : R A (jJ objs) ⟨w, [], none⟩ 1 ⟨upd emp 0 r0, st.objs⟩ { tmps := #[v], defers := [] } w' := by
  refine ⟨rfl, Marks.nil _ ⟨w, [], none⟩ _, fun k => ?_, hR'.inv, hR'.keeps, hR'.own, hR'.old⟩
  show VR _ _ (upd emp 0 r0 k) _
  by_cases hk : 0 = k
  ·subst hk; rw [iQ]; exact hv
  ·rw [pO _ _ hk]; exact .any _
 have hR2 := uX (env' := upd emp 0 r) hp (fun k => by
  by_cases hk : 0 = k
  ·subst hk; rw [iQ, iQ]; exact hbv
  ·rw [pO _ _ hk, pO _ _ hk]; exact .any _) A (jJ objs) ⟨w, [], none⟩ 1 _ w' hR1
 have hv2 : VR w' (bX A objs') (upd emp 0 r 0) v := hR2.env 0
 rw [iQ] at hv2
 exact ⟨v, hrun, v, r, objs', rfl, hR2.keeps, hR2.inv, hv2, hR2.own, hq⟩
end Go.Am
namespace Go.Am
end Go.Am
