/- The program logic 'Am': ranges over maps; more of maps. -/
import Derived.Test.YtfdappeickbpeaaGreatAmFam
import Derived.Maps.RangeRun
namespace Go.Am
def oK {α : Type} (l : List α) (bs seen : List Nat) : List α := ((l.zip bs).filter fun q => !seen.contains q.2).map (·.1)
theorem aSm {α : Type} {l : List α} {bs : List Nat} (h : bs.length = l.length) : oK l bs [] = l := by
 unfold oK
 have : (l.zip bs).filter (fun q => !([] : List Nat).contains q.2) = l.zip bs := by rw [List.filter_eq_self]; intro q _; simp
 rw [this, List.map_fst_zip (by omega)]
theorem aHz {α : Type} : ∀ {l : List α} {bs seen : List Nat} {j b : Nat} {p : α}, bs.Pairwise (· < ·) → l[j]? = some p → bs[j]? = some b → b ∉ seen →
  ∃ i, (oK l bs seen)[i]? = some p ∧ oK l bs (seen ++ [b]) = (oK l bs seen).eraseIdx i
 | [], _, _, j, _, _, _, h, _, _ => by simp at h
 | _ :: _, [], _, j, _, _, _, _, h, _ => by simp at h
 | a :: l, c :: bs, seen, 0, b, p, hp, hl, hb, hs => by
  simp at hl hb
  subst hl; subst hb
  rw [List.pairwise_cons] at hp
  refine ⟨0, ?_, ?_⟩
  ·simp [oK, hs]
  ·have e1 : ∀ q ∈ l.zip bs, (!(seen ++ [c]).contains q.2) = !seen.contains q.2 := by
    intro q hq
    have := hp.1 q.2 (List.of_mem_zip hq).2
    have hne : q.2 ≠ c := by omega
    simp [hne]
   simp only [oK, List.zip_cons_cons, List.filter_cons]
   rw [List.filter_congr e1]
   simp [hs]
 | a :: l, c :: bs, seen, j + 1, b, p, hp, hl, hb, hs => by
  rw [List.pairwise_cons] at hp
  simp at hl hb
  obtain ⟨i, h1, h2⟩ := aHz (seen := seen) hp.2 hl hb hs
  have hcb : c ≠ b := by
   have := hp.1 b (List.mem_of_getElem? hb)
   omega
  have ec : (seen ++ [b]).contains c = seen.contains c := by simp [hcb]
  have cons : ∀ s : List Nat, oK (a :: l) (c :: bs) s = bif s.contains c then oK l bs s else a :: oK l bs s := by
   intro s
   unfold oK
   rw [List.zip_cons_cons, List.filter_cons]
   cases s.contains c <;> rfl
  rw [cons seen, cons (seen ++ [b]), ec]
  cases seen.contains c with
  | true => exact ⟨i, h1, h2⟩
  | false => exact ⟨i + 1, by simpa using h1, by simp [h2]⟩
def aSr {α : Type} (left : List α) (A : Prop) (B : α → List α → Prop) : Prop := (left = [] → A) ∧ ∀ i p, left[i]? = some p → B p (left.eraseIdx i)
def aJb {α : Type} (l : List α) (f : List α → Prop) : Prop := f l
theorem aNc {α : Type} {l : List α} {bs : List Nat} {f : List α → Prop} (h : aJb l f) (hl : oK l bs [] = l) : f (oK l bs []) := by rw [hl]; exact h
theorem aOn {α : Type} {l : List α} {bs seen : List Nat} {j b : Nat} {p : α} {A : Prop} {B : α → List α → Prop} (h : aSr (oK l bs seen) A B) (hp : bs.Pairwise (· < ·) ∧ l[j]? = some p ∧ bs[j]? = some b ∧ b ∉ seen) : B p (oK l bs (seen ++ [b])) := by
 obtain ⟨i, h1, h2⟩ := aHz hp.1 hp.2.1 hp.2.2.1 hp.2.2.2
 rw [h2]
 exact h.2 i p h1
theorem MRs.len {w : World} {X : bT} {es : List (Value × AV)} {ms : List MapEntry} (h : MRs w X es ms) : ms.length = es.length := by
 have := congrArg List.length h.keys
 simpa using this
section
variable {P : Program} {n d : Nat} {st : St}
theorem aUm {A M : bT} {w0 : W0} {a : Act} {w w1 : World} {mi r m ck b : Nat} {seen : List Nat} (hR : R A M w0 n st a w) (ho : st.objs[mi]? = some (.iter r m ck seen ck)) (hw : w1 = w ∨ w1 = w.drew) :
  R A M w0 n ⟨st.env, st.objs.set mi (.iter r m ck (seen ++ [b]) ck)⟩ a (ChangeMaps.setBlock w1 r (.mapIter (some m) ck (seen.toArray.push b) ck)) := by
 have hh : w.heap[r]? = some (.mapIter (some m) ck seen.toArray ck) := hR.inv.holds _ (List.mem_of_getElem? ho)
 have hrl : r < w.heap.size := (Array.getElem?_eq_some_iff.1 hh).1
 have hk : Keeps (fun b _ => b = r) w (ChangeMaps.setBlock w1 r (.mapIter (some m) ck (seen.toArray.push b) ck)) := by
  rcases hw with rfl | rfl
  ·exact Keeps.setObj _ _ _
  ·exact (Keeps.drew _ _).trans (Keeps.setObj w.drew _ _)
 refine hR.replace (m' := .iter r m ck (seen ++ [b]) ck) ho hk (fun b o hb => by subst hb; rfl) (fun b o hf => .inl hf) fun hm => ?_
 show (ChangeMaps.setBlock w1 r (.mapIter (some m) ck (seen.toArray.push b) ck)).heap[r]? = _
 have hrl1 : r < w1.heap.size := by rcases hw with rfl | rfl <;> exact hrl
 simp [ChangeMaps.setBlock, hrl1]
theorem aQw {t kt et : TypeId} {α β : Type} [DecidableEq α] {kv : α → Value} {av : β → AV} {l : List (α × β)} {z : β} {zv : Value} {a : α} {x y : Operand} {r m : Nat} {bs : List Nat} {clock : Nat} {ty : TypeId} {pos : String} {af : Array Edge} {gd : Option (Nat × Bool)} (hd : d < n)
  (hk : vL P kt kv) (ht : P.underlying t = some (.map kt et)) (hz : ∀ w, (zeroValue et).run P w = .ok zv w) (hzv : ∀ w X, VR w X (av z) zv)
  (hx : st.eval x = .d (.lit (.map (some r)))) (ho : st.objs[m]? = some (.map r (l.map fun p => (kv p.1, av p.2)) bs clock)) (hyk : eO y = true) {yv : AV} (hyv : st.eval y = yv) (hy : aAe kv yv a) :
  bO P n ⟨some d, .lookup t x y true, ty, pos, af, gd⟩ st (st.set d (.tup [av (aL a z l), .d (.lit (.bool (iX a l)))])) :=
 dB rfl hd fun A M w0 ac w hR => by
  obtain ⟨ms, hh, hms, _⟩ := hR.inv.holds _ (List.mem_of_getElem? ho)
  have hkey := hy _ _ _ (hyv ▸ hR.eval' hyk)
  have hkeys : ms.toList.map (·.key) = (l.map (·.1)).map kv := by rw [hms.keys]; simp
  have hf := hk.find a (l.map (·.1)) ms.toList w hkeys
  rcases tT a z l with ⟨h1, h2⟩ | ⟨j, p, h1, h2, h3, h4⟩
  ·have hhas : iX a l = false := by rw [nN, h1]; rfl
   refine ⟨.tuple #[zv, .bool false], ?_, .tup (us := [_, _]) rfl fun i hi => by
    match i, hi with
    | 0, _ => rw [h2]; exact hzv _ _
    | 1, _ => rw [hhas]; exact .d (.lit _ rfl)⟩
   simp [execOp, hR.lit hx, hkey, Instr.lookup, run_underlying ht, iS hh, hk.chk, hf, h1, hz]
  ·have hhas : iX a l = true := by rw [nN, h1]; rfl
   obtain ⟨e, he, hv⟩ := hms.get (j := j) (e := (kv p.1, av p.2)) (by simp [h2])
   refine ⟨.tuple #[e.val, .bool true], ?_, .tup (us := [_, _]) rfl fun i hi => by
    match i, hi with
    | 0, _ => rw [h3]; exact hv
    | 1, _ => rw [hhas]; exact .d (.lit _ rfl)⟩
   simp only [Array.getElem?_toList] at he
   simp [execOp, hR.lit hx, hkey, Instr.lookup, run_underlying ht, iS hh, hk.chk, hf, h1, he]
theorem aNb {α β : Type} [DecidableEq α] (a : α) (v : β) : ∀ (l : List (α × β)), iX a l = false → cR a v l = l ++ [(a, v)]
 | [], _ => rfl
 | (b, u) :: l, h => by
  simp only [iX, Bool.or_eq_false_iff, decide_eq_false_iff_not] at h
  simp [cR, h.1, aNb a v l h.2]
theorem fZ {t kt et : TypeId} {α β : Type} [DecidableEq α] {kv : α → Value} {av : β → AV} {l : List (α × β)} {v : β} {a : α} {x y q : Operand} {r m : Nat} {bs : List Nat} {clock : Nat} {ty : TypeId} {pos : String} {af : Array Edge} {gd : Option (Nat × Bool)}
  (hk : vL P kt kv) (ht : P.underlying t = some (.map kt et))
  (hx : st.eval x = .d (.lit (.map (some r)))) (ho : st.objs[m]? = some (.map r (l.map fun p => (kv p.1, av p.2)) bs clock)) (hyk : eO y = true) {yv : AV} (hyv : st.eval y = yv) (hy : aAe kv yv a) (hqk : eO q = true) (hq : st.eval q = av v) :
  bO P n ⟨none, .mapUpdate t x y q, ty, pos, af, gd⟩ st ⟨st.env, st.objs.set m (.map r ((cR a v l).map fun p => (kv p.1, av p.2)) (mbs a l bs clock) (mck a l clock))⟩ := by
 intro A M w0 ac w hR K Q hK
 obtain ⟨ms, hh, hms, hb1, hb2, hb3⟩ := hR.inv.holds _ (List.mem_of_getElem? ho)
 have hkey := hy _ _ _ (hyv ▸ hR.eval' hyk)
 have hv := hR.eval' hqk
 rw [hq] at hv
 have hkeys : ms.toList.map (·.key) = (l.map (·.1)).map kv := by rw [hms.keys]; simp
 have hf := hk.find a (l.map (·.1)) ms.toList w hkeys
 have hrl : r < w.heap.size := (Array.getElem?_eq_some_iff.1 hh).1
 unfold Oper.wp
 rcases tT a v l with ⟨h1, h2⟩ | ⟨j, p, h1, h2, h3, h4⟩
 ·have hhas : iX a l = false := by rw [nN, h1]; rfl
  have hrun : (execOp ac.eval ⟨none, .mapUpdate t x y q, ty, pos, af, gd⟩).run P w = .ok .skip { w with heap := w.heap.setIfInBounds r (.map (ms.push { key := kv a, val := ac.eval q, born := clock }) (clock + 1)) } := by
   simp [execOp, hR.lit hx, hkey, Instr.mapUpdate, run_underlying ht, iS hh, hk.chk, hf, h1, sA _ hh]
  rw [hrun, Oper.upon_skip]
  refine hK _ _ _ rfl ?_
  have hR' := hR.replace (w' := { w with heap := w.heap.setIfInBounds r (.map (ms.push { key := kv a, val := ac.eval q, born := clock }) (clock + 1)) }) (m' := .map r ((cR a v l).map fun p => (kv p.1, av p.2)) (mbs a l bs clock) (mck a l clock)) ho
   (Keeps.setObj w r _) (fun b o hb => by subst hb; rfl) (fun b o hf => .inl hf) fun hmono => by
    refine ⟨ms.push { key := kv a, val := ac.eval q, born := clock }, ?_, ?_, ?_, ?_, ?_⟩
    ·simp [hrl, mck, hhas]
    ·have hm2 := hms.mono hmono
     have hv2 := hv.mono hmono
     revert hm2 hv2
     generalize bU A (st.objs.set m (.map r ((cR a v l).map fun p => (kv p.1, av p.2)) (mbs a l bs clock) (mck a l clock))) = Z
     intro hm2 hv2
     rw [aNb a v l hhas]
     simp only [List.map_append, Array.toList_push]
     exact MRs.snoc hm2 rfl hv2
    ·simp [mbs, hhas, hb1]
    ·simp only [mbs, hhas, cond_false]
     exact List.pairwise_append.2 ⟨hb2, by simp, fun x hx y hy => by simp at hy; subst hy; exact hb3 x hx⟩
    ·simp only [mbs, hhas, cond_false, mck]
     intro b hb
     rcases List.mem_append.1 hb with h | h
     ·have := hb3 b h; omega
     ·simp at h; omega
  exact hR'.put_none rfl
 ·have hhas : iX a l = true := by rw [nN, h1]; rfl
  obtain ⟨e, he, _⟩ := hms.get (j := j) (e := (kv p.1, av p.2)) (by simp [h2])
  have he' : ms[j]? = some e := by simpa using he
  have hke : e.key = kv a := by
   have := congrArg (fun q => q[j]?) hkeys
   simp [he', h2, h4] at this
   exact this
  have hmod : ms.modify j (fun e => { e with key := kv a, val := ac.eval q }) = ms.modify j (fun e => { e with val := ac.eval q }) := by
   apply Array.ext_getElem?
   intro i
   rw [Array.getElem?_modify, Array.getElem?_modify]
   split
   ·rename_i hq; subst hq; rw [he']; simp [← hke]
   ·rfl
  have hrun : (execOp ac.eval ⟨none, .mapUpdate t x y q, ty, pos, af, gd⟩).run P w = .ok .skip { w with heap := w.heap.setIfInBounds r (.map (ms.modify j fun e => { e with val := ac.eval q }) clock) } := by
   simp [execOp, hR.lit hx, hkey, Instr.mapUpdate, run_underlying ht, iS hh, hk.chk, hf, h1, he', hke, hk.stays, hmod, sA _ hh]
  rw [hrun, Oper.upon_skip]
  refine hK _ _ _ rfl ?_
  have hR' := hR.replace (w' := { w with heap := w.heap.setIfInBounds r (.map (ms.modify j fun e => { e with val := ac.eval q }) clock) }) (m' := .map r ((cR a v l).map fun p => (kv p.1, av p.2)) (mbs a l bs clock) (mck a l clock)) ho
   (Keeps.setObj w r _) (fun b o hb => by subst hb; rfl) (fun b o hf => .inl hf) fun hmono => by
    refine ⟨ms.modify j fun e => { e with val := ac.eval q }, by simp [hrl, mck, hhas], ?_, ?_, by simpa [mbs, hhas] using hb2, by simpa [mbs, mck, hhas] using hb3⟩
    ·have hm2 := hms.mono hmono
     have hv2 := hv.mono hmono
     revert hm2 hv2
     generalize bU A (st.objs.set m (.map r ((cR a v l).map fun p => (kv p.1, av p.2)) (mbs a l bs clock) (mck a l clock))) = Z
     intro hm2 hv2
     rw [aIz a v l j h1, List.map_set, Array.toList_modify]
     exact MRs.set hm2 (by simp [h2, h4]) hv2
    ·simp only [mbs, hhas, cond_true]
     rw [← hb1, Array.toList_modify]
     apply List.ext_getElem?
     intro i
     simp only [List.getElem?_map, List.getElem?_modify]
     cases ms.toList[i]? with
     | none => simp
     | some e => simp; split <;> rfl
  exact hR'.put_none rfl
theorem MRs.erase {w : World} {X : bT} : ∀ {es : List (Value × AV)} {ms : List MapEntry} (j : Nat), MRs w X es ms → MRs w X (es.eraseIdx j) (ms.eraseIdx j)
 | [], [], _, h => by simpa using h
 | (_, _) :: _, _ :: _, 0, h => h.2.2
 | (_, _) :: _, _ :: _, j + 1, h => ⟨h.1, h.2.1, MRs.erase j h.2.2⟩
end
end Go.Am
