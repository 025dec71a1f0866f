/- The library's sort by a function, as a function that changes its slice. -/
import Derived.Test.YtfdappeickbpeaaGreatAmSort
import Derived.Test.YtfdappeickbpeaaGreatAmLent
import Derived.Shelf.SlSortCmp.NoneTotal
namespace Go.Am
open Go.Sort Go.Proofs
def ltO {α : Type} (cmp : α → α → Option Int) (x y : α) : Bool := match cmp x y with | some r => decide (r < 0) | none => false
def uU {α : Type} [DecidableEq α] (zs : List α) (cmp : α → α → Option Int) : Bool :=
 zs.all fun x => !ltO cmp x x && zs.all fun y => (cmp x y).isSome && (decide (x = y) || ltO cmp x y || ltO cmp y x) && zs.all fun z => (!(ltO cmp x y && ltO cmp y z) || ltO cmp x z) && (ltO cmp x y || ltO cmp y z || !ltO cmp x z)
def eS {α : Type} (cmp : α → α → Option Int) (zs : List α) : List α := zs.mergeSort fun x y => !ltO cmp y x
def uW {α : Type} [DecidableEq α] (zs : List α) (cmp : α → α → Option Int) : Option (List α) := if uU zs cmp = true ∧ zs.length < 4611686018427387904 then some (eS cmp zs) else none
theorem aKx {w w' : World} (h : Keeps (iZ []) w w') : ∃ q os, w' = grow (w.drewN q) os := by
 refine ⟨w'.drawn - w.drawn, w'.heap.extract w.heap.size w'.heap.size, ?_⟩
 have hd := h.drawn
 have hs := h.size
 have hh : w.heap ++ w'.heap.extract w.heap.size w'.heap.size = w'.heap := by
  apply Array.ext_getElem?
  intro i
  by_cases hi : i < w.heap.size
  ·rw [Array.getElem?_append_left hi]
   exact (h.block i hi fun o ⟨m, hm, _⟩ => by simp at hm).symm
  ·rw [Array.getElem?_append_right (by omega), Array.getElem?_extract]
   by_cases hi2 : i < w'.heap.size
   ·rw [if_pos (by omega), show w.heap.size + (i - w.heap.size) = i by omega]
   ·rw [if_neg (by omega), Array.getElem?_eq_none (by omega)]
 have hq : w.drawn + (w'.drawn - w.drawn) = w'.drawn := by omega
 unfold grow World.drewN
 simp only [hh, hq]
 rw [← h.tape, ← h.os, ← h.output]
theorem aGf {γ : Type} [Inhabited γ] (E : γ → Value) {w : World} {X : bT} {g m : Nat} {F : Array γ} {os : Array Obj} (hg : ∀ o, X g o) : Mono w X (grow (putRow E (Sort.ahead w m) g 0 F) os) X := by
 have hne : ∀ b, b ≠ g → b < w.heap.size → (grow (putRow E (Sort.ahead w m) g 0 F) os).heap[b]? = w.heap[b]? := fun b hb hlt => by
  rw [heap_grow_old _ _ (by simpa using hlt)]
  simp [putRow, mapBlock, Sort.ahead, Array.getElem?_modify, Ne.symm hb]
 refine ⟨fun b o v hc hx => ⟨?_, hx⟩, fun r ms c hr hx => ⟨?_, hx⟩⟩
 ·have hb : b ≠ g := fun e => hx (e ▸ hg o)
  have hlt : b < w.heap.size := by
   refine Nat.lt_of_not_le fun hle => ?_
   simp [World.cell?, Array.getElem?_eq_none hle] at hc
  simp only [World.cell?, hne b hb hlt]
  exact hc
 ·have hb : r ≠ g := fun e => hx 0 (e ▸ hg 0)
  rw [hne r hb (Array.getElem?_eq_some_iff.1 hr).1]
  exact hr
theorem aGk {γ : Type} [Inhabited γ] (E : γ → Value) (w : World) (g m : Nat) (F : Array γ) (os : Array Obj) : w.heap.size ≤ (grow (putRow E (Sort.ahead w m) g 0 F) os).heap.size := by
 show _ ≤ ((putRow E (Sort.ahead w m) g 0 F).heap ++ os).size
 rw [Array.size_append, Proofs.size_putRow]
 exact Nat.le_add_right _ _
theorem aWd {P : Program} {f : FuncId} {args caps : List AV} {r : Int} (h : Fn P f (args ++ caps) (.d (.lit (.int .i64 r)))) {w W : World} {avs cbs : List Value} {X : bT} (hX : VRs w X caps cbs) (hm : Mono w X W X) (hs : ∀ b o, X b o → b < W.heap.size) (ha : VRs W X args avs) :
  Calls P f (avs ++ cbs).toArray W fun e w' => e = .returned (.int .i64 r) ∧ ∃ q os, w' = grow (W.drewN q) os := by
 have hz : Mono W X W (bU X []) := Mono.sub fun b o h => h.elim id fun ⟨m, hm, _⟩ => by simp at hm
 refine (h X W (avs ++ cbs) ⟨by simp [Sep], by simp, by simp⟩ hs ((ha.mono hz).append (hX.mono (hm.trans hz)))).mono ?_
 rintro e w' ⟨v, r', objs', rfl, hk, _, hv, _, rfl, _⟩
 have hv' := hv.lit
 subst hv'
 exact ⟨rfl, aKx hk⟩
section
variable {α : Type} [DecidableEq α] {zs : List α} {cmp : α → α → Option Int} (hok : uU zs cmp = true)
include hok
theorem wT : (∀ x ∈ zs, ltO cmp x x = false) ∧ (∀ x ∈ zs, ∀ y ∈ zs, ∃ r, cmp x y = some r) ∧ (∀ x ∈ zs, ∀ y ∈ zs, x = y ∨ ltO cmp x y = true ∨ ltO cmp y x = true) ∧
  (∀ x ∈ zs, ∀ y ∈ zs, ∀ z ∈ zs, ltO cmp x y = true → ltO cmp y z = true → ltO cmp x z = true) ∧ ∀ x ∈ zs, ∀ y ∈ zs, ∀ z ∈ zs, ltO cmp x y = false → ltO cmp y z = false → ltO cmp x z = false := by
 unfold uU at hok
 simp only [List.all_eq_true, Bool.and_eq_true, Bool.or_eq_true, Bool.not_eq_true', decide_eq_true_eq] at hok
 refine ⟨fun x hx => (hok x hx).1, fun x hx y hy => Option.isSome_iff_exists.1 ((hok x hx).2 y hy).1.1, fun x hx y hy => or_assoc.1 ((hok x hx).2 y hy).1.2, fun x hx y hy z hz h1 h2 => ?_, fun x hx y hy z hz h1 h2 => ?_⟩
 ·rcases (((hok x hx).2 y hy).2 z hz).1 with h | h
  ·simp [h1, h2] at h
  ·exact h
 ·rcases (((hok x hx).2 y hy).2 z hz).2 with (h | h) | h
  ·rw [h1] at h; cases h
  ·rw [h2] at h; cases h
  ·exact h
def cfS (zs : List α) (cmp : α → α → Option Int) (x y : { x // x ∈ zs }) : Int := (cmp x.1 y.1).getD 0
theorem xB (x y : { x // x ∈ zs }) : ltOf (cfS zs cmp) x y = ltO cmp x.1 y.1 := by
 obtain ⟨r, hr⟩ := (wT hok).2.1 x.1 x.2 y.1 y.2
 unfold ltOf cfS ltO
 rw [hr]; rfl
theorem aLn : SWO (ltOf (cfS zs cmp)) := by
 obtain ⟨h1, _, _, h4, h5⟩ := wT hok
 exact ⟨fun x => by rw [xB hok]; exact h1 x.1 x.2, fun x y z => by rw [xB hok, xB hok, xB hok]; exact h4 x.1 x.2 y.1 y.2 z.1 z.2, fun x y z => by rw [xB hok, xB hok, xB hok]; exact h5 x.1 x.2 y.1 y.2 z.1 z.2⟩
theorem aRs (x y : { x // x ∈ zs }) (h1 : ltOf (cfS zs cmp) x y = false) (h2 : ltOf (cfS zs cmp) y x = false) : x = y := by
 rw [xB hok] at h1 h2
 rcases (wT hok).2.2.1 x.1 x.2 y.1 y.2 with h | h | h
 ·exact Subtype.ext h
 ·rw [h1] at h; cases h
 ·rw [h2] at h; cases h
theorem aBd : (zs.attach.mergeSort fun x y => !(ltOf (cfS zs cmp)) y x).map Subtype.val = eS cmp zs := by
 unfold eS
 rw [List.map_mergeSort (s := fun x y => !ltO cmp y x) fun a _ b _ => by rw [xB hok], List.attach_map_subtype_val]
end
theorem aTj {P : Program} {N f : FuncId} {caps : List AV} {cmp : Int → Int → Option Int}
  (kit : ∀ {β : Type} [Inhabited β] (enc : β → Value), OneCell enc → ∀ (cf : β → β → Int), SWO (ltOf cf) → ∀ (g : Nat) (cb : Array Value) (blk off cap : Nat) (d : Array β) (w : World), (∀ args w, (callFunc g args).run P w = .ok (.enter g args) w) → CmpLays1 P g cb enc cf blk off d.size w → Holds enc w blk off d → blk < w.heap.size → d.size < 4611686018427387904 →
   (∀ x y, (ltOf cf) x y = false → (ltOf cf) y x = false → x = y) → Calls P N #[.slice (some ⟨blk, off, none⟩) d.size cap, .func (.func g) #[] cb] w fun e w' => e = .returned (.tuple #[]) ∧ ∃ n os, w' = sortWorld enc w blk off n (d.toList.mergeSort fun x y => !(ltOf cf) y x).toArray os)
  (kit0 : ∀ (p : Option Addr) (cap : Nat) (fv : Value) (w : World), Calls P N #[.slice p 0 cap, fv] w fun e w' => e = .returned (.tuple #[]) ∧ w' = w)
  (he : ∀ args w, (callFunc f args).run P w = .ok (.enter f args) w) (hc : ∀ x y r, cmp x y = some r → Fn P f ([.d (.lit (.int .i64 x)), .d (.lit (.int .i64 y))] ++ caps) (.d (.lit (.int .i64 r))))
  {v : Value} {e : TypeId} {zs r : List Int} (h : uW zs cmp = some r) :
  dW P N [.d (.lit v), .fn f caps] [.arr v e 1 (zs.map aH)] (fun r' o => r' = .tup [] ∧ o = [.arr v e 1 (r.map aH)]) := by
 unfold uW at h
 split at h
 case isFalse => cases h
 rename_i hh
 obtain ⟨hok, hl⟩ := hh
 cases h
 intro A w vs hI hA hv
 obtain ⟨u1, u2, hvs⟩ : ∃ u1 u2, vs = [u1, u2] := by
  match vs, hv with
  | [u1, u2], _ => exact ⟨u1, u2, rfl⟩
 subst hvs
 obtain ⟨hv1, hv2, _⟩ := hv
 have e1 := hv1.lit
 subst e1
 obtain ⟨xs, hd, hown, hr⟩ := hI.holds _ (List.mem_singleton.2 rfl)
 have hx := aFx hd
 subst hx
 rw [List.length_map] at hown
 have hvr : ∀ w' X, VR w' X (.tup []) (.tuple #[]) := fun w' X => .tup (us := []) rfl fun i hi => by simp at hi
 cases hv2 with
 | fn hlc hcap =>
  rename_i us
  rcases hown.2 with ⟨hn, hz⟩ | ⟨g, cap, cur, rfl, hb, hg, h2, h3, h4, h5⟩
  ·subst hn
   have hz0 : zs = [] := List.length_eq_zero_iff.1 hz
   subst hz0
   refine (kit0 none 0 _ w).mono ?_
   rintro e' w' ⟨rfl, rfl⟩
   exact ⟨_, .tup [], _, rfl, Keeps.refl _ _, hI, hvr _ _, fun m hm b o hf => .inl ⟨m, hm, hf⟩, rfl, by simp [eS]⟩
  ·rw [Nat.mul_one] at h5
   have hcaps : VRs w (bU A [.arr (.slice (some ⟨g, 0, none⟩) zs.length cap) e 1 (zs.map aH)]) caps us := uD hlc hcap
   have hgX : ∀ o, bU A [.arr (.slice (some ⟨g, 0, none⟩) zs.length cap) e 1 (zs.map aH)] g o := fun o => .inr ⟨_, List.mem_singleton.2 rfl, rfl⟩
   have hgs : g < w.heap.size := (Array.getElem?_eq_some_iff.1 hg).1
   have hXs : ∀ b o, bU A [.arr (.slice (some ⟨g, 0, none⟩) zs.length cap) e 1 (zs.map aH)] b o → b < w.heap.size := fun b o hx => by
    rcases hx with hx | ⟨m, hm, hf⟩
    ·exact hA b o hx
    ·cases List.mem_singleton.1 hm
     have : some g = some b := hf
     cases this
     exact hgs
   have hsl : (eS cmp zs).length = zs.length := by simp [eS]
   by_cases hne : zs = []
   ·subst hne
    refine (kit0 _ cap _ w).mono ?_
    rintro e' w' ⟨rfl, rfl⟩
    exact ⟨_, .tup [], _, rfl, Keeps.refl _ _, hI, hvr _ _, fun m hm b o hf => .inl ⟨m, hm, hf⟩, rfl, by simp [eS]⟩
   ·obtain ⟨z0, hz0⟩ := List.exists_mem_of_ne_nil zs hne
    haveI : Inhabited { x // x ∈ zs } := ⟨⟨z0, hz0⟩⟩
    have hat : zs.attach.toArray.size = zs.length := by simp
    have hH : Holds (fun x : { x // x ∈ zs } => Value.int .i64 x.1) w g 0 zs.attach.toArray := by
     intro j hj
     have hj' : j < zs.length := by simpa using hj
     have := holds_of_blockI hg (by simpa using h5) j (by simpa using hj')
     refine ⟨?_, this.2⟩
     rw [this.1]
     simp [hj']
    have hk := kit (β := { x // x ∈ zs }) (fun x => Value.int .i64 x.1) (fun _ => rfl) (cfS zs cmp) (aLn hok) f us.toArray g 0 cap zs.attach.toArray w he (fun m os dk hs x y => ?_) hH hgs (by simpa using hl) (aRs hok)
    ·rw [hat] at hk
     refine hk.mono ?_
     rintro e' w' ⟨rfl, n, os, rfl⟩
     have hd' : sortWorld (fun x : { x // x ∈ zs } => Value.int .i64 x.1) w g 0 n (zs.attach.toArray.toList.mergeSort fun x y => !(ltOf (cfS zs cmp)) y x).toArray os = grow (putRow (Value.int .i64) (Sort.ahead w n) g 0 (eS cmp zs).toArray) os := by
      unfold sortWorld
      congr 1
      unfold putRow
      congr 1
      funext c
      unfold putCells
      have hsize : (zs.attach.toArray.toList.mergeSort fun x y => !(ltOf (cfS zs cmp)) y x).toArray.size = (eS cmp zs).toArray.size := by simp [eS]
      refine congrArg (fun h => Array.mapIdx h c) ?_
      funext k x
      rw [hsize]
      split
      ·rename_i hkk
       have h1 : k - 0 < (eS cmp zs).length := by simpa using hkk
       have h2 : k - 0 < (zs.attach.toArray.toList.mergeSort fun x y => !(ltOf (cfS zs cmp)) y x).length := by simpa [eS] using h1
       have := congrArg (fun l => l[k - 0]?) (aBd hok)
       simp only [List.getElem?_map, List.getElem?_eq_getElem h1] at this
       rw [List.getElem?_eq_getElem (by simpa using h2)] at this
       simp only [Option.map_some, Option.some.injEq] at this
       rw [getElem!_pos _ _ (by simpa using h2), getElem!_pos _ _ (by simpa using h1)]
       simp only [List.getElem_toArray]
       rw [← this]
      ·rfl
     rw [hd']
     have hgb := grownBy_sortedI (w := w) (g := g) (n := n) (os := os) (eS cmp zs).toArray
     have hk' := aAz (v := .slice (some ⟨g, 0, none⟩) zs.length cap) hgb (Nat.le_add_right _ _)
     refine ⟨_, .tup [], [.arr (.slice (some ⟨g, 0, none⟩) zs.length cap) e 1 ((eS cmp zs).map aH)], rfl, hk'.mono fun b o h => ⟨_, List.mem_singleton.2 rfl, h⟩, ⟨?_, fun m hm b o hf => ?_, fun m hm => ?_⟩, hvr _ _, fun m hm b o hf => ?_, rfl, rfl⟩
     ·exact List.pairwise_singleton _ _
     ·cases List.mem_singleton.1 hm
      exact hI.apart _ (List.mem_singleton.2 rfl) b o hf
     ·cases List.mem_singleton.1 hm
      refine ⟨_, aGr (eS cmp zs), ?_, fun r hr' => ?_⟩
      ·have := ownsRow_sortedI (base := 0) (n := n) (os := os) (ss := zs) (ts := eS cmp zs) hsl hb hg h2 h3 h4
       rw [List.length_map, hsl]
       exact this
      ·obtain ⟨x, _, rfl⟩ := List.mem_map.1 hr'
       rfl
     ·cases List.mem_singleton.1 hm
      exact .inl ⟨_, List.mem_singleton.2 rfl, hf⟩
    ·obtain ⟨q, hq⟩ := (wT hok).2.1 x.1 x.2 y.1 y.2
     have hcq : cfS zs cmp x y = q := by unfold cfS; rw [hq]; rfl
     rw [hcq]
     have := aWd (hc x.1 y.1 q hq) hcaps (W := sortWorld (fun x : { x // x ∈ zs } => Value.int .i64 x.1) w g 0 m dk os) (aGf _ hgX) (fun b o hb => Nat.lt_of_lt_of_le (hXs b o hb) (aGk _ _ _ _ _ _)) (avs := [.int .i64 x.1, .int .i64 y.1]) ⟨.of_lit rfl, .of_lit rfl, trivial⟩
     simpa using this
theorem aHx {w : World} {g : Nat} {cur : Array Value} {e : TypeId} {ss : List Value} (hb : w.heap[g]? = some (.cells cur e (0, 0))) (ht : cur.toList.take ss.length = ss) : Holds id w g 0 ss.toArray := by
 intro j hj
 have hj' : j < ss.length := by simpa using hj
 refine ⟨?_, by simp [World.frozen?, hb]⟩
 have h1 : (cur.toList.take ss.length)[j]? = ss[j]? := by rw [ht]
 rw [List.getElem?_take_of_lt hj'] at h1
 simp only [World.cell?, hb, Nat.zero_add]
 simp only [Option.isSome_none, Bool.false_eq_true, if_false]
 rw [← Array.getElem?_toList, h1]
 simp [hj']
theorem aMn {w : World} {g n : Nat} {os : Array Obj} {cur : Array Value} {e : TypeId} {fr : Nat × Nat} (d : Array Value) (hb : w.heap[g]? = some (.cells cur e fr)) :
  (grow (putRow id (Sort.ahead w n) g 0 d) os).heap[g]? = some (.cells (putCells id 0 d cur) e fr) := by
 have hg : g < w.heap.size := (Array.getElem?_eq_some_iff.1 hb).1
 rw [heap_grow_old _ _ (by simpa using hg)]
 simp [putRow, mapBlock, Sort.ahead, Array.getElem?_modify, hb, onCells]
theorem aHv {w : World} {g n : Nat} {os : Array Obj} (d : Array Value) : w.grownBy (grow (putRow id (Sort.ahead w n) g 0 d) os) (some g) := by
 refine ⟨rfl, rfl, rfl, by simp, fun k hk hne => ?_⟩
 rw [heap_grow_old _ _ (by simpa using hk)]
 have : g ≠ k := fun e => hne (by rw [e])
 simp [putRow, mapBlock, Sort.ahead, Array.getElem?_modify, this]
theorem aJh (cur : Array Value) (ts : List Value) (h : ts.length ≤ cur.size) : (putCells id 0 ts.toArray cur).toList.take ts.length = ts := by
 apply List.ext_getElem?
 intro j
 by_cases hj : j < ts.length
 ·rw [List.getElem?_take_of_lt hj, Array.getElem?_toList]
  simp [putCells, hj, show j < cur.size by omega]
 ·rw [List.getElem?_take_eq_none (by omega), List.getElem?_eq_none (by omega)]
theorem aEa {k : Nat} : ∀ {rows : List (List Value)}, (∀ r ∈ rows, r.length = k) → rows.flatten.length = rows.length * k
 | [], _ => by simp
 | r :: rows, h => by
  rw [List.flatten_cons, List.length_append, h r (by simp), aEa fun r hr => h r (by simp [hr]), List.length_cons, Nat.succ_mul, Nat.add_comm]
theorem aJz {k : Nat} : ∀ {rows : List (List Value)} {i : Nat} {ds : List Value}, (∀ r ∈ rows, r.length = k) → rows[i]? = some ds → ∀ {j : Nat}, j < k → rows.flatten[i * k + j]? = ds[j]?
 | [], i, ds, _, h, j, _ => by simp at h
 | r :: rows, 0, ds, hk, h, j, hj => by
  simp at h; subst h
  simp only [List.flatten_cons, Nat.zero_mul, Nat.zero_add]
  rw [List.getElem?_append_left (by rw [hk r (by simp)]; exact hj)]
 | r :: rows, i + 1, ds, hk, h, j, hj => by
  rw [List.flatten_cons, List.getElem?_append_right (by rw [hk r (by simp), Nat.succ_mul]; omega), hk r (by simp), show (i + 1) * k + j - k = i * k + j by rw [Nat.succ_mul]; omega]
  exact aJz (fun r hr => hk r (by simp [hr])) (by simpa using h) hj
theorem aUi {α : Type} [Inhabited α] {enc : α → List Value} {k : Nat} (hk : ∀ x, (enc x).length = k) (d : Array α) : flatK enc k d = ((d.toList.map enc).flatten).toArray := by
 have hr : ∀ r ∈ d.toList.map enc, r.length = k := fun r hr => by
  obtain ⟨x, _, rfl⟩ := List.mem_map.1 hr
  exact hk x
 have hlen : ((d.toList.map enc).flatten).length = d.size * k := by
  rw [aEa hr, List.length_map, Array.length_toList]
 refine ext_get! (by simp [hlen]) fun t ht => ?_
 have ht' : t < d.size * k := by simpa using ht
 have k0 : 0 < k := by
  rcases Nat.eq_zero_or_pos k with h | h
  ·subst h; simp at ht'
  ·exact h
 have hq : t / k < d.size := Nat.div_lt_of_lt_mul (by rwa [Nat.mul_comm])
 have hm : t % k < k := Nat.mod_lt _ k0
 rw [get_flatK _ _ _ t ht']
 have h1 := aJz hr (i := t / k) (j := t % k) (ds := enc d[t / k]) (by simp [hq]) hm
 rw [show t / k * k + t % k = t from Nat.div_add_mod' t k] at h1
 rw [getElem!_pos d _ hq]
 have h2 : t % k < (enc d[t / k]).length := by rw [hk]; exact hm
 rw [getElem!_pos (enc d[t / k]) (t % k) h2, getElem!_pos (((d.toList.map enc).flatten).toArray) t (by simpa [hlen] using ht')]
 have h3 : t < ((d.toList.map enc).flatten).length := by rw [hlen]; exact ht'
 rw [List.getElem?_eq_getElem h3, List.getElem?_eq_getElem h2] at h1
 simpa using (Option.some.inj h1).symm
theorem yE : ∀ rows : List (List D), rows.flatten.map cY = (rows.map fun r => r.map cY).flatten
 | [] => rfl
 | r :: rows => by simp only [List.flatten_cons, List.map_append, List.map_cons, yE rows]
theorem aBa {w : World} {X : bT} : ∀ {ds : List D}, eX ds = true → (∀ v ∈ ds.map cY, v.oneCell' = true) → DRs w X ds (ds.map cY)
 | [], _, _ => trivial
 | .lit v :: ds, h, h1 => ⟨.lit v (h1 v (by simp [cY])), aBa (ds := ds) h fun u hu => h1 u (by simp only [List.map_cons]; exact List.mem_cons_of_mem _ hu)⟩
 | .sl _ _ :: _, h, _ => by simp [eX] at h
 | .sn _ _ :: _, h, _ => by simp [eX] at h
 | .mp _ _ :: _, h, _ => by simp [eX] at h
 | .pt _ :: _, h, _ => by simp [eX] at h
section
variable {α : Type} [DecidableEq α]
theorem aXu {P : Program} {N f : FuncId} {caps : List AV} {cmp : α → α → Option Int} {enc : α → List D} {k : Nat} (hlit : ∀ x, eX (enc x) = true) (hk : ∀ x, (enc x).length = k) (hone : ∀ x, ∀ v ∈ (enc x).map cY, v.oneCell' = true)
  (kit : ∀ {β : Type} [Inhabited β] (enc : β → List Value), (∀ x, (enc x).length = k) → (∀ x, ∀ v ∈ enc x, v.oneCell' = true) → ∀ (cf : β → β → Int), SWO (ltOf cf) → ∀ (g : Nat) (cb : Array Value) (blk off cap : Nat) (d : Array β) (w : World), (∀ args w, (callFunc g args).run P w = .ok (.enter g args) w) → CmpLays P g cb enc k cf blk off d.size w → HoldsK enc k w blk off d → blk < w.heap.size → d.size < 4611686018427387904 →
   (∀ x y, (ltOf cf) x y = false → (ltOf cf) y x = false → x = y) → Calls P N #[.slice (some ⟨blk, off, none⟩) d.size cap, .func (.func g) #[] cb] w fun e w' => e = .returned (.tuple #[]) ∧ ∃ n os, w' = sortWorldK enc k w blk off n (d.toList.mergeSort fun x y => !(ltOf cf) y x).toArray os)
  (kit0 : ∀ (p : Option Addr) (cap : Nat) (fv : Value) (w : World), Calls P N #[.slice p 0 cap, fv] w fun e w' => e = .returned (.tuple #[]) ∧ w' = w)
  (he : ∀ args w, (callFunc f args).run P w = .ok (.enter f args) w) (hc : ∀ x y r, cmp x y = some r → Fn P f ([.agg (enc x), .agg (enc y)] ++ caps) (.d (.lit (.int .i64 r))))
  {v : Value} {e : TypeId} {zs r : List α} (h : uW zs cmp = some r) :
  dW P N [.d (.lit v), .fn f caps] [.arr v e k (zs.map enc)] (fun r' o => r' = .tup [] ∧ o = [.arr v e k (r.map enc)]) := by
 unfold uW at h
 split at h
 case isFalse => cases h
 rename_i hh
 obtain ⟨hok, hl⟩ := hh
 cases h
 intro A w vs hI hA hv
 obtain ⟨u1, u2, hvs⟩ : ∃ u1 u2, vs = [u1, u2] := by
  match vs, hv with
  | [u1, u2], _ => exact ⟨u1, u2, rfl⟩
 subst hvs
 obtain ⟨hv1, hv2, _⟩ := hv
 have e1 := hv1.lit
 subst e1
 obtain ⟨xs, hd, hown, hr⟩ := hI.holds _ (List.mem_singleton.2 rfl)
 have hx := zS (mJ hlit zs) hd
 rw [yE, List.map_map] at hx
 subst hx
 rw [List.length_map] at hown
 have hvr : ∀ w' X, VR w' X (.tup []) (.tuple #[]) := fun w' X => .tup (us := []) rfl fun i hi => by simp at hi
 cases hv2 with
 | fn hlc hcap =>
  rename_i us
  rcases hown.2 with ⟨hn, hz⟩ | ⟨g, cap, cur, rfl, hb, hg, h2, h3, h4, h5⟩
  ·subst hn
   have hz0 : zs = [] := List.length_eq_zero_iff.1 hz
   subst hz0
   refine (kit0 none 0 _ w).mono ?_
   rintro e' w' ⟨rfl, rfl⟩
   exact ⟨_, .tup [], _, rfl, Keeps.refl _ _, hI, hvr _ _, fun m hm b o hf => .inl ⟨m, hm, hf⟩, rfl, by simp [eS]⟩
  ·have hcaps : VRs w (bU A [.arr (.slice (some ⟨g, 0, none⟩) zs.length cap) e k (zs.map enc)]) caps us := uD hlc hcap
   have hgX : ∀ o, bU A [.arr (.slice (some ⟨g, 0, none⟩) zs.length cap) e k (zs.map enc)] g o := fun o => .inr ⟨_, List.mem_singleton.2 rfl, rfl⟩
   have hgs : g < w.heap.size := (Array.getElem?_eq_some_iff.1 hg).1
   have hXs : ∀ b o, bU A [.arr (.slice (some ⟨g, 0, none⟩) zs.length cap) e k (zs.map enc)] b o → b < w.heap.size := fun b o hx => by
    rcases hx with hx | ⟨m, hm, hf⟩
    ·exact hA b o hx
    ·cases List.mem_singleton.1 hm
     have : some g = some b := hf
     cases this
     exact hgs
   have hsl : (eS cmp zs).length = zs.length := by simp [eS]
   have hkr : ∀ l : List α, ((l.map ((fun r => r.map cY) ∘ enc)).flatten).length = l.length * k := fun l => by
    rw [aEa (k := k) fun r hr => by obtain ⟨x, _, rfl⟩ := List.mem_map.1 hr; simp [hk x], List.length_map]
   by_cases hne : zs = []
   ·subst hne
    refine (kit0 _ cap _ w).mono ?_
    rintro e' w' ⟨rfl, rfl⟩
    exact ⟨_, .tup [], _, rfl, Keeps.refl _ _, hI, hvr _ _, fun m hm b o hf => .inl ⟨m, hm, hf⟩, rfl, by simp [eS]⟩
   ·obtain ⟨z0, hz0⟩ := List.exists_mem_of_ne_nil zs hne
    haveI : Inhabited { x // x ∈ zs } := ⟨⟨z0, hz0⟩⟩
    have hat : zs.attach.toArray.size = zs.length := by simp
    have hkE : ∀ x : { x // x ∈ zs }, ((enc x.1).map cY).length = k := fun x => by simp [hk]
    have hfl : ∀ l : List { x // x ∈ zs }, flatK (fun x : { x // x ∈ zs } => (enc x.1).map cY) k l.toArray = ((l.map Subtype.val).map ((fun r => r.map cY) ∘ enc)).flatten.toArray := fun l => by
     rw [aUi hkE]
     simp [List.map_map, Function.comp_def]
    have hH : HoldsK (fun x : { x // x ∈ zs } => (enc x.1).map cY) k w g 0 zs.attach.toArray := by
     unfold HoldsK
     rw [hfl, List.attach_map_subtype_val]
     exact aHx hg (by rw [hkr]; exact h5)
    have hkit := kit (β := { x // x ∈ zs }) (fun x => (enc x.1).map cY) hkE (fun x => hone x.1) (cfS zs cmp) (aLn hok) f us.toArray g 0 cap zs.attach.toArray w he (fun m os dk hs x y => ?_) hH hgs (by simpa using hl) (aRs hok)
    ·rw [hat] at hkit
     refine hkit.mono ?_
     rintro e' w' ⟨rfl, n, os, rfl⟩
     have hd' : sortWorldK (fun x : { x // x ∈ zs } => (enc x.1).map cY) k w g 0 n (zs.attach.toArray.toList.mergeSort fun x y => !(ltOf (cfS zs cmp)) y x).toArray os = grow (putRow id (Sort.ahead w n) g 0 (((eS cmp zs).map ((fun r => r.map cY) ∘ enc)).flatten).toArray) os := by
      unfold sortWorldK putRowK
      rw [hfl, ← aBd hok]
     rw [hd']
     have hgb := aHv (w := w) (g := g) (n := n) (os := os) (((eS cmp zs).map ((fun r => r.map cY) ∘ enc)).flatten).toArray
     have hk' := aAz (v := .slice (some ⟨g, 0, none⟩) zs.length cap) hgb (Nat.le_add_right _ _)
     refine ⟨_, .tup [], [.arr (.slice (some ⟨g, 0, none⟩) zs.length cap) e k ((eS cmp zs).map enc)], rfl, hk'.mono fun b o h => ⟨_, List.mem_singleton.2 rfl, h⟩, ⟨?_, fun m hm b o hf => ?_, fun m hm => ?_⟩, hvr _ _, fun m hm b o hf => ?_, rfl, rfl⟩
     ·exact List.pairwise_singleton _ _
     ·cases List.mem_singleton.1 hm
      exact hI.apart _ (List.mem_singleton.2 rfl) b o hf
     ·cases List.mem_singleton.1 hm
      have hz : (((eS cmp zs).map enc).flatten).map cY = ((eS cmp zs).map ((fun r => r.map cY) ∘ enc)).flatten := by rw [yE, List.map_map]
      have hlen2 := hkr (eS cmp zs)
      rw [hsl] at hlen2
      have hle : zs.length * k ≤ cur.size := by rw [h4]; exact Nat.mul_le_mul_right k h2
      refine ⟨_, aBa (mJ hlit _) (fun u hu => by
       rw [hz] at hu
       obtain ⟨r, hr, hu⟩ := List.mem_flatten.1 hu
       obtain ⟨x, _, rfl⟩ := List.mem_map.1 hr
       exact hone x u hu), ?_, fun r hr' => ?_⟩
      ·rw [List.length_map, hsl, hz]
       refine ⟨hlen2, .inr ⟨g, cap, _, rfl, hb, aMn _ hg, h2, h3, by simp [putCells, h4], ?_⟩⟩
       have := aJh cur _ (by rw [hlen2]; exact hle)
       rwa [hlen2] at this
      ·obtain ⟨x, _, rfl⟩ := List.mem_map.1 hr'
       exact hk x
     ·cases List.mem_singleton.1 hm
      exact .inl ⟨_, List.mem_singleton.2 rfl, hf⟩
    ·obtain ⟨q, hq⟩ := (wT hok).2.1 x.1 x.2 y.1 y.2
     have hcq : cfS zs cmp x y = q := by unfold cfS; rw [hq]; rfl
     rw [hcq]
     have hagg : ∀ (W : World) (X : bT) (x : α), VR W X (.agg (enc x)) (.agg ((enc x).map cY).toArray) := fun W X x => .agg (aBa (hlit x) (hone x))
     have hmono : Mono w (bU A [.arr (.slice (some ⟨g, 0, none⟩) zs.length cap) e k (zs.map enc)]) (sortWorldK (fun x : { x // x ∈ zs } => (enc x.1).map cY) k w g 0 m dk os) (bU A [.arr (.slice (some ⟨g, 0, none⟩) zs.length cap) e k (zs.map enc)]) := aGf id hgX
     have hsz : w.heap.size ≤ (sortWorldK (fun x : { x // x ∈ zs } => (enc x.1).map cY) k w g 0 m dk os).heap.size := aGk id _ _ _ _ _
     have := aWd (hc x.1 y.1 q hq) hcaps (W := sortWorldK (fun x : { x // x ∈ zs } => (enc x.1).map cY) k w g 0 m dk os) hmono (fun b o hb => Nat.lt_of_lt_of_le (hXs b o hb) hsz) (avs := [.agg ((enc x.1).map cY).toArray, .agg ((enc y.1).map cY).toArray]) ⟨hagg _ _ _, hagg _ _ _, trivial⟩
     simpa using this
end
end Go.Am
