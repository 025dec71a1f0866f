/- The library's sort by a function, as a function that changes its slice. -/
import Derived.Test.YtiohgpipanopaaaGreatAmSortF0
import Derived.Test.YtiohgpipanopaaaGreatAmLent
import Derived.Shelf.SlSortCmp.NoneTotal
namespace Go.Am
open Go.Sort Go.Proofs
theorem aLx {w w' : World} (h : Keeps (eT []) w w') : ∃ q os, w' = grow (w.drewN q) os := by
 refine ⟨w'.drawn - w.drawn, w'.heap.extract w.heap.size w'.heap.size, ?_⟩
 have hd := h.drawn
 have hs := h.size
 have hh : w.heap ++ w'.heap.extract w.heap.size w'.heap.size = w'.heap := by
  apply Array.ext_getElem?
  intro i
  by_cases hi : i < w.heap.size
  ·rw [Array.getElem?_append_left hi]
   exact (h.block i hi fun o ⟨m, hm, _⟩ => by simp at hm).symm
  ·rw [Array.getElem?_append_right (by omega), Array.getElem?_extract]
   by_cases hi2 : i < w'.heap.size
   ·rw [if_pos (by omega), show w.heap.size + (i - w.heap.size) = i by omega]
   ·rw [if_neg (by omega), Array.getElem?_eq_none (by omega)]
 have hq : w.drawn + (w'.drawn - w.drawn) = w'.drawn := by omega
 unfold grow World.drewN
 simp only [hh, hq]
 rw [← h.tape, ← h.os, ← h.output]
theorem aPb {γ : Type} [Inhabited γ] (E : γ → Value) {w : World} {X : bZ} {g m : Nat} {F : Array γ} {os : Array Obj} (hg : ∀ o, X g o) : Mono w X (grow (putRow E (Sort.ahead w m) g 0 F) os) X := by
 have hne : ∀ b, b ≠ g → b < w.heap.size → (grow (putRow E (Sort.ahead w m) g 0 F) os).heap[b]? = w.heap[b]? := fun b hb hlt => by
  rw [heap_grow_old _ _ (by simpa using hlt)]
  simp [putRow, mapBlock, Sort.ahead, Array.getElem?_modify, Ne.symm hb]
 refine ⟨fun b o v hc hx => ⟨?_, hx⟩, fun r ms c hr hx => ⟨?_, hx⟩⟩
 ·have hb : b ≠ g := fun e => hx (e ▸ hg o)
  have hlt : b < w.heap.size := by
   refine Nat.lt_of_not_le fun hle => ?_
   simp [World.cell?, Array.getElem?_eq_none hle] at hc
  simp only [World.cell?, hne b hb hlt]
  exact hc
 ·have hb : r ≠ g := fun e => hx 0 (e ▸ hg 0)
  rw [hne r hb (Array.getElem?_eq_some_iff.1 hr).1]
  exact hr
theorem aPk {γ : Type} [Inhabited γ] (E : γ → Value) (w : World) (g m : Nat) (F : Array γ) (os : Array Obj) : w.heap.size ≤ (grow (putRow E (Sort.ahead w m) g 0 F) os).heap.size := by
 show _ ≤ ((putRow E (Sort.ahead w m) g 0 F).heap ++ os).size
 rw [Array.size_append, Proofs.size_putRow]
 exact Nat.le_add_right _ _
theorem aYv {P : Program} {f : FuncId} {args caps : List AV} {r : Int} (h : Fn P f (args ++ caps) (.d (.lit (.int .i64 r)))) {w W : World} {avs cbs : List Value} {X : bZ} (hX : VRs w X caps cbs) (hm : Mono w X W X) (hs : ∀ b o, X b o → b < W.heap.size) (ha : VRs W X args avs) :
  Calls P f (avs ++ cbs).toArray W fun e w' => e = .returned (.int .i64 r) ∧ ∃ q os, w' = grow (W.drewN q) os := by
 have hz : Mono W X W (bN X []) := Mono.sub fun b o h => h.elim id fun ⟨m, hm, _⟩ => by simp at hm
 refine (h X W (avs ++ cbs) ⟨by simp [Sep], by simp, by simp⟩ hs ((ha.mono hz).append (hX.mono (hm.trans hz)))).mono ?_
 rintro e w' ⟨v, r', objs', rfl, hk, _, hv, _, rfl, _⟩
 have hv' := hv.lit
 subst hv'
 exact ⟨rfl, aLx hk⟩
theorem aTv {P : Program} {N f : FuncId} {caps : List AV} {cmp : Int → Int → Option Int}
  (kit : ∀ {β : Type} [Inhabited β] (enc : β → Value), OneCell enc → ∀ (cf : β → β → Int), SWO (ltOf cf) → ∀ (g : Nat) (cb : Array Value) (blk off cap : Nat) (d : Array β) (w : World), (∀ args w, (callFunc g args).run P w = .ok (.enter g args) w) → CmpLays1 P g cb enc cf blk off d.size w → Holds enc w blk off d → blk < w.heap.size → d.size < 4611686018427387904 →
   (∀ x y, (ltOf cf) x y = false → (ltOf cf) y x = false → x = y) → Calls P N #[.slice (some ⟨blk, off, none⟩) d.size cap, .func (.func g) #[] cb] w fun e w' => e = .returned (.tuple #[]) ∧ ∃ n os, w' = sortWorld enc w blk off n (d.toList.mergeSort fun x y => !(ltOf cf) y x).toArray os)
  (kit0 : ∀ (p : Option Addr) (cap : Nat) (fv : Value) (w : World), Calls P N #[.slice p 0 cap, fv] w fun e w' => e = .returned (.tuple #[]) ∧ w' = w)
  (he : ∀ args w, (callFunc f args).run P w = .ok (.enter f args) w) (hc : ∀ x y r, cmp x y = some r → Fn P f ([.d (.lit (.int .i64 x)), .d (.lit (.int .i64 y))] ++ caps) (.d (.lit (.int .i64 r))))
  {v : Value} {e : TypeId} {zs r : List Int} (h : aMf zs cmp = some r) :
  dR P N [.d (.lit v), .fn f caps] [.arr v e 1 (zs.map aL)] (fun r' o => r' = .tup [] ∧ o = [.arr v e 1 (r.map aL)]) := by
 unfold aMf at h
 split at h
 case isFalse => cases h
 rename_i hh
 obtain ⟨hok, hl⟩ := hh
 cases h
 intro A w vs hI hA hv
 obtain ⟨u1, u2, hvs⟩ : ∃ u1 u2, vs = [u1, u2] := by
  match vs, hv with
  | [u1, u2], _ => exact ⟨u1, u2, rfl⟩
 subst hvs
 obtain ⟨hv1, hv2, _⟩ := hv
 have e1 := hv1.lit
 subst e1
 obtain ⟨xs, hd, hown, hr⟩ := hI.holds _ (List.mem_singleton.2 rfl)
 have hx := aGj hd
 subst hx
 rw [List.length_map] at hown
 have hvr : ∀ w' X, VR w' X (.tup []) (.tuple #[]) := fun w' X => .tup (us := []) rfl fun i hi => by simp at hi
 cases hv2 with
 | fn hlc hcap =>
  rename_i us
  rcases hown.2 with ⟨hn, hz⟩ | ⟨g, cap, cur, rfl, hb, hg, h2, h3, h4, h5⟩
  ·subst hn
   have hz0 : zs = [] := List.length_eq_zero_iff.1 hz
   subst hz0
   refine (kit0 none 0 _ w).mono ?_
   rintro e' w' ⟨rfl, rfl⟩
   exact ⟨_, .tup [], _, rfl, Keeps.refl _ _, hI, hvr _ _, fun m hm b o hf => .inl ⟨m, hm, hf⟩, rfl, by simp [kV]⟩
  ·rw [Nat.mul_one] at h5
   have hcaps : VRs w (bN A [.arr (.slice (some ⟨g, 0, none⟩) zs.length cap) e 1 (zs.map aL)]) caps us := sV hlc hcap
   have hgX : ∀ o, bN A [.arr (.slice (some ⟨g, 0, none⟩) zs.length cap) e 1 (zs.map aL)] g o := fun o => .inr ⟨_, List.mem_singleton.2 rfl, rfl⟩
   have hgs : g < w.heap.size := (Array.getElem?_eq_some_iff.1 hg).1
   have hXs : ∀ b o, bN A [.arr (.slice (some ⟨g, 0, none⟩) zs.length cap) e 1 (zs.map aL)] b o → b < w.heap.size := fun b o hx => by
    rcases hx with hx | ⟨m, hm, hf⟩
    ·exact hA b o hx
    ·cases List.mem_singleton.1 hm
     have : some g = some b := hf
     cases this
     exact hgs
   have hsl : (kV cmp zs).length = zs.length := by simp [kV]
   by_cases hne : zs = []
   ·subst hne
    refine (kit0 _ cap _ w).mono ?_
    rintro e' w' ⟨rfl, rfl⟩
    exact ⟨_, .tup [], _, rfl, Keeps.refl _ _, hI, hvr _ _, fun m hm b o hf => .inl ⟨m, hm, hf⟩, rfl, by simp [kV]⟩
   ·obtain ⟨z0, hz0⟩ := List.exists_mem_of_ne_nil zs hne
    haveI : Inhabited { x // x ∈ zs } := ⟨⟨z0, hz0⟩⟩
    have hat : zs.attach.toArray.size = zs.length := by simp
    have hH : Holds (fun x : { x // x ∈ zs } => Value.int .i64 x.1) w g 0 zs.attach.toArray := by
     intro j hj
     have hj' : j < zs.length := by simpa using hj
     have := holds_of_blockI hg (by simpa using h5) j (by simpa using hj')
     refine ⟨?_, this.2⟩
     rw [this.1]
     simp [hj']
    have hk := kit (β := { x // x ∈ zs }) (fun x => Value.int .i64 x.1) (fun _ => rfl) (cfS zs cmp) (aXy hok) f us.toArray g 0 cap zs.attach.toArray w he (fun m os dk hs x y => ?_) hH hgs (by simpa using hl) (aXz hok)
    ·rw [hat] at hk
     refine hk.mono ?_
     rintro e' w' ⟨rfl, n, os, rfl⟩
     have hd' : sortWorld (fun x : { x // x ∈ zs } => Value.int .i64 x.1) w g 0 n (zs.attach.toArray.toList.mergeSort fun x y => !(ltOf (cfS zs cmp)) y x).toArray os = grow (putRow (Value.int .i64) (Sort.ahead w n) g 0 (kV cmp zs).toArray) os := by
      unfold sortWorld
      congr 1
      unfold putRow
      congr 1
      funext c
      unfold putCells
      have hsize : (zs.attach.toArray.toList.mergeSort fun x y => !(ltOf (cfS zs cmp)) y x).toArray.size = (kV cmp zs).toArray.size := by simp [kV]
      refine congrArg (fun h => Array.mapIdx h c) ?_
      funext k x
      rw [hsize]
      split
      ·rename_i hkk
       have h1 : k - 0 < (kV cmp zs).length := by simpa using hkk
       have h2 : k - 0 < (zs.attach.toArray.toList.mergeSort fun x y => !(ltOf (cfS zs cmp)) y x).length := by simpa [kV] using h1
       have := congrArg (fun l => l[k - 0]?) (aPm hok)
       simp only [List.getElem?_map, List.getElem?_eq_getElem h1] at this
       rw [List.getElem?_eq_getElem (by simpa using h2)] at this
       simp only [Option.map_some, Option.some.injEq] at this
       rw [getElem!_pos _ _ (by simpa using h2), getElem!_pos _ _ (by simpa using h1)]
       simp only [List.getElem_toArray]
       rw [← this]
      ·rfl
     rw [hd']
     have hgb := grownBy_sortedI (w := w) (g := g) (n := n) (os := os) (kV cmp zs).toArray
     have hk' := aGn (v := .slice (some ⟨g, 0, none⟩) zs.length cap) hgb (Nat.le_add_right _ _)
     refine ⟨_, .tup [], [.arr (.slice (some ⟨g, 0, none⟩) zs.length cap) e 1 ((kV cmp zs).map aL)], rfl, hk'.mono fun b o h => ⟨_, List.mem_singleton.2 rfl, h⟩, ⟨?_, fun m hm b o hf => ?_, fun m hm => ?_⟩, hvr _ _, fun m hm b o hf => ?_, rfl, rfl⟩
     ·exact List.pairwise_singleton _ _
     ·cases List.mem_singleton.1 hm
      exact hI.apart _ (List.mem_singleton.2 rfl) b o hf
     ·cases List.mem_singleton.1 hm
      refine ⟨_, aHg (kV cmp zs), ?_, fun r hr' => ?_⟩
      ·have := ownsRow_sortedI (base := 0) (n := n) (os := os) (ss := zs) (ts := kV cmp zs) hsl hb hg h2 h3 h4
       rw [List.length_map, hsl]
       exact this
      ·obtain ⟨x, _, rfl⟩ := List.mem_map.1 hr'
       rfl
     ·cases List.mem_singleton.1 hm
      exact .inl ⟨_, List.mem_singleton.2 rfl, hf⟩
    ·obtain ⟨q, hq⟩ := (aCy hok).2.1 x.1 x.2 y.1 y.2
     have hcq : cfS zs cmp x y = q := by unfold cfS; rw [hq]; rfl
     rw [hcq]
     have := aYv (hc x.1 y.1 q hq) hcaps (W := sortWorld (fun x : { x // x ∈ zs } => Value.int .i64 x.1) w g 0 m dk os) (aPb _ hgX) (fun b o hb => Nat.lt_of_lt_of_le (hXs b o hb) (aPk _ _ _ _ _ _)) (avs := [.int .i64 x.1, .int .i64 y.1]) ⟨.of_lit rfl, .of_lit rfl, trivial⟩
     simpa using this
section
variable {α : Type} [DecidableEq α]
end
end Go.Am
