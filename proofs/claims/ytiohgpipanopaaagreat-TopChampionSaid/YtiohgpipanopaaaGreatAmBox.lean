/- A box that holds a closure. -/
import Derived.Test.YtiohgpipanopaaaGreatAmView
import Derived.Test.YtiohgpipanopaaaGreatAmRangeC
namespace Go.Am
def nS (b : Nat) (f : FuncId) (caps : List AV) : MO := .ext (fun x o => x = b ∧ o = 0) (fun w X => ∃ v, w.cell? ⟨b, 0, none⟩ = some v ∧ VR w X (.fn f caps) v)
section
variable {P : Program} {n d : Nat} {st : St}
theorem aUr {w : World} {X : bZ} {b : Nat} {f : FuncId} {caps : List AV} (h : (nS b f caps).holds w X) : ∃ v, w.cell? ⟨b, 0, none⟩ = some v ∧ VR w X (.fn f caps) v :=
 h.2 w X (Mono.refl _ _) (Keeps.refl _ _)
theorem aGu {x : Operand} {t : TypeId} {b i : Nat} {f : FuncId} {caps : List AV} {ty : TypeId} {pos : String} {af : Array Edge} {gd : Option (Nat × Bool)} (hd : d < n)
  (hx : st.eval x = .bp b 0 0) (ho : st.objs[i]? = some (nS b f caps)) (ht : iG P t) : bR P n ⟨some d, .load t x, ty, pos, af, gd⟩ st (st.set d (.fn f caps)) :=
 dE rfl hd fun A M w0 a w hR => by
  have hk : eC x = true := by cases x with | const u => cases hx | _ => rfl
  have h := hR.eval' hk
  rw [hx] at h
  generalize hu : a.eval x = u at h
  obtain ⟨v, hc, hv⟩ := aUr (hR.inv.holds _ (List.mem_of_getElem? ho))
  cases h with
  | bp => exact ⟨v, by simp [execOp, hu, sQ ht hc], hv⟩
theorem aOg {x y : Operand} {t b i : Nat} {d0 : D} {f : FuncId} {caps : List AV} {ty : TypeId} {pos : String} {af : Array Edge} {gd : Option (Nat × Bool)}
  (hx : st.eval x = .bp b 0 0) (ho : st.objs[i]? = some (.box b 0 [d0])) (hy : st.eval y = .fn f caps) (hk : eC y = true) (ht : ∀ w, (sizeOf t).run P w = .ok 1 w) :
  bR P n ⟨none, .store t x y, ty, pos, af, gd⟩ st (st.put1 i (nS b f caps)) := by
 intro A M w0 a w hR K Q hK
 have hkx : eC x = true := by cases x with | const u => cases hx | _ => rfl
 have h := hR.eval' hkx
 rw [hx] at h
 have hyv := hR.eval' hk
 rw [hy] at hyv
 obtain ⟨u, hu⟩ : ∃ u, a.eval y = u := ⟨_, rfl⟩
 rw [hu] at hyv
 have hcells : u.cells = #[u] ∧ u.oneCell' = true := by cases hyv; exact ⟨rfl, rfl⟩
 obtain ⟨vs, hvs, hc, hf⟩ := hR.inv.holds _ (List.mem_of_getElem? ho)
 have hlv := hvs.length
 have hcell : (w.cell? ⟨b, 0, none⟩).isSome = true := by
  have := hc 0 _ (List.getElem?_eq_getElem (by rw [hlv]; exact Nat.zero_lt_one))
  simp only [Nat.add_zero] at this
  rw [this]; rfl
 have hpt : a.eval x = .pointer (some ⟨b, 0, none⟩) := by
  generalize hu : a.eval x = u at h
  cases h; rfl
 have hst := vJ (P := P) ht (w := w) (b := b) (o := 0) (v := u) (by rw [hcells.1]; rfl) (fun q hq => by
   have : q = 0 := by omega
   subst this; simpa using hcell) (fun q hq => by
   have : q = 0 := by omega
   subst this; simpa using hf 0 (by simp)) (by rw [hcells.1]; simpa using hcells.2)
 unfold Oper.wp
 have hrun : (execOp a.eval ⟨none, .store t x y, ty, pos, af, gd⟩).run P w = .ok .skip (w.setCells b 0 u.cells.toList) := by
  simp [execOp, hpt, hu, hst]
 rw [hrun, Oper.upon_skip]
 refine hK _ _ _ rfl ?_
 have hR' := hR.replace (w' := w.setCells b 0 u.cells.toList) (m' := nS b f caps) ho (Keeps.setCells w b 0 _ (Z := (MO.box b 0 [d0]).foot) (fun q h1 h2 => by
   rw [hcells.1] at h2
   simp only [List.length_cons, List.length_nil] at h2
   exact ⟨rfl, by omega, by simp; omega⟩) (by rw [hcells.1]; simp))
  (fun _ _ hz => hz) (fun p q hf' => .inl ⟨hf'.1, by omega, by have := hf'.2; simp; omega⟩) fun hmono => by
   have hlt : b < w.heap.size := by
    have := hc 0 _ (List.getElem?_eq_getElem (by rw [hlv]; exact Nat.zero_lt_one))
    exact block_lt_of_cell this
   have hk0 : Keeps (MO.box b 0 [d0]).foot w (w.setCells b 0 u.cells.toList) := Keeps.setCells w b 0 _ (fun q h1 h2 => by
    rw [hcells.1] at h2
    simp only [List.length_cons, List.length_nil] at h2
    exact ⟨rfl, by omega, by simp; omega⟩) (by rw [hcells.1]; simp)
   have hsame : (w.setCells b 0 u.cells.toList).cell? ⟨b, 0, none⟩ = some u := by
    rw [hcells.1]
    have := World.cell?_setCells_in b [u] 0 w (fun j hj => by
     have : j = 0 := by simpa using hj
     subst this; simpa using hcell) 0 (by simp)
    simpa using this
   refine ⟨fun b' o hb => ?_, fun w' X' hm hk => ⟨u, ?_, (hyv.mono hmono).mono hm⟩⟩
   ·obtain ⟨rfl, _⟩ := hb
    exact Nat.lt_of_lt_of_le hlt hk0.size
   ·rw [hk.cell b 0 (Nat.lt_of_lt_of_le hlt hk0.size) (fun h => h ⟨rfl, rfl⟩)]
    exact hsame
 exact hR'.put_none rfl
def aKj {α : Type} (c : Int) (xs ys : List α) : Option (List α) := if ((xs.length + ys.length : Nat) : Int) ≤ c then some (xs ++ ys) else none
theorem aFp {α : Type} {c : Int} {xs ys zs : List α} (h : aKj c xs ys = some zs) : ((xs.length + ys.length : Nat) : Int) ≤ c ∧ zs = xs ++ ys := by
 unfold aKj at h
 split at h
 ·rename_i hc; cases h; exact ⟨hc, rfl⟩
 ·cases h
theorem aTl {α : Type} {t e k bytes i g cap : Nat} {z : Value} {x y : Operand} {f : α → List D} {xs ys zs : List α} {c : Int} {ty : TypeId} {pos : String} {af : Array Edge} {gd : Option (Nat × Bool)} (hd : d < n) (ht : SliceTy P t e k bytes z)
  (hx : st.eval x = .d (.lit (vw g xs.length cap))) (ho : st.objs[i]? = some (.arr (vw g xs.length cap) e k (xs.map f))) (hy : st.eval y = .d (.sl k (ys.map f))) (hk : ∀ a, (f a).length = k)
  (hc : (cap : Int) = c) (h : aKj c xs ys = some zs) (hne : ys ≠ []) :
  bR P n ⟨some d, .call { callee := .builtin .append, args := #[x, y], argTypes := #[t, t] }, ty, pos, af, gd⟩ st (st.setput d (.d (.lit (vw g zs.length cap))) i (.arr (vw g zs.length cap) e k (zs.map f))) := by
 obtain ⟨h1, rfl⟩ := aFp h
 have := aPh (P := P) (n := n) (d := d) (st := st) (rows := xs.map f) (rows2 := ys.map f) (m := xs.length) (ty := ty) (pos := pos) (af := af) (gd := gd) hd ht hx (by simp) ho hy (bL hk) (by simp; omega) (by simpa using hne)
 simpa using this
theorem aOy {α : Type} {env : Nat → AV} {objs : List MO} (i : Nat) {g cap e k : Nat} {f : α → List D} {c : Int} {xs ys zs : List α} (h : aKj c xs ys = some zs) (ho : objs[i]? = some (.arr (vw g zs.length cap) e k (zs.map f))) :
  Ent ⟨env, objs⟩ ⟨env, objs.set i (.arr (vw g xs.length cap) e k (xs.map f))⟩ := by
 obtain ⟨_, rfl⟩ := aFp h
 exact aQr i (rows := xs.map f) (more := ys.map f) (by simp) (by simpa using ho)
theorem aUa {α : Type} {c : Int} {cap : Nat} {xs ys zs : List α} (hc : (cap : Int) = c) (h : aKj c xs ys = some zs) : zs.length ≤ cap := by
 obtain ⟨h1, rfl⟩ := aFp h
 simp; omega
def mk0 (bytes : Nat) (c : Int) : Option Nat := if 0 ≤ c ∧ c * (bytes : Int) ≤ 140737488355328 then some c.toNat else none
theorem aNq {bytes : Nat} {c : Int} {q : Nat} (h : mk0 bytes c = some q) : 0 ≤ c ∧ c * (bytes : Int) ≤ 140737488355328 ∧ q = c.toNat := by
 unfold mk0 at h
 split at h
 ·rename_i hc; cases h; exact ⟨hc.1, hc.2, rfl⟩
 ·cases h
theorem aWz {bytes : Nat} {c : Int} {q : Nat} (h : mk0 bytes c = some q) : (q : Int) = c := by
 obtain ⟨h1, _, rfl⟩ := aNq h
 omega
theorem aXg {α : Type} (f : α → List D) {t e k bytes q : Nat} {z : Value} {x y : Operand} {k1 k2 : IntKind} {c : Int} {ty : TypeId} {pos : String} {af : Array Edge} {gd : Option (Nat × Bool)} (hd : d < n) (ht : SliceTy P t e k bytes z)
  (hx : st.eval x = .d (.lit (.int k1 0))) (hy : st.eval y = .d (.lit (.int k2 c))) (hb : mk0 bytes c = some q) (hby : 0 < bytes) :
  Step P n ⟨some d, .makeSlice t x y, ty, pos, af, gd⟩ st (fun s => ∃ g, s = (st.setadd d (.d (.lit (vw g ([] : List α).length q))) (.arr (vw g ([] : List α).length q) e k (([] : List α).map f)))) := by
 obtain ⟨h0, h1, rfl⟩ := aNq hb
 exact aXf hd ht hx hy h0 h1 hby
theorem aYw {S0 : Type} {J K : S0 → MO → Prop} {x : S0 × Bool} {m : MO} (h : JK J K x m) (hb : (!x.2) = true) : JK J K (x.1, false) m := by
 unfold JK at h ⊢
 cases hx : x.2 with
 | true => rw [hx] at hb; cases hb
 | false => rw [hx] at h; exact h
end
end Go.Am
