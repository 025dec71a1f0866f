/- The program logic 'Am': functions of the library by what the kit says of them; calls that give a new box, or nil. -/
import Derived.Test.YtaocljlhapoieaaAmSub
import Derived.Lib.BitFns
namespace Go.Am
/-- What follows a call that may give nothing. -/
def vW {α β : Type} (o : Option α) (a : β) (f : α → β) : β := match o with
  | none => a
  | some x => f x
theorem yG {α β : Type} {a : Option β} {f : α → Option β} {r : β} (h : vW none a f = some r) : a = some r := h
theorem yH {α β : Type} {x : α} {a : Option β} {f : α → Option β} {r : β} (h : vW (some x) a f = some r) : f x = some r := h

theorem aFw {P : Program} {f : FuncId} {u v : Value} (h : ∀ w, Calls P f #[u] w fun e w' => e = .returned v ∧ w' = w) (hv : v.oneCell' = true) : Fn P f [.d (.lit u)] (.d (.lit v)) := by
  intro A w vs hI hA hvs
  have : vs = [u] := by
    match vs, hvs with
    | [x], hvs =>
      cases hvs.1 with
      | d h => cases h; rfl
  subst this
  refine (h w).mono ?_
  rintro e' w' ⟨rfl, rfl⟩
  exact ⟨_, .d (.lit v), [], rfl, Keeps.refl _ _, hI, .of_lit hv, (fun m hm => by cases hm), rfl, rfl⟩
def yW (x : Int) : Option Int := if 0 ≤ x ∧ x ≤ 18446744073709551615 then some (Lib.bitLen x.toNat : Nat) else none
theorem aIr {P : Program} {f : FuncId} (h : ∀ (x : Int) (w : World), 0 ≤ x → x ≤ 18446744073709551615 → Calls P f #[.int .u64 x] w fun e w' => e = .returned (.int .i64 (Lib.bitLen x.toNat)) ∧ w' = w) {x r : Int} (hr : yW x = some r) :
    Fn P f [.d (.lit (.int .u64 x))] (.d (.lit (.int .i64 r))) := by
  unfold yW at hr
  split at hr
  · rename_i hc
    cases hr
    exact aFw (fun w => h x w hc.1 hc.2) rfl
  · cases hr
/-- A pointer in a cell. -/
abbrev fT (b o j : Nat) : D := .lit (.pointer (some ⟨b, o + j, none⟩))
section
variable {P : Program} {n d : Nat} {st : St} {o : Oper}
theorem sZ {x : Operand} {t : TypeId} {b o j i b2 o2 j2 : Nat} {ds : List D} {ty : TypeId} {pos : String} {af : Array Edge} {gd : Option (Nat × Bool)} (hd : d < n)
    (hx : st.eval x = .bp b o j) (ho : st.objs[i]? = some (.box b o ds)) (hj : ds[j]? = some (fT b2 o2 j2)) (ht : mD P t) :
    bC P n ⟨some d, .load t x, ty, pos, af, gd⟩ st (st.set d (.bp b2 o2 j2)) := by
  intro A M w0 a w hR K Q hK
  refine gI (d0 := fT b2 o2 j2) hd hx ho hj ht A M w0 a w hR K Q fun s a' w' hs hR' => ?_
  subst hs
  refine hK _ a' w' rfl ⟨hR'.size, hR'.defers, fun k => ?_, hR'.inv, hR'.keeps, hR'.own, hR'.old⟩
  have h := hR'.env k
  show VR w' _ (upd st.env d (.bp b2 o2 j2) k) _
  have h' : VR w' (bQ A st.objs) (upd st.env d (.d (fT b2 o2 j2)) k) (a'.tmps.getD k undef) := h
  by_cases hk : d = k
  · subst hk
    rw [gO] at h' ⊢
    generalize a'.tmps.getD d undef = u at h'
    cases h' with
    | d h => cases h; exact .bp b2 o2 j2
  · rw [mB _ _ hk] at h' ⊢
    exact h'
end
theorem aJa {env : Nat → AV} {objs : List MO} {b o j : Nat} (k : Nat) (h : env k = .bp b o j) : Ent ⟨env, objs⟩ ⟨upd env k (.d (fT b o j)), objs⟩ := by
  intro A M w0 n a w hR
  refine ⟨hR.size, hR.defers, fun q => ?_, hR.inv, hR.keeps, hR.own, hR.old⟩
  have h' : VR w (bQ A objs) (env q) (a.tmps.getD q undef) := hR.env q
  show VR w _ (upd env k (.d (fT b o j)) q) _
  by_cases hk : k = q
  · subst hk
    rw [h] at h'
    rw [gO]
    generalize a.tmps.getD k undef = u at h'
    cases h'
    exact .of_lit rfl
  · rw [mB _ _ hk]
    exact h'
/-- Slices in a box are let go; the box stays. -/
theorem aFv {env env' : Nat → AV} {objs : List MO} {b o : Nat} {ds ds' : List D} (keepers gone : List MO) (hp : objs = (.box b o ds :: keepers) ++ gone) (hd : DVs gone ds ds') (he : BLe gone env env') :
    Ent ⟨env, objs⟩ ⟨env', .box b o ds' :: keepers⟩ := by
  subst hp
  intro A M w0 n a w hR
  have hlen := hd.length
  have hft : ∀ x y, (MO.box b o ds').foot x y ↔ (MO.box b o ds).foot x y := fun x y => by simp only [MO.foot, hlen]
  have hfeet : ∀ x y, mZ (.box b o ds' :: keepers) x y → ∃ m ∈ MO.box b o ds :: keepers, m.foot x y := by
    rintro x y ⟨m, hm, hf⟩
    rcases List.mem_cons.1 hm with rfl | hm
    · exact ⟨_, List.mem_cons_self, (hft x y).1 hf⟩
    · exact ⟨m, List.mem_cons_of_mem _ hm, hf⟩
  have hsep : Sep ((MO.box b o ds :: keepers) ++ gone) := hR.inv.sep
  have hsub : ∀ x y, bQ A (.box b o ds' :: keepers) x y → bQ A ((MO.box b o ds :: keepers) ++ gone) x y := fun x y h => h.imp id fun h => by
    obtain ⟨m, hm, hf⟩ := hfeet x y h
    exact ⟨m, List.mem_append.2 (.inl hm), hf⟩
  have hap : ∀ m ∈ gone, ∀ x y, m.foot x y → ¬ bQ A (.box b o ds' :: keepers) x y := by
    intro m hm x y hf hl
    rcases hl with hA | hl
    · exact hR.inv.apart m (List.mem_append.2 (.inr hm)) x y hf hA
    · obtain ⟨m', hm', hf'⟩ := hfeet x y hl
      exact (List.pairwise_append.1 hsep).2.2 m' hm' m hm x y hf' hf
  have hh : ∀ m ∈ gone, m.holds w (bQ A ((MO.box b o ds :: keepers) ++ gone)) := fun m hm => hR.inv.holds m (List.mem_append.2 (.inr hm))
  have hmono : Mono w (bQ A ((MO.box b o ds :: keepers) ++ gone)) w (bQ A (.box b o ds' :: keepers)) := Mono.sub hsub
  have hs1 := (List.pairwise_append.1 hsep).1
  refine ⟨hR.size, hR.defers.sub hsub, fun k => (he k).sound hh hsub hap (hR.env k), ⟨?_, fun m hm x y hf hA => ?_, fun m hm => ?_⟩, hR.keeps, fun m hm x y hf => ?_, hR.old⟩
  · have h2 := List.pairwise_cons.1 hs1
    exact List.pairwise_cons.2 ⟨fun m hm x y h1 => h2.1 m hm x y ((hft x y).1 h1), h2.2⟩
  · obtain ⟨m', hm', hf'⟩ := hfeet x y ⟨m, hm, hf⟩
    exact hR.inv.apart m' (List.mem_append.2 (.inl hm')) x y hf' hA
  · rcases List.mem_cons.1 hm with rfl | hm
    · obtain ⟨vs, h1, h2, h3⟩ := hR.inv.holds (.box b o ds) (by simp)
      exact ⟨vs, hd.sound hh hsub hap h1, h2, fun j hj => h3 j (by rwa [hlen] at hj)⟩
    · exact eO (hR.inv.holds m (List.mem_append.2 (.inl (List.mem_cons_of_mem _ hm)))) (Keeps.refl (fun _ _ => False) w) (fun _ _ _ h => h) hmono
  · obtain ⟨m', hm', hf'⟩ := hfeet x y ⟨m, hm, hf⟩
    exact hR.own m' (List.mem_append.2 (.inl hm')) x y hf'
end Go.Am
