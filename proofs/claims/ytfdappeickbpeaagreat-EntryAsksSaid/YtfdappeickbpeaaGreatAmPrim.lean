/- The program logic 'Am': functions of the library by what the kit says of them; calls that give a new box, or nil. -/
import Derived.Test.YtfdappeickbpeaaGreatAmSub
import Derived.Lib.BitFns
namespace Go.Am
abbrev tE (b o j : Nat) : D := .lit (.pointer (some ⟨b, o + j, none⟩))
section
variable {P : Program} {n d : Nat} {st : St} {o : Oper}
theorem nP {x : Operand} {t : TypeId} {b o j i b2 o2 j2 : Nat} {ds : List D} {ty : TypeId} {pos : String} {af : Array Edge} {gd : Option (Nat × Bool)} (hd : d < n)
  (hx : st.eval x = .bp b o j) (ho : st.objs[i]? = some (.box b o ds)) (hj : ds[j]? = some (tE b2 o2 j2)) (ht : lP P t) :
  bO P n ⟨some d, .load t x, ty, pos, af, gd⟩ st (st.set d (.bp b2 o2 j2)) := by
 intro A M w0 a w hR K Q hK
 refine nO (d0 := tE b2 o2 j2) hd hx ho hj ht A M w0 a w hR K Q fun s a' w' hs hR' => ?_
 subst hs
 refine hK _ a' w' rfl ⟨hR'.size, hR'.defers, fun k => ?_, hR'.inv, hR'.keeps, hR'.own, hR'.old⟩
 have h := hR'.env k
 show VR w' _ (upd st.env d (.bp b2 o2 j2) k) _
 have h' : VR w' (bU A st.objs) (upd st.env d (.d (tE b2 o2 j2)) k) (a'.tmps.getD k undef) := h
 by_cases hk : d = k
 ·subst hk
  rw [gG] at h' ⊢
  generalize a'.tmps.getD d undef = u at h'
  cases h' with
  | d h => cases h; exact .bp b2 o2 j2
 ·rw [lO _ _ hk] at h' ⊢
  exact h'
end
theorem aXb {env : Nat → AV} {objs : List MO} {b o j : Nat} (k : Nat) (h : env k = .bp b o j) : Ent ⟨env, objs⟩ ⟨upd env k (.d (tE b o j)), objs⟩ := by
 intro A M w0 n a w hR
 refine ⟨hR.size, hR.defers, fun q => ?_, hR.inv, hR.keeps, hR.own, hR.old⟩
 have h' : VR w (bU A objs) (env q) (a.tmps.getD q undef) := hR.env q
 show VR w _ (upd env k (.d (tE b o j)) q) _
 by_cases hk : k = q
 ·subst hk
  rw [h] at h'
  rw [gG]
  generalize a.tmps.getD k undef = u at h'
  cases h'
  exact .of_lit rfl
 ·rw [lO _ _ hk]
  exact h'
theorem yP {env env' : Nat → AV} {objs : List MO} {b o : Nat} {ds ds' : List D} (keepers gone : List MO) (hp : objs = (.box b o ds :: keepers) ++ gone) (hd : DVs gone ds ds') (he : BLe gone env env') :
  Ent ⟨env, objs⟩ ⟨env', .box b o ds' :: keepers⟩ := by
 subst hp
 intro A M w0 n a w hR
 have hlen := hd.length
 have hft : ∀ x y, (MO.box b o ds').foot x y ↔ (MO.box b o ds).foot x y := fun x y => by simp only [MO.foot, hlen]
 have hfeet : ∀ x y, iZ (.box b o ds' :: keepers) x y → ∃ m ∈ MO.box b o ds :: keepers, m.foot x y := by
  rintro x y ⟨m, hm, hf⟩
  rcases List.mem_cons.1 hm with rfl | hm
  ·exact ⟨_, List.mem_cons_self, (hft x y).1 hf⟩
  ·exact ⟨m, List.mem_cons_of_mem _ hm, hf⟩
 have hsep : Sep ((MO.box b o ds :: keepers) ++ gone) := hR.inv.sep
 have hsub : ∀ x y, bU A (.box b o ds' :: keepers) x y → bU A ((MO.box b o ds :: keepers) ++ gone) x y := fun x y h => h.imp id fun h => by
  obtain ⟨m, hm, hf⟩ := hfeet x y h
  exact ⟨m, List.mem_append.2 (.inl hm), hf⟩
 have hap : ∀ m ∈ gone, ∀ x y, m.foot x y → ¬ bU A (.box b o ds' :: keepers) x y := by
  intro m hm x y hf hl
  rcases hl with hA | hl
  ·exact hR.inv.apart m (List.mem_append.2 (.inr hm)) x y hf hA
  ·obtain ⟨m', hm', hf'⟩ := hfeet x y hl
   exact (List.pairwise_append.1 hsep).2.2 m' hm' m hm x y hf' hf
 have hh : ∀ m ∈ gone, m.holds w (bU A ((MO.box b o ds :: keepers) ++ gone)) := fun m hm => hR.inv.holds m (List.mem_append.2 (.inr hm))
 have hmono : Mono w (bU A ((MO.box b o ds :: keepers) ++ gone)) w (bU A (.box b o ds' :: keepers)) := Mono.sub hsub
 have hs1 := (List.pairwise_append.1 hsep).1
 refine ⟨hR.size, hR.defers.sub hsub, fun k => (he k).sound hh hsub hap (hR.env k), ⟨?_, fun m hm x y hf hA => ?_, fun m hm => ?_⟩, hR.keeps, fun m hm x y hf => ?_, hR.old⟩
 ·have h2 := List.pairwise_cons.1 hs1
  exact List.pairwise_cons.2 ⟨fun m hm x y h1 => h2.1 m hm x y ((hft x y).1 h1), h2.2⟩
 ·obtain ⟨m', hm', hf'⟩ := hfeet x y ⟨m, hm, hf⟩
  exact hR.inv.apart m' (List.mem_append.2 (.inl hm')) x y hf' hA
 ·rcases List.mem_cons.1 hm with rfl | hm
  ·obtain ⟨vs, h1, h2, h3⟩ := hR.inv.holds (.box b o ds) (by simp)
   exact ⟨vs, hd.sound hh hsub hap h1, h2, fun j hj => h3 j (by rwa [hlen] at hj)⟩
  ·exact dQ (hR.inv.holds m (List.mem_append.2 (.inl (List.mem_cons_of_mem _ hm)))) (Keeps.refl (fun _ _ => False) w) (fun _ _ _ h => h) hmono
 ·obtain ⟨m', hm', hf'⟩ := hfeet x y ⟨m, hm, hf⟩
  exact hR.own m' (List.mem_append.2 (.inl hm')) x y hf'
end Go.Am
