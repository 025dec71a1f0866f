/- The program logic 'Am': functions of the library by what the kit says of them; calls that give a new box, or nil. -/
import Derived.Test.YtiohgpipanopaaaGreatAmSub
import Derived.Lib.BitFns
namespace Go.Am
section
variable {P : Program} {n d : Nat} {st : St} {o : Oper}
end
theorem aQq {env env' : Nat → AV} {objs : List MO} {b o : Nat} {ds ds' : List D} (keepers gone : List MO) (hp : objs = (.box b o ds :: keepers) ++ gone) (hd : DVs gone ds ds') (he : BLe gone env env') :
  Ent ⟨env, objs⟩ ⟨env', .box b o ds' :: keepers⟩ := by
 subst hp
 intro A M w0 n a w hR
 have hlen := hd.length
 have hft : ∀ x y, (MO.box b o ds').foot x y ↔ (MO.box b o ds).foot x y := fun x y => by simp only [MO.foot, hlen]
 have hfeet : ∀ x y, eT (.box b o ds' :: keepers) x y → ∃ m ∈ MO.box b o ds :: keepers, m.foot x y := by
  rintro x y ⟨m, hm, hf⟩
  rcases List.mem_cons.1 hm with rfl | hm
  ·exact ⟨_, List.mem_cons_self, (hft x y).1 hf⟩
  ·exact ⟨m, List.mem_cons_of_mem _ hm, hf⟩
 have hsep : Sep ((MO.box b o ds :: keepers) ++ gone) := hR.inv.sep
 have hsub : ∀ x y, bN A (.box b o ds' :: keepers) x y → bN A ((MO.box b o ds :: keepers) ++ gone) x y := fun x y h => h.imp id fun h => by
  obtain ⟨m, hm, hf⟩ := hfeet x y h
  exact ⟨m, List.mem_append.2 (.inl hm), hf⟩
 have hap : ∀ m ∈ gone, ∀ x y, m.foot x y → ¬ bN A (.box b o ds' :: keepers) x y := by
  intro m hm x y hf hl
  rcases hl with hA | hl
  ·exact hR.inv.apart m (List.mem_append.2 (.inr hm)) x y hf hA
  ·obtain ⟨m', hm', hf'⟩ := hfeet x y hl
   exact (List.pairwise_append.1 hsep).2.2 m' hm' m hm x y hf' hf
 have hh : ∀ m ∈ gone, m.holds w (bN A ((MO.box b o ds :: keepers) ++ gone)) := fun m hm => hR.inv.holds m (List.mem_append.2 (.inr hm))
 have hmono : Mono w (bN A ((MO.box b o ds :: keepers) ++ gone)) w (bN A (.box b o ds' :: keepers)) := Mono.sub hsub
 have hs1 := (List.pairwise_append.1 hsep).1
 refine ⟨hR.size, hR.defers.sub hsub, fun k => (he k).sound hh hsub hap (hR.env k), ⟨?_, fun m hm x y hf hA => ?_, fun m hm => ?_⟩, hR.keeps, fun m hm x y hf => ?_, hR.old⟩
 ·have h2 := List.pairwise_cons.1 hs1
  exact List.pairwise_cons.2 ⟨fun m hm x y h1 => h2.1 m hm x y ((hft x y).1 h1), h2.2⟩
 ·obtain ⟨m', hm', hf'⟩ := hfeet x y ⟨m, hm, hf⟩
  exact hR.inv.apart m' (List.mem_append.2 (.inl hm')) x y hf' hA
 ·rcases List.mem_cons.1 hm with rfl | hm
  ·obtain ⟨vs, h1, h2, h3⟩ := hR.inv.holds (.box b o ds) (by simp)
   exact ⟨vs, hd.sound hh hsub hap h1, h2, fun j hj => h3 j (by rwa [hlen] at hj)⟩
  ·exact cV (hR.inv.holds m (List.mem_append.2 (.inl (List.mem_cons_of_mem _ hm)))) (Keeps.refl (fun _ _ => False) w) (fun _ _ _ h => h) hmono
 ·obtain ⟨m', hm', hf'⟩ := hfeet x y ⟨m, hm, hf⟩
  exact hR.own m' (List.mem_append.2 (.inl hm')) x y hf'
end Go.Am
