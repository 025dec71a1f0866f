/- The program logic 'Am': functions of the library by what the kit says of them; calls that give a new box, or nil. -/
import Derived.Test.YtfdappeickbpeaaGreatAmSub
import Derived.Lib.BitFns
namespace Go.Am
abbrev qM (b o j : Nat) : D := .lit (.pointer (some ⟨b, o + j, none⟩))
section
variable {P : Program} {n d : Nat} {st : St} {o : Oper}
theorem lP {x : Operand} {t : TypeId} {b o j i b2 o2 j2 : Nat} {ds : List D} {ty : TypeId} {pos : String} {af : Array Edge} {gd : Option (Nat × Bool)} (hd : d < n)
  (hx : st.eval x = .bp b o j) (ho : st.objs[i]? = some (.box b o ds)) (hj : ds[j]? = some (qM b2 o2 j2)) (ht : lI P t) :
  bD P n ⟨some d, .load t x, ty, pos, af, gd⟩ st (st.set d (.bp b2 o2 j2)) := by
 intro A M w0 a w hR K Q hK
 refine lO (d0 := qM b2 o2 j2) hd hx ho hj ht A M w0 a w hR K Q fun s a' w' hs hR' => ?_
 subst hs
 refine hK _ a' w' rfl ⟨hR'.size, hR'.defers, fun k => ?_, hR'.inv, hR'.keeps, hR'.own, hR'.old⟩
 have h := hR'.env k
 show VR w' _ (upd st.env d (.bp b2 o2 j2) k) _
 have h' : VR w' (bI A st.objs) (upd st.env d (.d (qM b2 o2 j2)) k) (a'.tmps.getD k undef) := h
 by_cases hk : d = k
 ·subst hk
  rw [fK] at h' ⊢
  generalize a'.tmps.getD d undef = u at h'
  cases h' with
  | d h => cases h; exact .bp b2 o2 j2
 ·rw [kM _ _ hk] at h' ⊢
  exact h'
end
theorem aSv {env : Nat → AV} {objs : List MO} {b o j : Nat} (k : Nat) (h : env k = .bp b o j) : Ent ⟨env, objs⟩ ⟨upd env k (.d (qM b o j)), objs⟩ := by
 intro A M w0 n a w hR
 refine ⟨hR.size, hR.defers, fun q => ?_, hR.inv, hR.keeps, hR.own, hR.old⟩
 have h' : VR w (bI A objs) (env q) (a.tmps.getD q undef) := hR.env q
 show VR w _ (upd env k (.d (qM b o j)) q) _
 by_cases hk : k = q
 ·subst hk
  rw [h] at h'
  rw [fK]
  generalize a.tmps.getD k undef = u at h'
  cases h'
  exact .of_lit rfl
 ·rw [kM _ _ hk]
  exact h'
end Go.Am
