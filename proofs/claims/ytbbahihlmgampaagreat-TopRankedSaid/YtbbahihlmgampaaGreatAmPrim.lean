/- The program logic 'Am': functions of the library by what the kit says of them; calls that give a new box, or nil. -/
import Derived.Test.YtbbahihlmgampaaGreatAmSub
import Derived.Lib.BitFns
namespace Go.Am
def aDu {α β : Type} (o : Option α) (a : β) (f : α → β) : β := match o with
 | none => a
 | some x => f x
theorem aLx {α β : Type} {a : Option β} {f : α → Option β} {r : β} (h : aDu none a f = some r) : a = some r := h
theorem aLy {α β : Type} {x : α} {a : Option β} {f : α → Option β} {r : β} (h : aDu (some x) a f = some r) : f x = some r := h
theorem aOy {P : Program} {f : FuncId} {u v : Value} (h : ∀ w, Calls P f #[u] w fun e w' => e = .returned v ∧ w' = w) (hv : v.oneCell' = true) : Fn P f [.d (.lit u)] (.d (.lit v)) := by
 intro A w vs hI hA hvs
 have : vs = [u] := by
  match vs, hvs with
  | [x], hvs =>
   cases hvs.1 with
   | d h => cases h; rfl
 subst this
 refine (h w).mono ?_
 rintro e' w' ⟨rfl, rfl⟩
 exact ⟨_, .d (.lit v), [], rfl, Keeps.refl _ _, hI, .of_lit hv, (fun m hm => by cases hm), rfl, rfl⟩
def aEj (x : Int) : Option Int := if 0 ≤ x ∧ x ≤ 18446744073709551615 then some (Lib.bitLen x.toNat : Nat) else none
theorem aTo {P : Program} {f : FuncId} (h : ∀ (x : Int) (w : World), 0 ≤ x → x ≤ 18446744073709551615 → Calls P f #[.int .u64 x] w fun e w' => e = .returned (.int .i64 (Lib.bitLen x.toNat)) ∧ w' = w) {x r : Int} (hr : aEj x = some r) :
  Fn P f [.d (.lit (.int .u64 x))] (.d (.lit (.int .i64 r))) := by
 unfold aEj at hr
 split at hr
 ·rename_i hc
  cases hr
  exact aOy (fun w => h x w hc.1 hc.2) rfl
 ·cases hr
abbrev sG (b o j : Nat) : D := .lit (.pointer (some ⟨b, o + j, none⟩))
section
variable {P : Program} {n d : Nat} {st : St} {o : Oper}
theorem nO {x : Operand} {t : TypeId} {b o j i b2 o2 j2 : Nat} {ds : List D} {ty : TypeId} {pos : String} {af : Array Edge} {gd : Option (Nat × Bool)} (hd : d < n)
  (hx : st.eval x = .bp b o j) (ho : st.objs[i]? = some (.box b o ds)) (hj : ds[j]? = some (sG b2 o2 j2)) (ht : lC P t) :
  bM P n ⟨some d, .load t x, ty, pos, af, gd⟩ st (st.set d (.bp b2 o2 j2)) := by
 intro A M w0 a w hR K Q hK
 refine qY (d0 := sG b2 o2 j2) hd hx ho hj ht A M w0 a w hR K Q fun s a' w' hs hR' => ?_
 subst hs
 refine hK _ a' w' rfl ⟨hR'.size, hR'.defers, fun k => ?_, hR'.inv, hR'.keeps, hR'.own, hR'.old⟩
 have h := hR'.env k
 show VR w' _ (upd st.env d (.bp b2 o2 j2) k) _
 have h' : VR w' (bQ A st.objs) (upd st.env d (.d (sG b2 o2 j2)) k) (a'.tmps.getD k undef) := h
 by_cases hk : d = k
 ·subst hk
  rw [gL] at h' ⊢
  generalize a'.tmps.getD d undef = u at h'
  cases h' with
  | d h => cases h; exact .bp b2 o2 j2
 ·rw [lR _ _ hk] at h' ⊢
  exact h'
end
theorem aTu {env : Nat → AV} {objs : List MO} {b o j : Nat} (k : Nat) (h : env k = .bp b o j) : Ent ⟨env, objs⟩ ⟨upd env k (.d (sG b o j)), objs⟩ := by
 intro A M w0 n a w hR
 refine ⟨hR.size, hR.defers, fun q => ?_, hR.inv, hR.keeps, hR.own, hR.old⟩
 have h' : VR w (bQ A objs) (env q) (a.tmps.getD q undef) := hR.env q
 show VR w _ (upd env k (.d (sG b o j)) q) _
 by_cases hk : k = q
 ·subst hk
  rw [h] at h'
  rw [gL]
  generalize a.tmps.getD k undef = u at h'
  cases h'
  exact .of_lit rfl
 ·rw [lR _ _ hk]
  exact h'
end Go.Am
