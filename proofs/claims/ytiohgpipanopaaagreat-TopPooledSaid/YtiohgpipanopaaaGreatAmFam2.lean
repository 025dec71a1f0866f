/- The program logic 'Am': families of growable slices, rules whose outcome is told by the family alone; results that the caller owns. -/
import Derived.Test.YtiohgpipanopaaaGreatAmFam
namespace Go.Am
def yX (vs : List Value) (p : Int) : Value := vs.getD p.toNat wZ
section
variable {P : Program} {n d : Nat} {st : St} {o : Oper} {f e k j : Nat} {vs : List Value} {v : Value} {α : Type} {g : α → List D} {c c' : List (List α)} {row : List α}
theorem aPi {A M : bV} {w0 : W0} {a : Act} {w : World} (hR : R A M w0 n st a w) (hf : st.objs[f]? = some (.fam e k vs (c.map fun r => r.map g))) {q : Int} (hq : idx c q = some row) : vs[q.toNat]? = some (yX vs q) := by
 obtain ⟨hl, _⟩ := hR.inv.holds _ (List.mem_of_getElem? hf)
 obtain ⟨h0, h1, h2⟩ := uY hq
 have hlt : q.toNat < vs.length := by simp at hl; omega
 simp [yX, List.getD, hlt]
theorem aAk {x y : Operand} {t e0 m : Nat} {v0 : Value} {kd : IntKind} {p : Int} {ty : TypeId} {pos : String} {af : Array Edge} {gd : Option (Nat × Bool)} (hd : d < n)
  (hx : st.eval x = .d (.lit v0)) (ho : st.objs[m]? = some (.arr v0 e0 1 (vs.map fun v => [.lit v]))) (hf : st.objs[f]? = some (.fam e k vs (c.map fun r => r.map g))) (hy : st.eval y = .d (.lit (.int kd p))) (ht : fF P t e0 1) (hp : idx c p = some row) :
  bL P n ⟨some d, .indexAddr t x y, ty, pos, af, gd⟩ st (st.set d (.ep v0 1 p.toNat 0)) := by
 intro A M w0 a w hR K Q hK
 exact aXc hd hx ho hf hy ht hp A M w0 a w hR K Q fun s a' w' ⟨_, _, hs⟩ hR' => hK s a' w' hs hR'
theorem aBq {x : Operand} {t e0 m : Nat} {v0 : Value} {p : Int} {ty : TypeId} {pos : String} {af : Array Edge} {gd : Option (Nat × Bool)} (hd : d < n)
  (hx : st.eval x = .ep v0 1 p.toNat 0) (ho : st.objs[m]? = some (.arr v0 e0 1 (vs.map fun v => [.lit v]))) (hf : st.objs[f]? = some (.fam e k vs (c.map fun r => r.map g))) (hp : idx c p = some row) (ht : jC P t) :
  bL P n ⟨some d, .load t x, ty, pos, af, gd⟩ st (st.set d (.d (.lit (yX vs p)))) := by
 intro A M w0 a w hR K Q hK
 exact aZm hd hx ho (aPi hR hf hp) ht A M w0 a w hR K Q hK
theorem aBp {x y : Operand} {t : Nat} {a : α} {kd : IntKind} {q p : Int} {ty : TypeId} {pos : String} {af : Array Edge} {gd : Option (Nat × Bool)} (hd : d < n)
  (hx : st.eval x = .d (.lit (yX vs q))) (hf : st.objs[f]? = some (.fam e k vs (c.map fun r => r.map g))) (hq : idx c q = some row) (hy : st.eval y = .d (.lit (.int kd p))) (ht : fF P t e k) (hp : idx row p = some a) :
  bL P n ⟨some d, .indexAddr t x y, ty, pos, af, gd⟩ st (st.set d (.ep (yX vs q) k p.toNat 0)) := by
 intro A M w0 a w hR K Q hK
 exact aZl hd hx hf (aPi hR hf hq) hq hy ht hp A M w0 a w hR K Q hK
theorem aJd {x : Operand} {t : Nat} {a : α} {q p : Int} {j : Nat} {d0 : D} {ty : TypeId} {pos : String} {af : Array Edge} {gd : Option (Nat × Bool)} (hd : d < n)
  (hx : st.eval x = .ep (yX vs q) k p.toNat j) (hf : st.objs[f]? = some (.fam e k vs (c.map fun r => r.map g))) (hq : idx c q = some row) (hp : idx row p = some a) (hj : (g a)[j]? = some d0) (ht : jC P t) :
  bL P n ⟨some d, .load t x, ty, pos, af, gd⟩ st (st.set d (.d d0)) := by
 intro A M w0 a w hR K Q hK
 exact bBv hd hx hf (aPi hR hf hq) hq hp hj ht A M w0 a w hR K Q hK
theorem aXf {x y : Operand} {t m : Nat} {a a' : α} {q p : Int} {j : Nat} {es : List D} {u : AV} {ty : TypeId} {pos : String} {af : Array Edge} {gd : Option (Nat × Bool)}
  (hx : st.eval x = .ep (yX vs q) k p.toNat j) (hf : st.objs[f]? = some (.fam e k vs (c.map fun r => r.map g))) (hq : idx c q = some row) (hp : idx row p = some a) (hy : st.eval y = u) (hk : dS y = true) (hu : u.cells = some es) (ht : ∀ w, (sizeOf t).run P w = .ok m w)
  (hm : es.length = m) (hm0 : 0 < m) (hj : j + es.length ≤ (g a).length) (hpa : rU (g a) j es = g a') (hc : c.set q.toNat (row.set p.toNat a') = c') :
  bL P n ⟨none, .store t x y, ty, pos, af, gd⟩ st ⟨st.env, st.objs.set f (.fam e k vs (c'.map fun r => r.map g))⟩ := by
 intro A M w0 a w hR K Q hK
 exact aZq hx hf (aPi hR hf hq) hq hp hy hk hu ht hm hm0 hj hpa hc A M w0 a w hR K Q hK
end
theorem aWi {env : Nat → AV} {objs : List MO} {i e k bytes : Nat} {vs : List Value} {v : Value} {α : Type} {g : α → List D} {c c' : List (List α)} {row : List α} (keepers final : List MO)
  (ho : objs = keepers ++ [.arr v e k (row.map g)]) (hi : keepers[i]? = some (.fam e k vs (c.map fun r => r.map g))) (hb : app bytes c [row] = some c') (hfi : keepers.set i (.fam e k (vs ++ [v]) (c'.map fun r => r.map g)) = final) :
  Ent ⟨env, objs⟩ ⟨env, final⟩ := by
 subst ho; subst hfi
 have hc : c' = c ++ [row] := by
  unfold app at hb
  split at hb
  ·exact (Option.some.inj hb).symm
  ·cases hb
 subst hc
 have := bDb (env := env) (v := v) (rows := row.map g) hi
 simpa using this
theorem bGt {α : Type} {fs : List MO} (i j : Nat) {v0 : Value} {e0 e k : Nat} {vs : List Value} {g : α → List D} {c : List (List α)} (ho : fs[i]? = some (.arr v0 e0 1 (vs.map fun v => [.lit v]))) (hf : fs[j]? = some (.fam e k vs (c.map fun r => r.map g))) {h : List α → List D} (hh : ∀ r, h r = [.sl k (r.map g)]) :
  DV fs (.lit v0) (.sl 1 (c.map h)) := by
 have e1 : c.map h = (c.map fun r => r.map g).map fun rows => [.sl k rows] := by
  rw [List.map_map]
  exact List.map_congr_left fun r _ => hh r
 rw [e1]
 exact .nest v0 e0 e k vs _ (List.mem_of_getElem? ho) (List.mem_of_getElem? hf)
end Go.Am
