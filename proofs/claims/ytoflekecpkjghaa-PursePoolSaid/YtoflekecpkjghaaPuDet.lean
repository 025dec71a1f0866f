/- Plain laws, one behind the other. -/
import Derived.Test.YtoflekecpkjghaaBkPlain2
import Derived.Test.YtoflekecpkjghaaPuSh
section
namespace Go.Am
theorem aId (a0 : aR) (a1 : List aG) {r} (h : tE a0 a1 = some r) (Q : Int → Prop) (hq : Q r) : sH a0 a1 Q := aTz a0 a1 h Q hq
theorem aFk (a0 : aR) (a1 : List aG) (a2 : Int) {r} (h : rA a0 a1 a2 = some r) (Q : cG × Int → Prop) (hq : Q r) : pZ a0 a1 a2 Q := aQp a0 a1 a2 h Q hq
end Go.Am

end
section
namespace Go.Am
theorem aWj (t : aR) (l : List aG) {o : Int × Int} (h : nX t l = some o) (Q : Int × Int → Prop) (hq : Q o) : tL t l Q := by
  unfold tL
  rcases zX t l with ⟨d, hg⟩ | ⟨e, he⟩
  · obtain ⟨must, hd, hM⟩ := aBm hg
    rw [aMp hg hd] at h; cases h
    refine aGz hg fun won hW => ?_
    have hl := bAb hg hM hW
    have h32 := hg.ht.len32
    simp only [decide_true, Bool.not_true, cond_false]
    refine ⟨_, rfl, _, rfl, ?_⟩
    have e : w64 (w64 ((t.Slots.length : Int) - 1) - (((won.map fun p : aF × Int => ((fun a : aF => Value.agg ((aO a).map bM).toArray) p.1, aK p.2)).length : Nat) : Int)) = ((aBq t must : Nat) : Int) := by
      rw [List.length_map, bW (show -9223372036854775808 ≤ (t.Slots.length : Int) - 1 by omega) (by omega), bW (by omega) (by omega)]
      omega
    show Q (w64 (w64 ((t.Slots.length : Int) - 1) - (((won.map fun p : aF × Int => ((fun a : aF => Value.agg ((aO a).map bM).toArray) p.1, aK p.2)).length : Nat) : Int)), 0)
    rw [e]
    exact hq
  · rw [aWi he] at h; cases h
    refine aJy he ?_
    simp only [he.ne, Bool.not_false, cond_true]
    exact hq
theorem aJf (a0 : aR) (a1 : List aG) {r} (h : xL a0 a1 = some r) (Q : Int × Int → Prop) (hq : Q r) : tL a0 a1 Q := aWj a0 a1 h Q hq
end Go.Am

end
