/- Plain laws, one behind the other. -/
import Derived.Test.YtiohgpipanopaaaGreatTlSh
import Derived.Test.YtiohgpipanopaaaGreatAmPlain
section
namespace Go.Am
section lists
variable {α : Type}
theorem aRg {A : List α} {x : α} {B : List α} {p : Int} (h : p = (A.length : Int)) : idx (A ++ x :: B) p = some x := by
 subst h; rw [bN (by simp)]; simp
theorem aUl {A : List α} {x y : α} {B : List α} {p : Int} (h : p = ((A.length + 1 : Nat) : Int)) : idx (A ++ x :: y :: B) p = some y := by
 have : A ++ x :: y :: B = (A ++ [x]) ++ y :: B := by simp
 rw [this, aRg (by simp [h])]
end lists
section sorted
variable {α : Type} {ok : α → Prop} {le : α → α → Prop} {cmp : α → α → Option Int}
end sorted
section insertion
variable {cmp : aN → aN → Option Int} {ok : aN → Prop} {le : aN → aN → Prop}
end insertion
end Go.Am
end
section
namespace Go.Am
section lists
variable {α : Type}
end lists
section rotate
variable {cmp : aN → aN → Option Int}
end rotate
end Go.Am
end
section
namespace Go.Am
section shift
variable {cmp : aN → aN → Option Int}
end shift
section merge
variable {cmp : aN → aN → Option Int} {ok : aN → Prop} {le : aN → aN → Prop}
end merge
end Go.Am
end
section
namespace Go.Am
section merge
variable {cmp : aN → aN → Option Int} {ok : aN → Prop} {le : aN → aN → Prop}
end merge
end Go.Am
end
section
namespace Go.Am
section stable
variable {cmp : aN → aN → Option Int} {ok : aN → Prop} {le : aN → aN → Prop}
end stable
end Go.Am
end
section
namespace Go.Am
end Go.Am
end
