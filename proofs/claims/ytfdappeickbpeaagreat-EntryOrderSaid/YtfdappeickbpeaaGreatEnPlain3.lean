/- Entry, plainly: the document's notices in order. -/
import Derived.Test.YtfdappeickbpeaaGreatEnPlain2
namespace Go.Am

section lists
variable {α : Type}
theorem aDg {A : List α} {x y : α} {B : List α} {p : Nat} (h : p = A.length) : (A ++ x :: B).set p y = A ++ y :: B := by
  subst h; simp
theorem aGw {A : List α} {x y z : α} {B : List α} {p : Nat} (h : p = A.length + 1) : (A ++ x :: y :: B).set p z = A ++ x :: z :: B := by
  have : A ++ x :: y :: B = (A ++ [x]) ++ y :: B := by simp
  rw [this, aDg (by simp [h])]; simp
end lists

end Go.Am
