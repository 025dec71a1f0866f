/-
  No cell of these rows narrows 'for every input' (looked for: loops, veiled, ifaces, maps, wideKeys, modest, calm, conditions, laid).
  DERIVED. THE GIVEN ROWS OF THIS SEAT. 9 by the template 'for every input the law returns true; each argument reads behind the call as it read before'; 0 by the template 'total and deterministic' (their statements: YtenffgkkeafnpaaTotals.lean).
  GIVEN WITH THE SEED: the statements are not yours to turn. If you find one false, say at which input.
  Laid BY PROGRAM, IN A SANDBOX (cutbox-rows.mjs): the forced cells as the released guide's own fill.sh prints them over the translation 0c2720921b4f6d37… (all of the seat's roots in one cut). By AI agents, Wed Nov 11 2026. No macro, syntax, notation, axiom, sorry.
-/
import Derived.Test.YtenffgkkeafnpaaChecked
import GoSem.Claim
import GoSem.ClaimJoined
import GoSem.ClaimMapViews
import Derived.JoinedTies
import Derived.KernelRfl
namespace Go.Proofs.Ytenffgkkeafnpaa
/- THE CELL 'sum', in the pinned program and in every row, IS THE sha256 OF THE DUMP (.gsa) THAT YtenffgkkeafnpaaProg.lean LOADS. Nothing in Lean hashes anything: it is a label: what it is worth is what the hold of that sum in a sandbox is worth. -/
noncomputable def Try.pinned : Pinned := { name := "ytenffgkkeafnpaa", sum := "0c2720921b4f6d37f050637c80b6763acf1859bb1e3d998468a0dc569f17ec6f", checked := Try.checked }
namespace Rows
def none {H : Type} : Left H := { results := [], args := [] }

/-- 'deucelaw07.BracketMay': WHATEVER THE INPUT: true; the input reads as it did. -/
def bracketMaySpec : ChangeSpec := { name := "bracketMay", fn := fun _ => fun
  | [d1, d2, d3] => { results := [.lit (.bool true)], args := [d1, d2, d3] }
  | _ => none }
def bracketMayRow : OpenClaim := { program := "ytenffgkkeafnpaa", sum := "0c2720921b4f6d37f050637c80b6763acf1859bb1e3d998468a0dc569f17ec6f", func := "deuce/deucelaw07.BracketMay", spec := "bracketMay", unfollowed := true, recurses := true, plainKeys := false, apart := false }
def BracketMaySaid : Prop := bracketMayRow.holds Try.pinned (OpenSpec.ofChange bracketMaySpec)

/-- ITS FALSE NEIGHBOUR: 'it returns false'. Refute it at one input. -/
def bracketMayWrong : ChangeSpec := { name := "bracketMay", fn := fun _ => fun
  | [d1, d2, d3] => { results := [.lit (.bool false)], args := [d1, d2, d3] }
  | _ => none }
def BracketMayWrongFalsely : Prop := bracketMayRow.holds Try.pinned (OpenSpec.ofChange bracketMayWrong)

/-- 'deucelaw07.BracketFar': WHATEVER THE INPUT: true; the input reads as it did. -/
def bracketFarSpec : ChangeSpec := { name := "bracketFar", fn := fun _ => fun
  | [d1, d2, d3] => { results := [.lit (.bool true)], args := [d1, d2, d3] }
  | _ => none }
def bracketFarRow : OpenClaim := { program := "ytenffgkkeafnpaa", sum := "0c2720921b4f6d37f050637c80b6763acf1859bb1e3d998468a0dc569f17ec6f", func := "deuce/deucelaw07.BracketFar", spec := "bracketFar", unfollowed := true, recurses := true, plainKeys := false, apart := false }
def BracketFarSaid : Prop := bracketFarRow.holds Try.pinned (OpenSpec.ofChange bracketFarSpec)

/-- ITS FALSE NEIGHBOUR: 'it returns false'. Refute it at one input. -/
def bracketFarWrong : ChangeSpec := { name := "bracketFar", fn := fun _ => fun
  | [d1, d2, d3] => { results := [.lit (.bool false)], args := [d1, d2, d3] }
  | _ => none }
def BracketFarWrongFalsely : Prop := bracketFarRow.holds Try.pinned (OpenSpec.ofChange bracketFarWrong)

/-- 'deucelaw07.BracketOrder': WHATEVER THE INPUT: true; the input reads as it did. -/
def bracketOrderSpec : ChangeSpec := { name := "bracketOrder", fn := fun _ => fun
  | [d1, d2, d3] => { results := [.lit (.bool true)], args := [d1, d2, d3] }
  | _ => none }
def bracketOrderRow : OpenClaim := { program := "ytenffgkkeafnpaa", sum := "0c2720921b4f6d37f050637c80b6763acf1859bb1e3d998468a0dc569f17ec6f", func := "deuce/deucelaw07.BracketOrder", spec := "bracketOrder", unfollowed := true, recurses := true, plainKeys := false, apart := false }
def BracketOrderSaid : Prop := bracketOrderRow.holds Try.pinned (OpenSpec.ofChange bracketOrderSpec)

/-- ITS FALSE NEIGHBOUR: 'it returns false'. Refute it at one input. -/
def bracketOrderWrong : ChangeSpec := { name := "bracketOrder", fn := fun _ => fun
  | [d1, d2, d3] => { results := [.lit (.bool false)], args := [d1, d2, d3] }
  | _ => none }
def BracketOrderWrongFalsely : Prop := bracketOrderRow.holds Try.pinned (OpenSpec.ofChange bracketOrderWrong)

/-- 'deucelaw07.BracketCourse': WHATEVER THE INPUT: true; the input reads as it did. -/
def bracketCourseSpec : ChangeSpec := { name := "bracketCourse", fn := fun _ => fun
  | [d1, d2, d3] => { results := [.lit (.bool true)], args := [d1, d2, d3] }
  | _ => none }
def bracketCourseRow : OpenClaim := { program := "ytenffgkkeafnpaa", sum := "0c2720921b4f6d37f050637c80b6763acf1859bb1e3d998468a0dc569f17ec6f", func := "deuce/deucelaw07.BracketCourse", spec := "bracketCourse", unfollowed := true, recurses := true, plainKeys := false, apart := false }
def BracketCourseSaid : Prop := bracketCourseRow.holds Try.pinned (OpenSpec.ofChange bracketCourseSpec)

/-- ITS FALSE NEIGHBOUR: 'it returns false'. Refute it at one input. -/
def bracketCourseWrong : ChangeSpec := { name := "bracketCourse", fn := fun _ => fun
  | [d1, d2, d3] => { results := [.lit (.bool false)], args := [d1, d2, d3] }
  | _ => none }
def BracketCourseWrongFalsely : Prop := bracketCourseRow.holds Try.pinned (OpenSpec.ofChange bracketCourseWrong)

/-- 'deucelaw07.BracketLucky': WHATEVER THE INPUT: true; the input reads as it did. -/
def bracketLuckySpec : ChangeSpec := { name := "bracketLucky", fn := fun _ => fun
  | [d1, d2, d3] => { results := [.lit (.bool true)], args := [d1, d2, d3] }
  | _ => none }
def bracketLuckyRow : OpenClaim := { program := "ytenffgkkeafnpaa", sum := "0c2720921b4f6d37f050637c80b6763acf1859bb1e3d998468a0dc569f17ec6f", func := "deuce/deucelaw07.BracketLucky", spec := "bracketLucky", unfollowed := true, recurses := true, plainKeys := false, apart := false }
def BracketLuckySaid : Prop := bracketLuckyRow.holds Try.pinned (OpenSpec.ofChange bracketLuckySpec)

/-- ITS FALSE NEIGHBOUR: 'it returns false'. Refute it at one input. -/
def bracketLuckyWrong : ChangeSpec := { name := "bracketLucky", fn := fun _ => fun
  | [d1, d2, d3] => { results := [.lit (.bool false)], args := [d1, d2, d3] }
  | _ => none }
def BracketLuckyWrongFalsely : Prop := bracketLuckyRow.holds Try.pinned (OpenSpec.ofChange bracketLuckyWrong)

/-- 'deucelaw07.BracketBouts': WHATEVER THE INPUT: true; the input reads as it did. -/
def bracketBoutsSpec : ChangeSpec := { name := "bracketBouts", fn := fun _ => fun
  | [d1, d2] => { results := [.lit (.bool true)], args := [d1, d2] }
  | _ => none }
def bracketBoutsRow : OpenClaim := { program := "ytenffgkkeafnpaa", sum := "0c2720921b4f6d37f050637c80b6763acf1859bb1e3d998468a0dc569f17ec6f", func := "deuce/deucelaw07.BracketBouts", spec := "bracketBouts", unfollowed := true, recurses := true, plainKeys := false, apart := false }
def BracketBoutsSaid : Prop := bracketBoutsRow.holds Try.pinned (OpenSpec.ofChange bracketBoutsSpec)

/-- ITS FALSE NEIGHBOUR: 'it returns false'. Refute it at one input. -/
def bracketBoutsWrong : ChangeSpec := { name := "bracketBouts", fn := fun _ => fun
  | [d1, d2] => { results := [.lit (.bool false)], args := [d1, d2] }
  | _ => none }
def BracketBoutsWrongFalsely : Prop := bracketBoutsRow.holds Try.pinned (OpenSpec.ofChange bracketBoutsWrong)

/-- 'deucelaw07.BracketLeft': WHATEVER THE INPUT: true; the input reads as it did. -/
def bracketLeftSpec : ChangeSpec := { name := "bracketLeft", fn := fun _ => fun
  | [d1, d2, d3] => { results := [.lit (.bool true)], args := [d1, d2, d3] }
  | _ => none }
def bracketLeftRow : OpenClaim := { program := "ytenffgkkeafnpaa", sum := "0c2720921b4f6d37f050637c80b6763acf1859bb1e3d998468a0dc569f17ec6f", func := "deuce/deucelaw07.BracketLeft", spec := "bracketLeft", unfollowed := true, recurses := true, plainKeys := false, apart := false }
def BracketLeftSaid : Prop := bracketLeftRow.holds Try.pinned (OpenSpec.ofChange bracketLeftSpec)

/-- ITS FALSE NEIGHBOUR: 'it returns false'. Refute it at one input. -/
def bracketLeftWrong : ChangeSpec := { name := "bracketLeft", fn := fun _ => fun
  | [d1, d2, d3] => { results := [.lit (.bool false)], args := [d1, d2, d3] }
  | _ => none }
def BracketLeftWrongFalsely : Prop := bracketLeftRow.holds Try.pinned (OpenSpec.ofChange bracketLeftWrong)

/-- 'deucelaw07.BracketMeet': WHATEVER THE INPUT: true; the input reads as it did. -/
def bracketMeetSpec : ChangeSpec := { name := "bracketMeet", fn := fun _ => fun
  | [d1, d2, d3] => { results := [.lit (.bool true)], args := [d1, d2, d3] }
  | _ => none }
def bracketMeetRow : OpenClaim := { program := "ytenffgkkeafnpaa", sum := "0c2720921b4f6d37f050637c80b6763acf1859bb1e3d998468a0dc569f17ec6f", func := "deuce/deucelaw07.BracketMeet", spec := "bracketMeet", unfollowed := true, recurses := true, plainKeys := false, apart := false }
def BracketMeetSaid : Prop := bracketMeetRow.holds Try.pinned (OpenSpec.ofChange bracketMeetSpec)

/-- ITS FALSE NEIGHBOUR: 'it returns false'. Refute it at one input. -/
def bracketMeetWrong : ChangeSpec := { name := "bracketMeet", fn := fun _ => fun
  | [d1, d2, d3] => { results := [.lit (.bool false)], args := [d1, d2, d3] }
  | _ => none }
def BracketMeetWrongFalsely : Prop := bracketMeetRow.holds Try.pinned (OpenSpec.ofChange bracketMeetWrong)

/-- 'deucelaw07.BracketAsks': WHATEVER THE INPUT: true; the input reads as it did. -/
def bracketAsksSpec : ChangeSpec := { name := "bracketAsks", fn := fun _ => fun
  | [d1, d2, d3] => { results := [.lit (.bool true)], args := [d1, d2, d3] }
  | _ => none }
def bracketAsksRow : OpenClaim := { program := "ytenffgkkeafnpaa", sum := "0c2720921b4f6d37f050637c80b6763acf1859bb1e3d998468a0dc569f17ec6f", func := "deuce/deucelaw07.BracketAsks", spec := "bracketAsks", unfollowed := true, recurses := true, plainKeys := false, apart := false }
def BracketAsksSaid : Prop := bracketAsksRow.holds Try.pinned (OpenSpec.ofChange bracketAsksSpec)

/-- ITS FALSE NEIGHBOUR: 'it returns false'. Refute it at one input. -/
def bracketAsksWrong : ChangeSpec := { name := "bracketAsks", fn := fun _ => fun
  | [d1, d2, d3] => { results := [.lit (.bool false)], args := [d1, d2, d3] }
  | _ => none }
def BracketAsksWrongFalsely : Prop := bracketAsksRow.holds Try.pinned (OpenSpec.ofChange bracketAsksWrong)

/- THE SECOND FORM. 'bulk': how many values and letters a reading holds, each counted each time it is reached (what is shared counts as often as it is met; a slice's spare places count too). A statement '..UptoSaid' is the law's where the arguments, and the package variables that the reading takes, are together of bulk at most 1048576: NARROWER than '..Said'. Prove '..Said' where nothing that the law and all that it calls make is longer than what came in: it says more and counts as full. Else prove '..UptoSaid'. A law counts once. -/
mutual
def uptoBulk {H : Type} : DataW H → Nat
  | .lit (.string bytes) => bytes.length + 1
  | .lit _ => 1
  | .nil => 1
  | .ptr d => uptoBulk d + 1
  | .slice elems spare => uptoBulkAll elems + uptoBulkAll spare + 1
  | .agg parts => uptoBulkAll parts + 1
  | .iface _ d => uptoBulk d + 1
  | .map entries => uptoBulkEntries entries + 1
  | .held _ => 1
def uptoBulkAll {H : Type} : List (DataW H) → Nat
  | [] => 0
  | d :: r => uptoBulk d + uptoBulkAll r
def uptoBulkEntries {H : Type} : List (Lit × DataW H) → Nat
  | [] => 0
  | x :: r => uptoBulkEntry x + uptoBulkEntries r
def uptoBulkEntry {H : Type} : Lit × DataW H → Nat
  | (.string bytes, d) => bytes.length + uptoBulk d + 1
  | (_, d) => uptoBulk d + 1
 end
def uptoSmall : (H : Type) → List (DataW H) → Bool := fun _ ds => decide (uptoBulkAll ds ≤ 1048576)
def OpenSpec.upto (s : _root_.Go.ChangeSpec) : _root_.Go.OpenSpec := { _root_.Go.OpenSpec.ofChange s with cond := some uptoSmall }

/-- 'deucelaw07.BracketMay', WHERE WHAT IT READS IS OF BULK AT MOST 1048576: true; the input reads as it did. -/
def bracketMayUptoRow : OpenClaim := { program := "ytenffgkkeafnpaa", sum := "0c2720921b4f6d37f050637c80b6763acf1859bb1e3d998468a0dc569f17ec6f", func := "deuce/deucelaw07.BracketMay", spec := "bracketMay", unfollowed := true, recurses := true, plainKeys := false, apart := false, narrowed := true }
def BracketMayUptoSaid : Prop := bracketMayUptoRow.holds Try.pinned (OpenSpec.upto bracketMaySpec)

/-- 'deucelaw07.BracketFar', WHERE WHAT IT READS IS OF BULK AT MOST 1048576: true; the input reads as it did. -/
def bracketFarUptoRow : OpenClaim := { program := "ytenffgkkeafnpaa", sum := "0c2720921b4f6d37f050637c80b6763acf1859bb1e3d998468a0dc569f17ec6f", func := "deuce/deucelaw07.BracketFar", spec := "bracketFar", unfollowed := true, recurses := true, plainKeys := false, apart := false, narrowed := true }
def BracketFarUptoSaid : Prop := bracketFarUptoRow.holds Try.pinned (OpenSpec.upto bracketFarSpec)

/-- 'deucelaw07.BracketOrder', WHERE WHAT IT READS IS OF BULK AT MOST 1048576: true; the input reads as it did. -/
def bracketOrderUptoRow : OpenClaim := { program := "ytenffgkkeafnpaa", sum := "0c2720921b4f6d37f050637c80b6763acf1859bb1e3d998468a0dc569f17ec6f", func := "deuce/deucelaw07.BracketOrder", spec := "bracketOrder", unfollowed := true, recurses := true, plainKeys := false, apart := false, narrowed := true }
def BracketOrderUptoSaid : Prop := bracketOrderUptoRow.holds Try.pinned (OpenSpec.upto bracketOrderSpec)

/-- 'deucelaw07.BracketCourse', WHERE WHAT IT READS IS OF BULK AT MOST 1048576: true; the input reads as it did. -/
def bracketCourseUptoRow : OpenClaim := { program := "ytenffgkkeafnpaa", sum := "0c2720921b4f6d37f050637c80b6763acf1859bb1e3d998468a0dc569f17ec6f", func := "deuce/deucelaw07.BracketCourse", spec := "bracketCourse", unfollowed := true, recurses := true, plainKeys := false, apart := false, narrowed := true }
def BracketCourseUptoSaid : Prop := bracketCourseUptoRow.holds Try.pinned (OpenSpec.upto bracketCourseSpec)

/-- 'deucelaw07.BracketLucky', WHERE WHAT IT READS IS OF BULK AT MOST 1048576: true; the input reads as it did. -/
def bracketLuckyUptoRow : OpenClaim := { program := "ytenffgkkeafnpaa", sum := "0c2720921b4f6d37f050637c80b6763acf1859bb1e3d998468a0dc569f17ec6f", func := "deuce/deucelaw07.BracketLucky", spec := "bracketLucky", unfollowed := true, recurses := true, plainKeys := false, apart := false, narrowed := true }
def BracketLuckyUptoSaid : Prop := bracketLuckyUptoRow.holds Try.pinned (OpenSpec.upto bracketLuckySpec)

/-- 'deucelaw07.BracketBouts', WHERE WHAT IT READS IS OF BULK AT MOST 1048576: true; the input reads as it did. -/
def bracketBoutsUptoRow : OpenClaim := { program := "ytenffgkkeafnpaa", sum := "0c2720921b4f6d37f050637c80b6763acf1859bb1e3d998468a0dc569f17ec6f", func := "deuce/deucelaw07.BracketBouts", spec := "bracketBouts", unfollowed := true, recurses := true, plainKeys := false, apart := false, narrowed := true }
def BracketBoutsUptoSaid : Prop := bracketBoutsUptoRow.holds Try.pinned (OpenSpec.upto bracketBoutsSpec)

/-- 'deucelaw07.BracketLeft', WHERE WHAT IT READS IS OF BULK AT MOST 1048576: true; the input reads as it did. -/
def bracketLeftUptoRow : OpenClaim := { program := "ytenffgkkeafnpaa", sum := "0c2720921b4f6d37f050637c80b6763acf1859bb1e3d998468a0dc569f17ec6f", func := "deuce/deucelaw07.BracketLeft", spec := "bracketLeft", unfollowed := true, recurses := true, plainKeys := false, apart := false, narrowed := true }
def BracketLeftUptoSaid : Prop := bracketLeftUptoRow.holds Try.pinned (OpenSpec.upto bracketLeftSpec)

/-- 'deucelaw07.BracketMeet', WHERE WHAT IT READS IS OF BULK AT MOST 1048576: true; the input reads as it did. -/
def bracketMeetUptoRow : OpenClaim := { program := "ytenffgkkeafnpaa", sum := "0c2720921b4f6d37f050637c80b6763acf1859bb1e3d998468a0dc569f17ec6f", func := "deuce/deucelaw07.BracketMeet", spec := "bracketMeet", unfollowed := true, recurses := true, plainKeys := false, apart := false, narrowed := true }
def BracketMeetUptoSaid : Prop := bracketMeetUptoRow.holds Try.pinned (OpenSpec.upto bracketMeetSpec)

/-- 'deucelaw07.BracketAsks', WHERE WHAT IT READS IS OF BULK AT MOST 1048576: true; the input reads as it did. -/
def bracketAsksUptoRow : OpenClaim := { program := "ytenffgkkeafnpaa", sum := "0c2720921b4f6d37f050637c80b6763acf1859bb1e3d998468a0dc569f17ec6f", func := "deuce/deucelaw07.BracketAsks", spec := "bracketAsks", unfollowed := true, recurses := true, plainKeys := false, apart := false, narrowed := true }
def BracketAsksUptoSaid : Prop := bracketAsksUptoRow.holds Try.pinned (OpenSpec.upto bracketAsksSpec)

end Rows
end Go.Proofs.Ytenffgkkeafnpaa
