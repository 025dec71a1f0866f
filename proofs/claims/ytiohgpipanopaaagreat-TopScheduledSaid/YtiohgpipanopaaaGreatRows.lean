/-
  No cell of these rows narrows 'for every input' (looked for: loops, veiled, ifaces, maps, wideKeys, modest, calm, conditions, laid).
  DERIVED. THE GIVEN ROWS OF THIS SEAT. 5 by the template 'for every input the law returns true; each argument reads behind the call as it read before'; 0 by the template 'total and deterministic' (their statements: YtiohgpipanopaaaGreatTotals.lean).
  GIVEN WITH THE SEED: the statements are not yours to turn. If you find one false, say at which input.
  Laid BY PROGRAM, IN A SANDBOX (cutbox-rows.mjs): the forced cells as the released guide's own fill.sh prints them over the translation ecfae0e1df2d55e6… (all of the seat's roots in one cut). By AI agents, Wed Nov 11 2026. No macro, syntax, notation, axiom, sorry.
-/
import Derived.Test.YtiohgpipanopaaaGreatChecked
import GoSem.Claim
import GoSem.ClaimJoined
import GoSem.ClaimMapViews
import Derived.JoinedTies
import Derived.KernelRfl
namespace Go.Proofs.YtiohgpipanopaaaGreat
/- THE CELL 'sum', in the pinned program and in every row, IS THE sha256 OF THE DUMP (.gsa) THAT YtiohgpipanopaaaGreatProg.lean LOADS. Nothing in Lean hashes anything: it is a label: what it is worth is what the hold of that sum in a sandbox is worth. -/
noncomputable def Tryz.pinned : Pinned := { name := "ytiohgpipanopaaagreat", sum := "ecfae0e1df2d55e6ae164adb8b5c9b5bf34ecb6bfbdd3325e5f41a838e9fac31", checked := Tryz.checked }
namespace Rows
def none {H : Type} : Left H := { results := [], args := [] }

/-- 'deucetop.TopScheduled': WHATEVER THE INPUT: true; the input reads as it did. -/
def topScheduledSpec : ChangeSpec := { name := "topScheduled", fn := fun _ => fun
  | [d1, d2] => { results := [.lit (.bool true)], args := [d1, d2] }
  | _ => none }
def topScheduledRow : OpenClaim := { program := "ytiohgpipanopaaagreat", sum := "ecfae0e1df2d55e6ae164adb8b5c9b5bf34ecb6bfbdd3325e5f41a838e9fac31", func := "deuce/deucetop.TopScheduled", spec := "topScheduled", unfollowed := true, recurses := true, plainKeys := false, apart := false }
def TopScheduledSaid : Prop := topScheduledRow.holds Tryz.pinned (OpenSpec.ofChange topScheduledSpec)

/-- ITS FALSE NEIGHBOUR: 'it returns false'. Refute it at one input. -/
def topScheduledWrong : ChangeSpec := { name := "topScheduled", fn := fun _ => fun
  | [d1, d2] => { results := [.lit (.bool false)], args := [d1, d2] }
  | _ => none }
def TopScheduledWrongFalsely : Prop := topScheduledRow.holds Tryz.pinned (OpenSpec.ofChange topScheduledWrong)

/-- 'deucetop.TopDrawn': WHATEVER THE INPUT: true; the input reads as it did. -/
def topDrawnSpec : ChangeSpec := { name := "topDrawn", fn := fun _ => fun
  | [d] => { results := [.lit (.bool true)], args := [d] }
  | _ => none }
def topDrawnRow : OpenClaim := { program := "ytiohgpipanopaaagreat", sum := "ecfae0e1df2d55e6ae164adb8b5c9b5bf34ecb6bfbdd3325e5f41a838e9fac31", func := "deuce/deucetop.TopDrawn", spec := "topDrawn", unfollowed := true, recurses := true, plainKeys := false, apart := false }
def TopDrawnSaid : Prop := topDrawnRow.holds Tryz.pinned (OpenSpec.ofChange topDrawnSpec)

/-- ITS FALSE NEIGHBOUR: 'it returns false'. Refute it at one input. -/
def topDrawnWrong : ChangeSpec := { name := "topDrawn", fn := fun _ => fun
  | [d] => { results := [.lit (.bool false)], args := [d] }
  | _ => none }
def TopDrawnWrongFalsely : Prop := topDrawnRow.holds Tryz.pinned (OpenSpec.ofChange topDrawnWrong)

/-- 'deucetop.TopChampion': WHATEVER THE INPUT: true; the input reads as it did. -/
def topChampionSpec : ChangeSpec := { name := "topChampion", fn := fun _ => fun
  | [d1, d2, d3] => { results := [.lit (.bool true)], args := [d1, d2, d3] }
  | _ => none }
def topChampionRow : OpenClaim := { program := "ytiohgpipanopaaagreat", sum := "ecfae0e1df2d55e6ae164adb8b5c9b5bf34ecb6bfbdd3325e5f41a838e9fac31", func := "deuce/deucetop.TopChampion", spec := "topChampion", unfollowed := true, recurses := true, plainKeys := false, apart := false }
def TopChampionSaid : Prop := topChampionRow.holds Tryz.pinned (OpenSpec.ofChange topChampionSpec)

/-- ITS FALSE NEIGHBOUR: 'it returns false'. Refute it at one input. -/
def topChampionWrong : ChangeSpec := { name := "topChampion", fn := fun _ => fun
  | [d1, d2, d3] => { results := [.lit (.bool false)], args := [d1, d2, d3] }
  | _ => none }
def TopChampionWrongFalsely : Prop := topChampionRow.holds Tryz.pinned (OpenSpec.ofChange topChampionWrong)

/-- 'deucetop.TopReplaced': WHATEVER THE INPUT: true; the input reads as it did. -/
def topReplacedSpec : ChangeSpec := { name := "topReplaced", fn := fun _ => fun
  | [d1, d2] => { results := [.lit (.bool true)], args := [d1, d2] }
  | _ => none }
def topReplacedRow : OpenClaim := { program := "ytiohgpipanopaaagreat", sum := "ecfae0e1df2d55e6ae164adb8b5c9b5bf34ecb6bfbdd3325e5f41a838e9fac31", func := "deuce/deucetop.TopReplaced", spec := "topReplaced", unfollowed := true, recurses := true, plainKeys := false, apart := false }
def TopReplacedSaid : Prop := topReplacedRow.holds Tryz.pinned (OpenSpec.ofChange topReplacedSpec)

/-- ITS FALSE NEIGHBOUR: 'it returns false'. Refute it at one input. -/
def topReplacedWrong : ChangeSpec := { name := "topReplaced", fn := fun _ => fun
  | [d1, d2] => { results := [.lit (.bool false)], args := [d1, d2] }
  | _ => none }
def TopReplacedWrongFalsely : Prop := topReplacedRow.holds Tryz.pinned (OpenSpec.ofChange topReplacedWrong)

/-- 'deucetop.TopPooled': WHATEVER THE INPUT: true; the input reads as it did. -/
def topPooledSpec : ChangeSpec := { name := "topPooled", fn := fun _ => fun
  | [d1, d2] => { results := [.lit (.bool true)], args := [d1, d2] }
  | _ => none }
def topPooledRow : OpenClaim := { program := "ytiohgpipanopaaagreat", sum := "ecfae0e1df2d55e6ae164adb8b5c9b5bf34ecb6bfbdd3325e5f41a838e9fac31", func := "deuce/deucetop.TopPooled", spec := "topPooled", unfollowed := true, recurses := true, plainKeys := false, apart := false }
def TopPooledSaid : Prop := topPooledRow.holds Tryz.pinned (OpenSpec.ofChange topPooledSpec)

/-- ITS FALSE NEIGHBOUR: 'it returns false'. Refute it at one input. -/
def topPooledWrong : ChangeSpec := { name := "topPooled", fn := fun _ => fun
  | [d1, d2] => { results := [.lit (.bool false)], args := [d1, d2] }
  | _ => none }
def TopPooledWrongFalsely : Prop := topPooledRow.holds Tryz.pinned (OpenSpec.ofChange topPooledWrong)

/- THE SECOND FORM. 'bulk': how many values and letters a reading holds, each counted each time it is reached (what is shared counts as often as it is met; a slice's spare places count too). A statement '..UptoSaid' is the law's where the arguments, and the package variables that the reading takes, are together of bulk at most 1048576: NARROWER than '..Said'. Prove '..Said' where nothing that the law and all that it calls make is longer than what came in: it says more and counts as full. Else prove '..UptoSaid'. A law counts once. -/
mutual
def uptoBulk {H : Type} : DataW H → Nat
  | .lit (.string bytes) => bytes.length + 1
  | .lit _ => 1
  | .nil => 1
  | .ptr d => uptoBulk d + 1
  | .slice elems spare => uptoBulkAll elems + uptoBulkAll spare + 1
  | .agg parts => uptoBulkAll parts + 1
  | .iface _ d => uptoBulk d + 1
  | .map entries => uptoBulkEntries entries + 1
  | .held _ => 1
def uptoBulkAll {H : Type} : List (DataW H) → Nat
  | [] => 0
  | d :: r => uptoBulk d + uptoBulkAll r
def uptoBulkEntries {H : Type} : List (Lit × DataW H) → Nat
  | [] => 0
  | x :: r => uptoBulkEntry x + uptoBulkEntries r
def uptoBulkEntry {H : Type} : Lit × DataW H → Nat
  | (.string bytes, d) => bytes.length + uptoBulk d + 1
  | (_, d) => uptoBulk d + 1
 end
def uptoSmall : (H : Type) → List (DataW H) → Bool := fun _ ds => decide (uptoBulkAll ds ≤ 1048576)
def OpenSpec.upto (s : _root_.Go.ChangeSpec) : _root_.Go.OpenSpec := { _root_.Go.OpenSpec.ofChange s with cond := some uptoSmall }

/-- 'deucetop.TopScheduled', WHERE WHAT IT READS IS OF BULK AT MOST 1048576: true; the input reads as it did. -/
def topScheduledUptoRow : OpenClaim := { program := "ytiohgpipanopaaagreat", sum := "ecfae0e1df2d55e6ae164adb8b5c9b5bf34ecb6bfbdd3325e5f41a838e9fac31", func := "deuce/deucetop.TopScheduled", spec := "topScheduled", unfollowed := true, recurses := true, plainKeys := false, apart := false, narrowed := true }
def TopScheduledUptoSaid : Prop := topScheduledUptoRow.holds Tryz.pinned (OpenSpec.upto topScheduledSpec)

/-- 'deucetop.TopDrawn', WHERE WHAT IT READS IS OF BULK AT MOST 1048576: true; the input reads as it did. -/
def topDrawnUptoRow : OpenClaim := { program := "ytiohgpipanopaaagreat", sum := "ecfae0e1df2d55e6ae164adb8b5c9b5bf34ecb6bfbdd3325e5f41a838e9fac31", func := "deuce/deucetop.TopDrawn", spec := "topDrawn", unfollowed := true, recurses := true, plainKeys := false, apart := false, narrowed := true }
def TopDrawnUptoSaid : Prop := topDrawnUptoRow.holds Tryz.pinned (OpenSpec.upto topDrawnSpec)

/-- 'deucetop.TopChampion', WHERE WHAT IT READS IS OF BULK AT MOST 1048576: true; the input reads as it did. -/
def topChampionUptoRow : OpenClaim := { program := "ytiohgpipanopaaagreat", sum := "ecfae0e1df2d55e6ae164adb8b5c9b5bf34ecb6bfbdd3325e5f41a838e9fac31", func := "deuce/deucetop.TopChampion", spec := "topChampion", unfollowed := true, recurses := true, plainKeys := false, apart := false, narrowed := true }
def TopChampionUptoSaid : Prop := topChampionUptoRow.holds Tryz.pinned (OpenSpec.upto topChampionSpec)

/-- 'deucetop.TopReplaced', WHERE WHAT IT READS IS OF BULK AT MOST 1048576: true; the input reads as it did. -/
def topReplacedUptoRow : OpenClaim := { program := "ytiohgpipanopaaagreat", sum := "ecfae0e1df2d55e6ae164adb8b5c9b5bf34ecb6bfbdd3325e5f41a838e9fac31", func := "deuce/deucetop.TopReplaced", spec := "topReplaced", unfollowed := true, recurses := true, plainKeys := false, apart := false, narrowed := true }
def TopReplacedUptoSaid : Prop := topReplacedUptoRow.holds Tryz.pinned (OpenSpec.upto topReplacedSpec)

/-- 'deucetop.TopPooled', WHERE WHAT IT READS IS OF BULK AT MOST 1048576: true; the input reads as it did. -/
def topPooledUptoRow : OpenClaim := { program := "ytiohgpipanopaaagreat", sum := "ecfae0e1df2d55e6ae164adb8b5c9b5bf34ecb6bfbdd3325e5f41a838e9fac31", func := "deuce/deucetop.TopPooled", spec := "topPooled", unfollowed := true, recurses := true, plainKeys := false, apart := false, narrowed := true }
def TopPooledUptoSaid : Prop := topPooledUptoRow.holds Tryz.pinned (OpenSpec.upto topPooledSpec)

end Rows
end Go.Proofs.YtiohgpipanopaaaGreat
