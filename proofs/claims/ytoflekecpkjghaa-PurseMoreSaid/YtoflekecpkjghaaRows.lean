/-
  No cell of these rows narrows 'for every input' (looked for: loops, veiled, ifaces, maps, wideKeys, modest, calm, conditions, laid).
  DERIVED. THE GIVEN ROWS OF THIS SEAT. 4 by the template 'for every input the law returns true; each argument reads behind the call as it read before'; 0 by the template 'total and deterministic' (their statements: YtoflekecpkjghaaTotals.lean).
  GIVEN WITH THE SEED: the statements are not yours to turn. If you find one false, say at which input.
  Laid BY PROGRAM, IN A SANDBOX (cutbox-rows.mjs): the forced cells as the released guide's own fill.sh prints them over the translation 115ed44c396be59e… (all of the seat's roots in one cut). By AI agents, Wed Nov 11 2026. No macro, syntax, notation, axiom, sorry.
-/
import Derived.Test.YtoflekecpkjghaaChecked
import GoSem.Claim
import GoSem.ClaimJoined
import GoSem.ClaimMapViews
import Derived.JoinedTies
import Derived.KernelRfl
namespace Go.Proofs.Ytoflekecpkjghaa
/- THE CELL 'sum', in the pinned program and in every row, IS THE sha256 OF THE DUMP (.gsa) THAT YtoflekecpkjghaaProg.lean LOADS. Nothing in Lean hashes anything: it is a label: what it is worth is what the hold of that sum in a sandbox is worth. -/
noncomputable def Try.pinned : Pinned := { name := "ytoflekecpkjghaa", sum := "115ed44c396be59e661b0826c0167c801af6270f3fbf499a51be286e89e6d8a3", checked := Try.checked }
namespace Rows
def none {H : Type} : Left H := { results := [], args := [] }

/-- 'deucelaw10.PurseCents': WHATEVER THE INPUT: true; the input reads as it did. -/
def purseCentsSpec : ChangeSpec := { name := "purseCents", fn := fun _ => fun
  | [d] => { results := [.lit (.bool true)], args := [d] }
  | _ => none }
def purseCentsRow : OpenClaim := { program := "ytoflekecpkjghaa", sum := "115ed44c396be59e661b0826c0167c801af6270f3fbf499a51be286e89e6d8a3", func := "deuce/deucelaw10.PurseCents", spec := "purseCents", unfollowed := true, recurses := true, plainKeys := false, apart := false }
def PurseCentsSaid : Prop := purseCentsRow.holds Try.pinned (OpenSpec.ofChange purseCentsSpec)

/-- ITS FALSE NEIGHBOUR: 'it returns false'. Refute it at one input. -/
def purseCentsWrong : ChangeSpec := { name := "purseCents", fn := fun _ => fun
  | [d] => { results := [.lit (.bool false)], args := [d] }
  | _ => none }
def PurseCentsWrongFalsely : Prop := purseCentsRow.holds Try.pinned (OpenSpec.ofChange purseCentsWrong)

/-- 'deucelaw10.PurseMore': WHATEVER THE INPUT: true; the input reads as it did. -/
def purseMoreSpec : ChangeSpec := { name := "purseMore", fn := fun _ => fun
  | [d1, d2, d3] => { results := [.lit (.bool true)], args := [d1, d2, d3] }
  | _ => none }
def purseMoreRow : OpenClaim := { program := "ytoflekecpkjghaa", sum := "115ed44c396be59e661b0826c0167c801af6270f3fbf499a51be286e89e6d8a3", func := "deuce/deucelaw10.PurseMore", spec := "purseMore", unfollowed := true, recurses := true, plainKeys := false, apart := false }
def PurseMoreSaid : Prop := purseMoreRow.holds Try.pinned (OpenSpec.ofChange purseMoreSpec)

/-- ITS FALSE NEIGHBOUR: 'it returns false'. Refute it at one input. -/
def purseMoreWrong : ChangeSpec := { name := "purseMore", fn := fun _ => fun
  | [d1, d2, d3] => { results := [.lit (.bool false)], args := [d1, d2, d3] }
  | _ => none }
def PurseMoreWrongFalsely : Prop := purseMoreRow.holds Try.pinned (OpenSpec.ofChange purseMoreWrong)

/-- 'deucelaw10.PurseUnits': WHATEVER THE INPUT: true; the input reads as it did. -/
def purseUnitsSpec : ChangeSpec := { name := "purseUnits", fn := fun _ => fun
  | [d1, d2] => { results := [.lit (.bool true)], args := [d1, d2] }
  | _ => none }
def purseUnitsRow : OpenClaim := { program := "ytoflekecpkjghaa", sum := "115ed44c396be59e661b0826c0167c801af6270f3fbf499a51be286e89e6d8a3", func := "deuce/deucelaw10.PurseUnits", spec := "purseUnits", unfollowed := true, recurses := true, plainKeys := false, apart := false }
def PurseUnitsSaid : Prop := purseUnitsRow.holds Try.pinned (OpenSpec.ofChange purseUnitsSpec)

/-- ITS FALSE NEIGHBOUR: 'it returns false'. Refute it at one input. -/
def purseUnitsWrong : ChangeSpec := { name := "purseUnits", fn := fun _ => fun
  | [d1, d2] => { results := [.lit (.bool false)], args := [d1, d2] }
  | _ => none }
def PurseUnitsWrongFalsely : Prop := purseUnitsRow.holds Try.pinned (OpenSpec.ofChange purseUnitsWrong)

/-- 'deucelaw10.PursePool': WHATEVER THE INPUT: true; the input reads as it did. -/
def pursePoolSpec : ChangeSpec := { name := "pursePool", fn := fun _ => fun
  | [d] => { results := [.lit (.bool true)], args := [d] }
  | _ => none }
def pursePoolRow : OpenClaim := { program := "ytoflekecpkjghaa", sum := "115ed44c396be59e661b0826c0167c801af6270f3fbf499a51be286e89e6d8a3", func := "deuce/deucelaw10.PursePool", spec := "pursePool", unfollowed := true, recurses := true, plainKeys := false, apart := false }
def PursePoolSaid : Prop := pursePoolRow.holds Try.pinned (OpenSpec.ofChange pursePoolSpec)

/-- ITS FALSE NEIGHBOUR: 'it returns false'. Refute it at one input. -/
def pursePoolWrong : ChangeSpec := { name := "pursePool", fn := fun _ => fun
  | [d] => { results := [.lit (.bool false)], args := [d] }
  | _ => none }
def PursePoolWrongFalsely : Prop := pursePoolRow.holds Try.pinned (OpenSpec.ofChange pursePoolWrong)

/- THE SECOND FORM. 'bulk': how many values and letters a reading holds, each counted each time it is reached (what is shared counts as often as it is met; a slice's spare places count too). A statement '..UptoSaid' is the law's where the arguments, and the package variables that the reading takes, are together of bulk at most 1048576: NARROWER than '..Said'. Prove '..Said' where nothing that the law and all that it calls make is longer than what came in: it says more and counts as full. Else prove '..UptoSaid'. A law counts once. -/
mutual
def uptoBulk {H : Type} : DataW H → Nat
  | .lit (.string bytes) => bytes.length + 1
  | .lit _ => 1
  | .nil => 1
  | .ptr d => uptoBulk d + 1
  | .slice elems spare => uptoBulkAll elems + uptoBulkAll spare + 1
  | .agg parts => uptoBulkAll parts + 1
  | .iface _ d => uptoBulk d + 1
  | .map entries => uptoBulkEntries entries + 1
  | .held _ => 1
def uptoBulkAll {H : Type} : List (DataW H) → Nat
  | [] => 0
  | d :: r => uptoBulk d + uptoBulkAll r
def uptoBulkEntries {H : Type} : List (Lit × DataW H) → Nat
  | [] => 0
  | x :: r => uptoBulkEntry x + uptoBulkEntries r
def uptoBulkEntry {H : Type} : Lit × DataW H → Nat
  | (.string bytes, d) => bytes.length + uptoBulk d + 1
  | (_, d) => uptoBulk d + 1
 end
def uptoSmall : (H : Type) → List (DataW H) → Bool := fun _ ds => decide (uptoBulkAll ds ≤ 1048576)
def OpenSpec.upto (s : _root_.Go.ChangeSpec) : _root_.Go.OpenSpec := { _root_.Go.OpenSpec.ofChange s with cond := some uptoSmall }

/-- 'deucelaw10.PurseCents', WHERE WHAT IT READS IS OF BULK AT MOST 1048576: true; the input reads as it did. -/
def purseCentsUptoRow : OpenClaim := { program := "ytoflekecpkjghaa", sum := "115ed44c396be59e661b0826c0167c801af6270f3fbf499a51be286e89e6d8a3", func := "deuce/deucelaw10.PurseCents", spec := "purseCents", unfollowed := true, recurses := true, plainKeys := false, apart := false, narrowed := true }
def PurseCentsUptoSaid : Prop := purseCentsUptoRow.holds Try.pinned (OpenSpec.upto purseCentsSpec)

/-- 'deucelaw10.PurseMore', WHERE WHAT IT READS IS OF BULK AT MOST 1048576: true; the input reads as it did. -/
def purseMoreUptoRow : OpenClaim := { program := "ytoflekecpkjghaa", sum := "115ed44c396be59e661b0826c0167c801af6270f3fbf499a51be286e89e6d8a3", func := "deuce/deucelaw10.PurseMore", spec := "purseMore", unfollowed := true, recurses := true, plainKeys := false, apart := false, narrowed := true }
def PurseMoreUptoSaid : Prop := purseMoreUptoRow.holds Try.pinned (OpenSpec.upto purseMoreSpec)

/-- 'deucelaw10.PurseUnits', WHERE WHAT IT READS IS OF BULK AT MOST 1048576: true; the input reads as it did. -/
def purseUnitsUptoRow : OpenClaim := { program := "ytoflekecpkjghaa", sum := "115ed44c396be59e661b0826c0167c801af6270f3fbf499a51be286e89e6d8a3", func := "deuce/deucelaw10.PurseUnits", spec := "purseUnits", unfollowed := true, recurses := true, plainKeys := false, apart := false, narrowed := true }
def PurseUnitsUptoSaid : Prop := purseUnitsUptoRow.holds Try.pinned (OpenSpec.upto purseUnitsSpec)

/-- 'deucelaw10.PursePool', WHERE WHAT IT READS IS OF BULK AT MOST 1048576: true; the input reads as it did. -/
def pursePoolUptoRow : OpenClaim := { program := "ytoflekecpkjghaa", sum := "115ed44c396be59e661b0826c0167c801af6270f3fbf499a51be286e89e6d8a3", func := "deuce/deucelaw10.PursePool", spec := "pursePool", unfollowed := true, recurses := true, plainKeys := false, apart := false, narrowed := true }
def PursePoolUptoSaid : Prop := pursePoolUptoRow.holds Try.pinned (OpenSpec.upto pursePoolSpec)

end Rows
end Go.Proofs.Ytoflekecpkjghaa
