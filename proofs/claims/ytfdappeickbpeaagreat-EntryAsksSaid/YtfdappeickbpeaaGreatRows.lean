/-
  No cell of these rows narrows 'for every input' (looked for: loops, veiled, ifaces, maps, wideKeys, modest, calm, conditions, laid).
  DERIVED. THE GIVEN ROWS OF THIS SEAT. 8 by the template 'for every input the law returns true; each argument reads behind the call as it read before'; 0 by the template 'total and deterministic' (their statements: YtfdappeickbpeaaGreatTotals.lean).
  GIVEN WITH THE SEED: the statements are not yours to turn. If you find one false, say at which input.
  Laid BY PROGRAM, IN A SANDBOX (cutbox-rows.mjs): the forced cells as the released guide's own fill.sh prints them over the translation 04c264c1080c741b… (all of the seat's roots in one cut). By AI agents, Wed Nov 11 2026. No macro, syntax, notation, axiom, sorry.
-/
import Derived.Test.YtfdappeickbpeaaGreatChecked
import GoSem.Claim
import GoSem.ClaimJoined
import GoSem.ClaimMapViews
import Derived.JoinedTies
import Derived.KernelRfl
namespace Go.Proofs.YtfdappeickbpeaaGreat
/- THE CELL 'sum', in the pinned program and in every row, IS THE sha256 OF THE DUMP (.gsa) THAT YtfdappeickbpeaaGreatProg.lean LOADS. Nothing in Lean hashes anything: it is a label: what it is worth is what the hold of that sum in a sandbox is worth. -/
noncomputable def Tryz.pinned : Pinned := { name := "ytfdappeickbpeaagreat", sum := "04c264c1080c741b5377c188ea1afbdc4b90a4050f440ad2b2836bcdbe3454e9", checked := Tryz.checked }
namespace Rows
def none {H : Type} : Left H := { results := [], args := [] }

/-- 'deucelaw05.EntryOrder': WHATEVER THE INPUT: true; the input reads as it did. -/
def entryOrderSpec : ChangeSpec := { name := "entryOrder", fn := fun _ => fun
  | [d1, d2, d3] => { results := [.lit (.bool true)], args := [d1, d2, d3] }
  | _ => none }
def entryOrderRow : OpenClaim := { program := "ytfdappeickbpeaagreat", sum := "04c264c1080c741b5377c188ea1afbdc4b90a4050f440ad2b2836bcdbe3454e9", func := "deuce/deucelaw05.EntryOrder", spec := "entryOrder", unfollowed := true, recurses := true, plainKeys := false, apart := false }
def EntryOrderSaid : Prop := entryOrderRow.holds Tryz.pinned (OpenSpec.ofChange entryOrderSpec)

/-- ITS FALSE NEIGHBOUR: 'it returns false'. Refute it at one input. -/
def entryOrderWrong : ChangeSpec := { name := "entryOrder", fn := fun _ => fun
  | [d1, d2, d3] => { results := [.lit (.bool false)], args := [d1, d2, d3] }
  | _ => none }
def EntryOrderWrongFalsely : Prop := entryOrderRow.holds Tryz.pinned (OpenSpec.ofChange entryOrderWrong)

/-- 'deucelaw05.EntryRight': WHATEVER THE INPUT: true; the input reads as it did. -/
def entryRightSpec : ChangeSpec := { name := "entryRight", fn := fun _ => fun
  | [d1, d2, d3] => { results := [.lit (.bool true)], args := [d1, d2, d3] }
  | _ => none }
def entryRightRow : OpenClaim := { program := "ytfdappeickbpeaagreat", sum := "04c264c1080c741b5377c188ea1afbdc4b90a4050f440ad2b2836bcdbe3454e9", func := "deuce/deucelaw05.EntryRight", spec := "entryRight", unfollowed := true, recurses := true, plainKeys := false, apart := false }
def EntryRightSaid : Prop := entryRightRow.holds Tryz.pinned (OpenSpec.ofChange entryRightSpec)

/-- ITS FALSE NEIGHBOUR: 'it returns false'. Refute it at one input. -/
def entryRightWrong : ChangeSpec := { name := "entryRight", fn := fun _ => fun
  | [d1, d2, d3] => { results := [.lit (.bool false)], args := [d1, d2, d3] }
  | _ => none }
def EntryRightWrongFalsely : Prop := entryRightRow.holds Tryz.pinned (OpenSpec.ofChange entryRightWrong)

/-- 'deucelaw05.EntryStays': WHATEVER THE INPUT: true; the input reads as it did. -/
def entryStaysSpec : ChangeSpec := { name := "entryStays", fn := fun _ => fun
  | [d1, d2, d3] => { results := [.lit (.bool true)], args := [d1, d2, d3] }
  | _ => none }
def entryStaysRow : OpenClaim := { program := "ytfdappeickbpeaagreat", sum := "04c264c1080c741b5377c188ea1afbdc4b90a4050f440ad2b2836bcdbe3454e9", func := "deuce/deucelaw05.EntryStays", spec := "entryStays", unfollowed := true, recurses := true, plainKeys := false, apart := false }
def EntryStaysSaid : Prop := entryStaysRow.holds Tryz.pinned (OpenSpec.ofChange entryStaysSpec)

/-- ITS FALSE NEIGHBOUR: 'it returns false'. Refute it at one input. -/
def entryStaysWrong : ChangeSpec := { name := "entryStays", fn := fun _ => fun
  | [d1, d2, d3] => { results := [.lit (.bool false)], args := [d1, d2, d3] }
  | _ => none }
def EntryStaysWrongFalsely : Prop := entryStaysRow.holds Tryz.pinned (OpenSpec.ofChange entryStaysWrong)

/-- 'deucelaw05.EntryMust': WHATEVER THE INPUT: true; the input reads as it did. -/
def entryMustSpec : ChangeSpec := { name := "entryMust", fn := fun _ => fun
  | [d1, d2, d3] => { results := [.lit (.bool true)], args := [d1, d2, d3] }
  | _ => none }
def entryMustRow : OpenClaim := { program := "ytfdappeickbpeaagreat", sum := "04c264c1080c741b5377c188ea1afbdc4b90a4050f440ad2b2836bcdbe3454e9", func := "deuce/deucelaw05.EntryMust", spec := "entryMust", unfollowed := true, recurses := true, plainKeys := false, apart := false }
def EntryMustSaid : Prop := entryMustRow.holds Tryz.pinned (OpenSpec.ofChange entryMustSpec)

/-- ITS FALSE NEIGHBOUR: 'it returns false'. Refute it at one input. -/
def entryMustWrong : ChangeSpec := { name := "entryMust", fn := fun _ => fun
  | [d1, d2, d3] => { results := [.lit (.bool false)], args := [d1, d2, d3] }
  | _ => none }
def EntryMustWrongFalsely : Prop := entryMustRow.holds Tryz.pinned (OpenSpec.ofChange entryMustWrong)

/-- 'deucelaw05.EntryLists': WHATEVER THE INPUT: true; the input reads as it did. -/
def entryListsSpec : ChangeSpec := { name := "entryLists", fn := fun _ => fun
  | [d1, d2, d3] => { results := [.lit (.bool true)], args := [d1, d2, d3] }
  | _ => none }
def entryListsRow : OpenClaim := { program := "ytfdappeickbpeaagreat", sum := "04c264c1080c741b5377c188ea1afbdc4b90a4050f440ad2b2836bcdbe3454e9", func := "deuce/deucelaw05.EntryLists", spec := "entryLists", unfollowed := true, recurses := true, plainKeys := false, apart := false }
def EntryListsSaid : Prop := entryListsRow.holds Tryz.pinned (OpenSpec.ofChange entryListsSpec)

/-- ITS FALSE NEIGHBOUR: 'it returns false'. Refute it at one input. -/
def entryListsWrong : ChangeSpec := { name := "entryLists", fn := fun _ => fun
  | [d1, d2, d3] => { results := [.lit (.bool false)], args := [d1, d2, d3] }
  | _ => none }
def EntryListsWrongFalsely : Prop := entryListsRow.holds Tryz.pinned (OpenSpec.ofChange entryListsWrong)

/-- 'deucelaw05.EntryPlaces': WHATEVER THE INPUT: true; the input reads as it did. -/
def entryPlacesSpec : ChangeSpec := { name := "entryPlaces", fn := fun _ => fun
  | [d1, d2, d3] => { results := [.lit (.bool true)], args := [d1, d2, d3] }
  | _ => none }
def entryPlacesRow : OpenClaim := { program := "ytfdappeickbpeaagreat", sum := "04c264c1080c741b5377c188ea1afbdc4b90a4050f440ad2b2836bcdbe3454e9", func := "deuce/deucelaw05.EntryPlaces", spec := "entryPlaces", unfollowed := true, recurses := true, plainKeys := false, apart := false }
def EntryPlacesSaid : Prop := entryPlacesRow.holds Tryz.pinned (OpenSpec.ofChange entryPlacesSpec)

/-- ITS FALSE NEIGHBOUR: 'it returns false'. Refute it at one input. -/
def entryPlacesWrong : ChangeSpec := { name := "entryPlaces", fn := fun _ => fun
  | [d1, d2, d3] => { results := [.lit (.bool false)], args := [d1, d2, d3] }
  | _ => none }
def EntryPlacesWrongFalsely : Prop := entryPlacesRow.holds Tryz.pinned (OpenSpec.ofChange entryPlacesWrong)

/-- 'deucelaw05.EntryFirst': WHATEVER THE INPUT: true; the input reads as it did. -/
def entryFirstSpec : ChangeSpec := { name := "entryFirst", fn := fun _ => fun
  | [d1, d2, d3] => { results := [.lit (.bool true)], args := [d1, d2, d3] }
  | _ => none }
def entryFirstRow : OpenClaim := { program := "ytfdappeickbpeaagreat", sum := "04c264c1080c741b5377c188ea1afbdc4b90a4050f440ad2b2836bcdbe3454e9", func := "deuce/deucelaw05.EntryFirst", spec := "entryFirst", unfollowed := true, recurses := true, plainKeys := false, apart := false }
def EntryFirstSaid : Prop := entryFirstRow.holds Tryz.pinned (OpenSpec.ofChange entryFirstSpec)

/-- ITS FALSE NEIGHBOUR: 'it returns false'. Refute it at one input. -/
def entryFirstWrong : ChangeSpec := { name := "entryFirst", fn := fun _ => fun
  | [d1, d2, d3] => { results := [.lit (.bool false)], args := [d1, d2, d3] }
  | _ => none }
def EntryFirstWrongFalsely : Prop := entryFirstRow.holds Tryz.pinned (OpenSpec.ofChange entryFirstWrong)

/-- 'deucelaw05.EntryAsks': WHATEVER THE INPUT: true; the input reads as it did. -/
def entryAsksSpec : ChangeSpec := { name := "entryAsks", fn := fun _ => fun
  | [d1, d2, d3] => { results := [.lit (.bool true)], args := [d1, d2, d3] }
  | _ => none }
def entryAsksRow : OpenClaim := { program := "ytfdappeickbpeaagreat", sum := "04c264c1080c741b5377c188ea1afbdc4b90a4050f440ad2b2836bcdbe3454e9", func := "deuce/deucelaw05.EntryAsks", spec := "entryAsks", unfollowed := true, recurses := true, plainKeys := false, apart := false }
def EntryAsksSaid : Prop := entryAsksRow.holds Tryz.pinned (OpenSpec.ofChange entryAsksSpec)

/-- ITS FALSE NEIGHBOUR: 'it returns false'. Refute it at one input. -/
def entryAsksWrong : ChangeSpec := { name := "entryAsks", fn := fun _ => fun
  | [d1, d2, d3] => { results := [.lit (.bool false)], args := [d1, d2, d3] }
  | _ => none }
def EntryAsksWrongFalsely : Prop := entryAsksRow.holds Tryz.pinned (OpenSpec.ofChange entryAsksWrong)

/- THE SECOND FORM. 'bulk': how many values and letters a reading holds, each counted each time it is reached (what is shared counts as often as it is met; a slice's spare places count too). A statement '..UptoSaid' is the law's where the arguments, and the package variables that the reading takes, are together of bulk at most 1048576: NARROWER than '..Said'. Prove '..Said' where nothing that the law and all that it calls make is longer than what came in: it says more and counts as full. Else prove '..UptoSaid'. A law counts once. -/
mutual
def uptoBulk {H : Type} : DataW H → Nat
  | .lit (.string bytes) => bytes.length + 1
  | .lit _ => 1
  | .nil => 1
  | .ptr d => uptoBulk d + 1
  | .slice elems spare => uptoBulkAll elems + uptoBulkAll spare + 1
  | .agg parts => uptoBulkAll parts + 1
  | .iface _ d => uptoBulk d + 1
  | .map entries => uptoBulkEntries entries + 1
  | .held _ => 1
def uptoBulkAll {H : Type} : List (DataW H) → Nat
  | [] => 0
  | d :: r => uptoBulk d + uptoBulkAll r
def uptoBulkEntries {H : Type} : List (Lit × DataW H) → Nat
  | [] => 0
  | x :: r => uptoBulkEntry x + uptoBulkEntries r
def uptoBulkEntry {H : Type} : Lit × DataW H → Nat
  | (.string bytes, d) => bytes.length + uptoBulk d + 1
  | (_, d) => uptoBulk d + 1
 end
def uptoSmall : (H : Type) → List (DataW H) → Bool := fun _ ds => decide (uptoBulkAll ds ≤ 1048576)
def OpenSpec.upto (s : _root_.Go.ChangeSpec) : _root_.Go.OpenSpec := { _root_.Go.OpenSpec.ofChange s with cond := some uptoSmall }

/-- 'deucelaw05.EntryOrder', WHERE WHAT IT READS IS OF BULK AT MOST 1048576: true; the input reads as it did. -/
def entryOrderUptoRow : OpenClaim := { program := "ytfdappeickbpeaagreat", sum := "04c264c1080c741b5377c188ea1afbdc4b90a4050f440ad2b2836bcdbe3454e9", func := "deuce/deucelaw05.EntryOrder", spec := "entryOrder", unfollowed := true, recurses := true, plainKeys := false, apart := false, narrowed := true }
def EntryOrderUptoSaid : Prop := entryOrderUptoRow.holds Tryz.pinned (OpenSpec.upto entryOrderSpec)

/-- 'deucelaw05.EntryRight', WHERE WHAT IT READS IS OF BULK AT MOST 1048576: true; the input reads as it did. -/
def entryRightUptoRow : OpenClaim := { program := "ytfdappeickbpeaagreat", sum := "04c264c1080c741b5377c188ea1afbdc4b90a4050f440ad2b2836bcdbe3454e9", func := "deuce/deucelaw05.EntryRight", spec := "entryRight", unfollowed := true, recurses := true, plainKeys := false, apart := false, narrowed := true }
def EntryRightUptoSaid : Prop := entryRightUptoRow.holds Tryz.pinned (OpenSpec.upto entryRightSpec)

/-- 'deucelaw05.EntryStays', WHERE WHAT IT READS IS OF BULK AT MOST 1048576: true; the input reads as it did. -/
def entryStaysUptoRow : OpenClaim := { program := "ytfdappeickbpeaagreat", sum := "04c264c1080c741b5377c188ea1afbdc4b90a4050f440ad2b2836bcdbe3454e9", func := "deuce/deucelaw05.EntryStays", spec := "entryStays", unfollowed := true, recurses := true, plainKeys := false, apart := false, narrowed := true }
def EntryStaysUptoSaid : Prop := entryStaysUptoRow.holds Tryz.pinned (OpenSpec.upto entryStaysSpec)

/-- 'deucelaw05.EntryMust', WHERE WHAT IT READS IS OF BULK AT MOST 1048576: true; the input reads as it did. -/
def entryMustUptoRow : OpenClaim := { program := "ytfdappeickbpeaagreat", sum := "04c264c1080c741b5377c188ea1afbdc4b90a4050f440ad2b2836bcdbe3454e9", func := "deuce/deucelaw05.EntryMust", spec := "entryMust", unfollowed := true, recurses := true, plainKeys := false, apart := false, narrowed := true }
def EntryMustUptoSaid : Prop := entryMustUptoRow.holds Tryz.pinned (OpenSpec.upto entryMustSpec)

/-- 'deucelaw05.EntryLists', WHERE WHAT IT READS IS OF BULK AT MOST 1048576: true; the input reads as it did. -/
def entryListsUptoRow : OpenClaim := { program := "ytfdappeickbpeaagreat", sum := "04c264c1080c741b5377c188ea1afbdc4b90a4050f440ad2b2836bcdbe3454e9", func := "deuce/deucelaw05.EntryLists", spec := "entryLists", unfollowed := true, recurses := true, plainKeys := false, apart := false, narrowed := true }
def EntryListsUptoSaid : Prop := entryListsUptoRow.holds Tryz.pinned (OpenSpec.upto entryListsSpec)

/-- 'deucelaw05.EntryPlaces', WHERE WHAT IT READS IS OF BULK AT MOST 1048576: true; the input reads as it did. -/
def entryPlacesUptoRow : OpenClaim := { program := "ytfdappeickbpeaagreat", sum := "04c264c1080c741b5377c188ea1afbdc4b90a4050f440ad2b2836bcdbe3454e9", func := "deuce/deucelaw05.EntryPlaces", spec := "entryPlaces", unfollowed := true, recurses := true, plainKeys := false, apart := false, narrowed := true }
def EntryPlacesUptoSaid : Prop := entryPlacesUptoRow.holds Tryz.pinned (OpenSpec.upto entryPlacesSpec)

/-- 'deucelaw05.EntryFirst', WHERE WHAT IT READS IS OF BULK AT MOST 1048576: true; the input reads as it did. -/
def entryFirstUptoRow : OpenClaim := { program := "ytfdappeickbpeaagreat", sum := "04c264c1080c741b5377c188ea1afbdc4b90a4050f440ad2b2836bcdbe3454e9", func := "deuce/deucelaw05.EntryFirst", spec := "entryFirst", unfollowed := true, recurses := true, plainKeys := false, apart := false, narrowed := true }
def EntryFirstUptoSaid : Prop := entryFirstUptoRow.holds Tryz.pinned (OpenSpec.upto entryFirstSpec)

/-- 'deucelaw05.EntryAsks', WHERE WHAT IT READS IS OF BULK AT MOST 1048576: true; the input reads as it did. -/
def entryAsksUptoRow : OpenClaim := { program := "ytfdappeickbpeaagreat", sum := "04c264c1080c741b5377c188ea1afbdc4b90a4050f440ad2b2836bcdbe3454e9", func := "deuce/deucelaw05.EntryAsks", spec := "entryAsks", unfollowed := true, recurses := true, plainKeys := false, apart := false, narrowed := true }
def EntryAsksUptoSaid : Prop := entryAsksUptoRow.holds Tryz.pinned (OpenSpec.upto entryAsksSpec)

end Rows
end Go.Proofs.YtfdappeickbpeaaGreat
