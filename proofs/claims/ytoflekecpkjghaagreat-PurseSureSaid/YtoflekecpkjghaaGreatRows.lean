/-
  No cell of these rows narrows 'for every input' (looked for: loops, veiled, ifaces, maps, wideKeys, modest, calm, conditions, laid).
  DERIVED. THE GIVEN ROWS OF THIS SEAT. 7 by the template 'for every input the law returns true; each argument reads behind the call as it read before'; 0 by the template 'total and deterministic' (their statements: YtoflekecpkjghaaGreatTotals.lean).
  GIVEN WITH THE SEED: the statements are not yours to turn. If you find one false, say at which input.
  Laid BY PROGRAM, IN A SANDBOX (cutbox-rows.mjs): the forced cells as the released guide's own fill.sh prints them over the translation 826e50b0e334ea91… (all of the seat's roots in one cut). By AI agents, Wed Nov 11 2026. No macro, syntax, notation, axiom, sorry.
-/
import Derived.Test.YtoflekecpkjghaaGreatChecked
import GoSem.Claim
import GoSem.ClaimJoined
import GoSem.ClaimMapViews
import Derived.JoinedTies
import Derived.KernelRfl
namespace Go.Proofs.YtoflekecpkjghaaGreat
/- THE CELL 'sum', in the pinned program and in every row, IS THE sha256 OF THE DUMP (.gsa) THAT YtoflekecpkjghaaGreatProg.lean LOADS. Nothing in Lean hashes anything: it is a label: what it is worth is what the hold of that sum in a sandbox is worth. -/
noncomputable def Tryz.pinned : Pinned := { name := "ytoflekecpkjghaagreat", sum := "826e50b0e334ea912472eee0f3eaf7fbbf040797768574dfa79eed1786a4951d", checked := Tryz.checked }
namespace Rows
def none {H : Type} : Left H := { results := [], args := [] }

/-- 'deucelaw10.PurseSure': WHATEVER THE INPUT: true; the input reads as it did. -/
def purseSureSpec : ChangeSpec := { name := "purseSure", fn := fun _ => fun
  | [d1, d2, d3] => { results := [.lit (.bool true)], args := [d1, d2, d3] }
  | _ => none }
def purseSureRow : OpenClaim := { program := "ytoflekecpkjghaagreat", sum := "826e50b0e334ea912472eee0f3eaf7fbbf040797768574dfa79eed1786a4951d", func := "deuce/deucelaw10.PurseSure", spec := "purseSure", unfollowed := true, recurses := true, plainKeys := false, apart := false }
def PurseSureSaid : Prop := purseSureRow.holds Tryz.pinned (OpenSpec.ofChange purseSureSpec)

/-- ITS FALSE NEIGHBOUR: 'it returns false'. Refute it at one input. -/
def purseSureWrong : ChangeSpec := { name := "purseSure", fn := fun _ => fun
  | [d1, d2, d3] => { results := [.lit (.bool false)], args := [d1, d2, d3] }
  | _ => none }
def PurseSureWrongFalsely : Prop := purseSureRow.holds Tryz.pinned (OpenSpec.ofChange purseSureWrong)

/-- 'deucelaw10.PurseBills': WHATEVER THE INPUT: true; the input reads as it did. -/
def purseBillsSpec : ChangeSpec := { name := "purseBills", fn := fun _ => fun
  | [d1, d2] => { results := [.lit (.bool true)], args := [d1, d2] }
  | _ => none }
def purseBillsRow : OpenClaim := { program := "ytoflekecpkjghaagreat", sum := "826e50b0e334ea912472eee0f3eaf7fbbf040797768574dfa79eed1786a4951d", func := "deuce/deucelaw10.PurseBills", spec := "purseBills", unfollowed := true, recurses := true, plainKeys := false, apart := false }
def PurseBillsSaid : Prop := purseBillsRow.holds Tryz.pinned (OpenSpec.ofChange purseBillsSpec)

/-- ITS FALSE NEIGHBOUR: 'it returns false'. Refute it at one input. -/
def purseBillsWrong : ChangeSpec := { name := "purseBills", fn := fun _ => fun
  | [d1, d2] => { results := [.lit (.bool false)], args := [d1, d2] }
  | _ => none }
def PurseBillsWrongFalsely : Prop := purseBillsRow.holds Tryz.pinned (OpenSpec.ofChange purseBillsWrong)

/-- 'deucelaw10.PursePools': WHATEVER THE INPUT: true; the input reads as it did. -/
def pursePoolsSpec : ChangeSpec := { name := "pursePools", fn := fun _ => fun
  | [d1, d2] => { results := [.lit (.bool true)], args := [d1, d2] }
  | _ => none }
def pursePoolsRow : OpenClaim := { program := "ytoflekecpkjghaagreat", sum := "826e50b0e334ea912472eee0f3eaf7fbbf040797768574dfa79eed1786a4951d", func := "deuce/deucelaw10.PursePools", spec := "pursePools", unfollowed := true, recurses := true, plainKeys := false, apart := false }
def PursePoolsSaid : Prop := pursePoolsRow.holds Tryz.pinned (OpenSpec.ofChange pursePoolsSpec)

/-- ITS FALSE NEIGHBOUR: 'it returns false'. Refute it at one input. -/
def pursePoolsWrong : ChangeSpec := { name := "pursePools", fn := fun _ => fun
  | [d1, d2] => { results := [.lit (.bool false)], args := [d1, d2] }
  | _ => none }
def PursePoolsWrongFalsely : Prop := pursePoolsRow.holds Tryz.pinned (OpenSpec.ofChange pursePoolsWrong)

/-- 'deucelaw10.PurseParts': WHATEVER THE INPUT: true; the input reads as it did. -/
def pursePartsSpec : ChangeSpec := { name := "purseParts", fn := fun _ => fun
  | [d] => { results := [.lit (.bool true)], args := [d] }
  | _ => none }
def pursePartsRow : OpenClaim := { program := "ytoflekecpkjghaagreat", sum := "826e50b0e334ea912472eee0f3eaf7fbbf040797768574dfa79eed1786a4951d", func := "deuce/deucelaw10.PurseParts", spec := "purseParts", unfollowed := true, recurses := true, plainKeys := false, apart := false }
def PursePartsSaid : Prop := pursePartsRow.holds Tryz.pinned (OpenSpec.ofChange pursePartsSpec)

/-- ITS FALSE NEIGHBOUR: 'it returns false'. Refute it at one input. -/
def pursePartsWrong : ChangeSpec := { name := "purseParts", fn := fun _ => fun
  | [d] => { results := [.lit (.bool false)], args := [d] }
  | _ => none }
def PursePartsWrongFalsely : Prop := pursePartsRow.holds Tryz.pinned (OpenSpec.ofChange pursePartsWrong)

/-- 'deucelaw10.PursePays': WHATEVER THE INPUT: true; the input reads as it did. -/
def pursePaysSpec : ChangeSpec := { name := "pursePays", fn := fun _ => fun
  | [d1, d2] => { results := [.lit (.bool true)], args := [d1, d2] }
  | _ => none }
def pursePaysRow : OpenClaim := { program := "ytoflekecpkjghaagreat", sum := "826e50b0e334ea912472eee0f3eaf7fbbf040797768574dfa79eed1786a4951d", func := "deuce/deucelaw10.PursePays", spec := "pursePays", unfollowed := true, recurses := true, plainKeys := false, apart := false }
def PursePaysSaid : Prop := pursePaysRow.holds Tryz.pinned (OpenSpec.ofChange pursePaysSpec)

/-- ITS FALSE NEIGHBOUR: 'it returns false'. Refute it at one input. -/
def pursePaysWrong : ChangeSpec := { name := "pursePays", fn := fun _ => fun
  | [d1, d2] => { results := [.lit (.bool false)], args := [d1, d2] }
  | _ => none }
def PursePaysWrongFalsely : Prop := pursePaysRow.holds Tryz.pinned (OpenSpec.ofChange pursePaysWrong)

/-- 'deucelaw10.PurseOrder': WHATEVER THE INPUT: true; the input reads as it did. -/
def purseOrderSpec : ChangeSpec := { name := "purseOrder", fn := fun _ => fun
  | [d1, d2, d3] => { results := [.lit (.bool true)], args := [d1, d2, d3] }
  | _ => none }
def purseOrderRow : OpenClaim := { program := "ytoflekecpkjghaagreat", sum := "826e50b0e334ea912472eee0f3eaf7fbbf040797768574dfa79eed1786a4951d", func := "deuce/deucelaw10.PurseOrder", spec := "purseOrder", unfollowed := true, recurses := true, plainKeys := false, apart := false }
def PurseOrderSaid : Prop := purseOrderRow.holds Tryz.pinned (OpenSpec.ofChange purseOrderSpec)

/-- ITS FALSE NEIGHBOUR: 'it returns false'. Refute it at one input. -/
def purseOrderWrong : ChangeSpec := { name := "purseOrder", fn := fun _ => fun
  | [d1, d2, d3] => { results := [.lit (.bool false)], args := [d1, d2, d3] }
  | _ => none }
def PurseOrderWrongFalsely : Prop := purseOrderRow.holds Tryz.pinned (OpenSpec.ofChange purseOrderWrong)

/-- 'deucelaw10.PurseMerges': WHATEVER THE INPUT: true; the input reads as it did. -/
def purseMergesSpec : ChangeSpec := { name := "purseMerges", fn := fun _ => fun
  | [d1, d2, d3] => { results := [.lit (.bool true)], args := [d1, d2, d3] }
  | _ => none }
def purseMergesRow : OpenClaim := { program := "ytoflekecpkjghaagreat", sum := "826e50b0e334ea912472eee0f3eaf7fbbf040797768574dfa79eed1786a4951d", func := "deuce/deucelaw10.PurseMerges", spec := "purseMerges", unfollowed := true, recurses := true, plainKeys := false, apart := false }
def PurseMergesSaid : Prop := purseMergesRow.holds Tryz.pinned (OpenSpec.ofChange purseMergesSpec)

/-- ITS FALSE NEIGHBOUR: 'it returns false'. Refute it at one input. -/
def purseMergesWrong : ChangeSpec := { name := "purseMerges", fn := fun _ => fun
  | [d1, d2, d3] => { results := [.lit (.bool false)], args := [d1, d2, d3] }
  | _ => none }
def PurseMergesWrongFalsely : Prop := purseMergesRow.holds Tryz.pinned (OpenSpec.ofChange purseMergesWrong)

/- THE SECOND FORM. 'bulk': how many values and letters a reading holds, each counted each time it is reached (what is shared counts as often as it is met; a slice's spare places count too). A statement '..UptoSaid' is the law's where the arguments, and the package variables that the reading takes, are together of bulk at most 1048576: NARROWER than '..Said'. Prove '..Said' where nothing that the law and all that it calls make is longer than what came in: it says more and counts as full. Else prove '..UptoSaid'. A law counts once. -/
mutual
def uptoBulk {H : Type} : DataW H → Nat
  | .lit (.string bytes) => bytes.length + 1
  | .lit _ => 1
  | .nil => 1
  | .ptr d => uptoBulk d + 1
  | .slice elems spare => uptoBulkAll elems + uptoBulkAll spare + 1
  | .agg parts => uptoBulkAll parts + 1
  | .iface _ d => uptoBulk d + 1
  | .map entries => uptoBulkEntries entries + 1
  | .held _ => 1
def uptoBulkAll {H : Type} : List (DataW H) → Nat
  | [] => 0
  | d :: r => uptoBulk d + uptoBulkAll r
def uptoBulkEntries {H : Type} : List (Lit × DataW H) → Nat
  | [] => 0
  | x :: r => uptoBulkEntry x + uptoBulkEntries r
def uptoBulkEntry {H : Type} : Lit × DataW H → Nat
  | (.string bytes, d) => bytes.length + uptoBulk d + 1
  | (_, d) => uptoBulk d + 1
 end
def uptoSmall : (H : Type) → List (DataW H) → Bool := fun _ ds => decide (uptoBulkAll ds ≤ 1048576)
def OpenSpec.upto (s : _root_.Go.ChangeSpec) : _root_.Go.OpenSpec := { _root_.Go.OpenSpec.ofChange s with cond := some uptoSmall }

/-- 'deucelaw10.PurseSure', WHERE WHAT IT READS IS OF BULK AT MOST 1048576: true; the input reads as it did. -/
def purseSureUptoRow : OpenClaim := { program := "ytoflekecpkjghaagreat", sum := "826e50b0e334ea912472eee0f3eaf7fbbf040797768574dfa79eed1786a4951d", func := "deuce/deucelaw10.PurseSure", spec := "purseSure", unfollowed := true, recurses := true, plainKeys := false, apart := false, narrowed := true }
def PurseSureUptoSaid : Prop := purseSureUptoRow.holds Tryz.pinned (OpenSpec.upto purseSureSpec)

/-- 'deucelaw10.PurseBills', WHERE WHAT IT READS IS OF BULK AT MOST 1048576: true; the input reads as it did. -/
def purseBillsUptoRow : OpenClaim := { program := "ytoflekecpkjghaagreat", sum := "826e50b0e334ea912472eee0f3eaf7fbbf040797768574dfa79eed1786a4951d", func := "deuce/deucelaw10.PurseBills", spec := "purseBills", unfollowed := true, recurses := true, plainKeys := false, apart := false, narrowed := true }
def PurseBillsUptoSaid : Prop := purseBillsUptoRow.holds Tryz.pinned (OpenSpec.upto purseBillsSpec)

/-- 'deucelaw10.PursePools', WHERE WHAT IT READS IS OF BULK AT MOST 1048576: true; the input reads as it did. -/
def pursePoolsUptoRow : OpenClaim := { program := "ytoflekecpkjghaagreat", sum := "826e50b0e334ea912472eee0f3eaf7fbbf040797768574dfa79eed1786a4951d", func := "deuce/deucelaw10.PursePools", spec := "pursePools", unfollowed := true, recurses := true, plainKeys := false, apart := false, narrowed := true }
def PursePoolsUptoSaid : Prop := pursePoolsUptoRow.holds Tryz.pinned (OpenSpec.upto pursePoolsSpec)

/-- 'deucelaw10.PurseParts', WHERE WHAT IT READS IS OF BULK AT MOST 1048576: true; the input reads as it did. -/
def pursePartsUptoRow : OpenClaim := { program := "ytoflekecpkjghaagreat", sum := "826e50b0e334ea912472eee0f3eaf7fbbf040797768574dfa79eed1786a4951d", func := "deuce/deucelaw10.PurseParts", spec := "purseParts", unfollowed := true, recurses := true, plainKeys := false, apart := false, narrowed := true }
def PursePartsUptoSaid : Prop := pursePartsUptoRow.holds Tryz.pinned (OpenSpec.upto pursePartsSpec)

/-- 'deucelaw10.PursePays', WHERE WHAT IT READS IS OF BULK AT MOST 1048576: true; the input reads as it did. -/
def pursePaysUptoRow : OpenClaim := { program := "ytoflekecpkjghaagreat", sum := "826e50b0e334ea912472eee0f3eaf7fbbf040797768574dfa79eed1786a4951d", func := "deuce/deucelaw10.PursePays", spec := "pursePays", unfollowed := true, recurses := true, plainKeys := false, apart := false, narrowed := true }
def PursePaysUptoSaid : Prop := pursePaysUptoRow.holds Tryz.pinned (OpenSpec.upto pursePaysSpec)

/-- 'deucelaw10.PurseOrder', WHERE WHAT IT READS IS OF BULK AT MOST 1048576: true; the input reads as it did. -/
def purseOrderUptoRow : OpenClaim := { program := "ytoflekecpkjghaagreat", sum := "826e50b0e334ea912472eee0f3eaf7fbbf040797768574dfa79eed1786a4951d", func := "deuce/deucelaw10.PurseOrder", spec := "purseOrder", unfollowed := true, recurses := true, plainKeys := false, apart := false, narrowed := true }
def PurseOrderUptoSaid : Prop := purseOrderUptoRow.holds Tryz.pinned (OpenSpec.upto purseOrderSpec)

/-- 'deucelaw10.PurseMerges', WHERE WHAT IT READS IS OF BULK AT MOST 1048576: true; the input reads as it did. -/
def purseMergesUptoRow : OpenClaim := { program := "ytoflekecpkjghaagreat", sum := "826e50b0e334ea912472eee0f3eaf7fbbf040797768574dfa79eed1786a4951d", func := "deuce/deucelaw10.PurseMerges", spec := "purseMerges", unfollowed := true, recurses := true, plainKeys := false, apart := false, narrowed := true }
def PurseMergesUptoSaid : Prop := purseMergesUptoRow.holds Tryz.pinned (OpenSpec.upto purseMergesSpec)

end Rows
end Go.Proofs.YtoflekecpkjghaaGreat
