/-
  No cell of these rows narrows 'for every input' (looked for: loops, veiled, ifaces, maps, wideKeys, modest, calm, conditions, laid).
  DERIVED. THE GIVEN ROWS OF THIS SEAT. 10 by the template 'for every input the law returns true; each argument reads behind the call as it read before'; 0 by the template 'total and deterministic' (their statements: YtaocljlhapoieaaTotals.lean).
  GIVEN WITH THE SEED: the statements are not yours to turn. If you find one false, say at which input.
  Laid BY PROGRAM, IN A SANDBOX (cutbox-rows.mjs): the forced cells as the released guide's own fill.sh prints them over the translation 387b1b117d6a173b… (all of the seat's roots in one cut). By AI agents, Wed Nov 11 2026. No macro, syntax, notation, axiom, sorry.
-/
import Derived.Test.YtaocljlhapoieaaChecked
import GoSem.Claim
import GoSem.ClaimJoined
import GoSem.ClaimMapViews
import Derived.JoinedTies
import Derived.KernelRfl
namespace Go.Proofs.Ytaocljlhapoieaa
/- THE CELL 'sum', in the pinned program and in every row, IS THE sha256 OF THE DUMP (.gsa) THAT YtaocljlhapoieaaProg.lean LOADS. Nothing in Lean hashes anything: it is a label: what it is worth is what the hold of that sum in a sandbox is worth. -/
noncomputable def Try.pinned : Pinned := { name := "ytaocljlhapoieaa", sum := "387b1b117d6a173bbf98707072ba124c8ebe091e45cbaff69a0845b8caadbb23", checked := Try.checked }
namespace Rows
def none {H : Type} : Left H := { results := [], args := [] }

/-- 'deucelaw04.RankReach': WHATEVER THE INPUT: true; the input reads as it did. -/
def rankReachSpec : ChangeSpec := { name := "rankReach", fn := fun _ => fun
  | [d1, d2, d3] => { results := [.lit (.bool true)], args := [d1, d2, d3] }
  | _ => none }
def rankReachRow : OpenClaim := { program := "ytaocljlhapoieaa", sum := "387b1b117d6a173bbf98707072ba124c8ebe091e45cbaff69a0845b8caadbb23", func := "deuce/deucelaw04.RankReach", spec := "rankReach", unfollowed := true, recurses := true, plainKeys := false, apart := false }
def RankReachSaid : Prop := rankReachRow.holds Try.pinned (OpenSpec.ofChange rankReachSpec)

/-- ITS FALSE NEIGHBOUR: 'it returns false'. Refute it at one input. -/
def rankReachWrong : ChangeSpec := { name := "rankReach", fn := fun _ => fun
  | [d1, d2, d3] => { results := [.lit (.bool false)], args := [d1, d2, d3] }
  | _ => none }
def RankReachWrongFalsely : Prop := rankReachRow.holds Try.pinned (OpenSpec.ofChange rankReachWrong)

/-- 'deucelaw04.RankDefends': WHATEVER THE INPUT: true; the input reads as it did. -/
def rankDefendsSpec : ChangeSpec := { name := "rankDefends", fn := fun _ => fun
  | [d1, d2] => { results := [.lit (.bool true)], args := [d1, d2] }
  | _ => none }
def rankDefendsRow : OpenClaim := { program := "ytaocljlhapoieaa", sum := "387b1b117d6a173bbf98707072ba124c8ebe091e45cbaff69a0845b8caadbb23", func := "deuce/deucelaw04.RankDefends", spec := "rankDefends", unfollowed := true, recurses := true, plainKeys := false, apart := false }
def RankDefendsSaid : Prop := rankDefendsRow.holds Try.pinned (OpenSpec.ofChange rankDefendsSpec)

/-- ITS FALSE NEIGHBOUR: 'it returns false'. Refute it at one input. -/
def rankDefendsWrong : ChangeSpec := { name := "rankDefends", fn := fun _ => fun
  | [d1, d2] => { results := [.lit (.bool false)], args := [d1, d2] }
  | _ => none }
def RankDefendsWrongFalsely : Prop := rankDefendsRow.holds Try.pinned (OpenSpec.ofChange rankDefendsWrong)

/-- 'deucelaw04.RankBounds': WHATEVER THE INPUT: true; the input reads as it did. -/
def rankBoundsSpec : ChangeSpec := { name := "rankBounds", fn := fun _ => fun
  | [d1, d2, d3] => { results := [.lit (.bool true)], args := [d1, d2, d3] }
  | _ => none }
def rankBoundsRow : OpenClaim := { program := "ytaocljlhapoieaa", sum := "387b1b117d6a173bbf98707072ba124c8ebe091e45cbaff69a0845b8caadbb23", func := "deuce/deucelaw04.RankBounds", spec := "rankBounds", unfollowed := true, recurses := true, plainKeys := false, apart := false }
def RankBoundsSaid : Prop := rankBoundsRow.holds Try.pinned (OpenSpec.ofChange rankBoundsSpec)

/-- ITS FALSE NEIGHBOUR: 'it returns false'. Refute it at one input. -/
def rankBoundsWrong : ChangeSpec := { name := "rankBounds", fn := fun _ => fun
  | [d1, d2, d3] => { results := [.lit (.bool false)], args := [d1, d2, d3] }
  | _ => none }
def RankBoundsWrongFalsely : Prop := rankBoundsRow.holds Try.pinned (OpenSpec.ofChange rankBoundsWrong)

/-- 'deucelaw04.RankList': WHATEVER THE INPUT: true; the input reads as it did. -/
def rankListSpec : ChangeSpec := { name := "rankList", fn := fun _ => fun
  | [d1, d2, d3] => { results := [.lit (.bool true)], args := [d1, d2, d3] }
  | _ => none }
def rankListRow : OpenClaim := { program := "ytaocljlhapoieaa", sum := "387b1b117d6a173bbf98707072ba124c8ebe091e45cbaff69a0845b8caadbb23", func := "deuce/deucelaw04.RankList", spec := "rankList", unfollowed := true, recurses := true, plainKeys := false, apart := false }
def RankListSaid : Prop := rankListRow.holds Try.pinned (OpenSpec.ofChange rankListSpec)

/-- ITS FALSE NEIGHBOUR: 'it returns false'. Refute it at one input. -/
def rankListWrong : ChangeSpec := { name := "rankList", fn := fun _ => fun
  | [d1, d2, d3] => { results := [.lit (.bool false)], args := [d1, d2, d3] }
  | _ => none }
def RankListWrongFalsely : Prop := rankListRow.holds Try.pinned (OpenSpec.ofChange rankListWrong)

/-- 'deucelaw04.RankMerges': WHATEVER THE INPUT: true; the input reads as it did. -/
def rankMergesSpec : ChangeSpec := { name := "rankMerges", fn := fun _ => fun
  | [d1, d2] => { results := [.lit (.bool true)], args := [d1, d2] }
  | _ => none }
def rankMergesRow : OpenClaim := { program := "ytaocljlhapoieaa", sum := "387b1b117d6a173bbf98707072ba124c8ebe091e45cbaff69a0845b8caadbb23", func := "deuce/deucelaw04.RankMerges", spec := "rankMerges", unfollowed := true, recurses := true, plainKeys := false, apart := false }
def RankMergesSaid : Prop := rankMergesRow.holds Try.pinned (OpenSpec.ofChange rankMergesSpec)

/-- ITS FALSE NEIGHBOUR: 'it returns false'. Refute it at one input. -/
def rankMergesWrong : ChangeSpec := { name := "rankMerges", fn := fun _ => fun
  | [d1, d2] => { results := [.lit (.bool false)], args := [d1, d2] }
  | _ => none }
def RankMergesWrongFalsely : Prop := rankMergesRow.holds Try.pinned (OpenSpec.ofChange rankMergesWrong)

/-- 'deucelaw04.RankOrder': WHATEVER THE INPUT: true; the input reads as it did. -/
def rankOrderSpec : ChangeSpec := { name := "rankOrder", fn := fun _ => fun
  | [d1, d2, d3] => { results := [.lit (.bool true)], args := [d1, d2, d3] }
  | _ => none }
def rankOrderRow : OpenClaim := { program := "ytaocljlhapoieaa", sum := "387b1b117d6a173bbf98707072ba124c8ebe091e45cbaff69a0845b8caadbb23", func := "deuce/deucelaw04.RankOrder", spec := "rankOrder", unfollowed := true, recurses := true, plainKeys := false, apart := false }
def RankOrderSaid : Prop := rankOrderRow.holds Try.pinned (OpenSpec.ofChange rankOrderSpec)

/-- ITS FALSE NEIGHBOUR: 'it returns false'. Refute it at one input. -/
def rankOrderWrong : ChangeSpec := { name := "rankOrder", fn := fun _ => fun
  | [d1, d2, d3] => { results := [.lit (.bool false)], args := [d1, d2, d3] }
  | _ => none }
def RankOrderWrongFalsely : Prop := rankOrderRow.holds Try.pinned (OpenSpec.ofChange rankOrderWrong)

/-- 'deucelaw04.RankLists': WHATEVER THE INPUT: true; the input reads as it did. -/
def rankListsSpec : ChangeSpec := { name := "rankLists", fn := fun _ => fun
  | [d1, d2] => { results := [.lit (.bool true)], args := [d1, d2] }
  | _ => none }
def rankListsRow : OpenClaim := { program := "ytaocljlhapoieaa", sum := "387b1b117d6a173bbf98707072ba124c8ebe091e45cbaff69a0845b8caadbb23", func := "deuce/deucelaw04.RankLists", spec := "rankLists", unfollowed := true, recurses := true, plainKeys := false, apart := false }
def RankListsSaid : Prop := rankListsRow.holds Try.pinned (OpenSpec.ofChange rankListsSpec)

/-- ITS FALSE NEIGHBOUR: 'it returns false'. Refute it at one input. -/
def rankListsWrong : ChangeSpec := { name := "rankLists", fn := fun _ => fun
  | [d1, d2] => { results := [.lit (.bool false)], args := [d1, d2] }
  | _ => none }
def RankListsWrongFalsely : Prop := rankListsRow.holds Try.pinned (OpenSpec.ofChange rankListsWrong)

/-- 'deucelaw04.RankSum': WHATEVER THE INPUT: true; the input reads as it did. -/
def rankSumSpec : ChangeSpec := { name := "rankSum", fn := fun _ => fun
  | [d1, d2] => { results := [.lit (.bool true)], args := [d1, d2] }
  | _ => none }
def rankSumRow : OpenClaim := { program := "ytaocljlhapoieaa", sum := "387b1b117d6a173bbf98707072ba124c8ebe091e45cbaff69a0845b8caadbb23", func := "deuce/deucelaw04.RankSum", spec := "rankSum", unfollowed := true, recurses := true, plainKeys := false, apart := false }
def RankSumSaid : Prop := rankSumRow.holds Try.pinned (OpenSpec.ofChange rankSumSpec)

/-- ITS FALSE NEIGHBOUR: 'it returns false'. Refute it at one input. -/
def rankSumWrong : ChangeSpec := { name := "rankSum", fn := fun _ => fun
  | [d1, d2] => { results := [.lit (.bool false)], args := [d1, d2] }
  | _ => none }
def RankSumWrongFalsely : Prop := rankSumRow.holds Try.pinned (OpenSpec.ofChange rankSumWrong)

/-- 'deucelaw04.RankLeaves': WHATEVER THE INPUT: true; the input reads as it did. -/
def rankLeavesSpec : ChangeSpec := { name := "rankLeaves", fn := fun _ => fun
  | [d1, d2, d3] => { results := [.lit (.bool true)], args := [d1, d2, d3] }
  | _ => none }
def rankLeavesRow : OpenClaim := { program := "ytaocljlhapoieaa", sum := "387b1b117d6a173bbf98707072ba124c8ebe091e45cbaff69a0845b8caadbb23", func := "deuce/deucelaw04.RankLeaves", spec := "rankLeaves", unfollowed := true, recurses := true, plainKeys := false, apart := false }
def RankLeavesSaid : Prop := rankLeavesRow.holds Try.pinned (OpenSpec.ofChange rankLeavesSpec)

/-- ITS FALSE NEIGHBOUR: 'it returns false'. Refute it at one input. -/
def rankLeavesWrong : ChangeSpec := { name := "rankLeaves", fn := fun _ => fun
  | [d1, d2, d3] => { results := [.lit (.bool false)], args := [d1, d2, d3] }
  | _ => none }
def RankLeavesWrongFalsely : Prop := rankLeavesRow.holds Try.pinned (OpenSpec.ofChange rankLeavesWrong)

/-- 'deucelaw04.RankYear': WHATEVER THE INPUT: true; the input reads as it did. -/
def rankYearSpec : ChangeSpec := { name := "rankYear", fn := fun _ => fun
  | [d1, d2] => { results := [.lit (.bool true)], args := [d1, d2] }
  | _ => none }
def rankYearRow : OpenClaim := { program := "ytaocljlhapoieaa", sum := "387b1b117d6a173bbf98707072ba124c8ebe091e45cbaff69a0845b8caadbb23", func := "deuce/deucelaw04.RankYear", spec := "rankYear", unfollowed := true, recurses := true, plainKeys := false, apart := false }
def RankYearSaid : Prop := rankYearRow.holds Try.pinned (OpenSpec.ofChange rankYearSpec)

/-- ITS FALSE NEIGHBOUR: 'it returns false'. Refute it at one input. -/
def rankYearWrong : ChangeSpec := { name := "rankYear", fn := fun _ => fun
  | [d1, d2] => { results := [.lit (.bool false)], args := [d1, d2] }
  | _ => none }
def RankYearWrongFalsely : Prop := rankYearRow.holds Try.pinned (OpenSpec.ofChange rankYearWrong)

/- THE SECOND FORM. 'bulk': how many values and letters a reading holds, each counted each time it is reached (what is shared counts as often as it is met; a slice's spare places count too). A statement '..UptoSaid' is the law's where the arguments, and the package variables that the reading takes, are together of bulk at most 1048576: NARROWER than '..Said'. Prove '..Said' where nothing that the law and all that it calls make is longer than what came in: it says more and counts as full. Else prove '..UptoSaid'. A law counts once. -/
mutual
def uptoBulk {H : Type} : DataW H → Nat
  | .lit (.string bytes) => bytes.length + 1
  | .lit _ => 1
  | .nil => 1
  | .ptr d => uptoBulk d + 1
  | .slice elems spare => uptoBulkAll elems + uptoBulkAll spare + 1
  | .agg parts => uptoBulkAll parts + 1
  | .iface _ d => uptoBulk d + 1
  | .map entries => uptoBulkEntries entries + 1
  | .held _ => 1
def uptoBulkAll {H : Type} : List (DataW H) → Nat
  | [] => 0
  | d :: r => uptoBulk d + uptoBulkAll r
def uptoBulkEntries {H : Type} : List (Lit × DataW H) → Nat
  | [] => 0
  | x :: r => uptoBulkEntry x + uptoBulkEntries r
def uptoBulkEntry {H : Type} : Lit × DataW H → Nat
  | (.string bytes, d) => bytes.length + uptoBulk d + 1
  | (_, d) => uptoBulk d + 1
 end
def uptoSmall : (H : Type) → List (DataW H) → Bool := fun _ ds => decide (uptoBulkAll ds ≤ 1048576)
def OpenSpec.upto (s : _root_.Go.ChangeSpec) : _root_.Go.OpenSpec := { _root_.Go.OpenSpec.ofChange s with cond := some uptoSmall }

/-- 'deucelaw04.RankReach', WHERE WHAT IT READS IS OF BULK AT MOST 1048576: true; the input reads as it did. -/
def rankReachUptoRow : OpenClaim := { program := "ytaocljlhapoieaa", sum := "387b1b117d6a173bbf98707072ba124c8ebe091e45cbaff69a0845b8caadbb23", func := "deuce/deucelaw04.RankReach", spec := "rankReach", unfollowed := true, recurses := true, plainKeys := false, apart := false, narrowed := true }
def RankReachUptoSaid : Prop := rankReachUptoRow.holds Try.pinned (OpenSpec.upto rankReachSpec)

/-- 'deucelaw04.RankDefends', WHERE WHAT IT READS IS OF BULK AT MOST 1048576: true; the input reads as it did. -/
def rankDefendsUptoRow : OpenClaim := { program := "ytaocljlhapoieaa", sum := "387b1b117d6a173bbf98707072ba124c8ebe091e45cbaff69a0845b8caadbb23", func := "deuce/deucelaw04.RankDefends", spec := "rankDefends", unfollowed := true, recurses := true, plainKeys := false, apart := false, narrowed := true }
def RankDefendsUptoSaid : Prop := rankDefendsUptoRow.holds Try.pinned (OpenSpec.upto rankDefendsSpec)

/-- 'deucelaw04.RankBounds', WHERE WHAT IT READS IS OF BULK AT MOST 1048576: true; the input reads as it did. -/
def rankBoundsUptoRow : OpenClaim := { program := "ytaocljlhapoieaa", sum := "387b1b117d6a173bbf98707072ba124c8ebe091e45cbaff69a0845b8caadbb23", func := "deuce/deucelaw04.RankBounds", spec := "rankBounds", unfollowed := true, recurses := true, plainKeys := false, apart := false, narrowed := true }
def RankBoundsUptoSaid : Prop := rankBoundsUptoRow.holds Try.pinned (OpenSpec.upto rankBoundsSpec)

/-- 'deucelaw04.RankList', WHERE WHAT IT READS IS OF BULK AT MOST 1048576: true; the input reads as it did. -/
def rankListUptoRow : OpenClaim := { program := "ytaocljlhapoieaa", sum := "387b1b117d6a173bbf98707072ba124c8ebe091e45cbaff69a0845b8caadbb23", func := "deuce/deucelaw04.RankList", spec := "rankList", unfollowed := true, recurses := true, plainKeys := false, apart := false, narrowed := true }
def RankListUptoSaid : Prop := rankListUptoRow.holds Try.pinned (OpenSpec.upto rankListSpec)

/-- 'deucelaw04.RankMerges', WHERE WHAT IT READS IS OF BULK AT MOST 1048576: true; the input reads as it did. -/
def rankMergesUptoRow : OpenClaim := { program := "ytaocljlhapoieaa", sum := "387b1b117d6a173bbf98707072ba124c8ebe091e45cbaff69a0845b8caadbb23", func := "deuce/deucelaw04.RankMerges", spec := "rankMerges", unfollowed := true, recurses := true, plainKeys := false, apart := false, narrowed := true }
def RankMergesUptoSaid : Prop := rankMergesUptoRow.holds Try.pinned (OpenSpec.upto rankMergesSpec)

/-- 'deucelaw04.RankOrder', WHERE WHAT IT READS IS OF BULK AT MOST 1048576: true; the input reads as it did. -/
def rankOrderUptoRow : OpenClaim := { program := "ytaocljlhapoieaa", sum := "387b1b117d6a173bbf98707072ba124c8ebe091e45cbaff69a0845b8caadbb23", func := "deuce/deucelaw04.RankOrder", spec := "rankOrder", unfollowed := true, recurses := true, plainKeys := false, apart := false, narrowed := true }
def RankOrderUptoSaid : Prop := rankOrderUptoRow.holds Try.pinned (OpenSpec.upto rankOrderSpec)

/-- 'deucelaw04.RankLists', WHERE WHAT IT READS IS OF BULK AT MOST 1048576: true; the input reads as it did. -/
def rankListsUptoRow : OpenClaim := { program := "ytaocljlhapoieaa", sum := "387b1b117d6a173bbf98707072ba124c8ebe091e45cbaff69a0845b8caadbb23", func := "deuce/deucelaw04.RankLists", spec := "rankLists", unfollowed := true, recurses := true, plainKeys := false, apart := false, narrowed := true }
def RankListsUptoSaid : Prop := rankListsUptoRow.holds Try.pinned (OpenSpec.upto rankListsSpec)

/-- 'deucelaw04.RankSum', WHERE WHAT IT READS IS OF BULK AT MOST 1048576: true; the input reads as it did. -/
def rankSumUptoRow : OpenClaim := { program := "ytaocljlhapoieaa", sum := "387b1b117d6a173bbf98707072ba124c8ebe091e45cbaff69a0845b8caadbb23", func := "deuce/deucelaw04.RankSum", spec := "rankSum", unfollowed := true, recurses := true, plainKeys := false, apart := false, narrowed := true }
def RankSumUptoSaid : Prop := rankSumUptoRow.holds Try.pinned (OpenSpec.upto rankSumSpec)

/-- 'deucelaw04.RankLeaves', WHERE WHAT IT READS IS OF BULK AT MOST 1048576: true; the input reads as it did. -/
def rankLeavesUptoRow : OpenClaim := { program := "ytaocljlhapoieaa", sum := "387b1b117d6a173bbf98707072ba124c8ebe091e45cbaff69a0845b8caadbb23", func := "deuce/deucelaw04.RankLeaves", spec := "rankLeaves", unfollowed := true, recurses := true, plainKeys := false, apart := false, narrowed := true }
def RankLeavesUptoSaid : Prop := rankLeavesUptoRow.holds Try.pinned (OpenSpec.upto rankLeavesSpec)

/-- 'deucelaw04.RankYear', WHERE WHAT IT READS IS OF BULK AT MOST 1048576: true; the input reads as it did. -/
def rankYearUptoRow : OpenClaim := { program := "ytaocljlhapoieaa", sum := "387b1b117d6a173bbf98707072ba124c8ebe091e45cbaff69a0845b8caadbb23", func := "deuce/deucelaw04.RankYear", spec := "rankYear", unfollowed := true, recurses := true, plainKeys := false, apart := false, narrowed := true }
def RankYearUptoSaid : Prop := rankYearUptoRow.holds Try.pinned (OpenSpec.upto rankYearSpec)

end Rows
end Go.Proofs.Ytaocljlhapoieaa
