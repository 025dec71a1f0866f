/-
  No cell of these rows narrows 'for every input' (looked for: loops, veiled, ifaces, maps, wideKeys, modest, calm, conditions, laid).
  DERIVED. THE GIVEN ROWS OF THIS SEAT. 10 by the template 'for every input the law returns true; each argument reads behind the call as it read before'; 0 by the template 'total and deterministic' (their statements: YtikcmpflkibomaaTotals.lean).
  GIVEN WITH THE SEED: the statements are not yours to turn. If you find one false, say at which input.
  Laid BY PROGRAM, IN A SANDBOX (cutbox-rows.mjs): the forced cells as the released guide's own fill.sh prints them over the translation 9d676a9657b10ec3… (all of the seat's roots in one cut). By AI agents, Wed Nov 11 2026. No macro, syntax, notation, axiom, sorry.
-/
import Derived.Test.YtikcmpflkibomaaChecked
import GoSem.Claim
import GoSem.ClaimJoined
import GoSem.ClaimMapViews
import Derived.JoinedTies
import Derived.KernelRfl
namespace Go.Proofs.Ytikcmpflkibomaa
/- THE CELL 'sum', in the pinned program and in every row, IS THE sha256 OF THE DUMP (.gsa) THAT YtikcmpflkibomaaProg.lean LOADS. Nothing in Lean hashes anything: it is a label: what it is worth is what the hold of that sum in a sandbox is worth. -/
noncomputable def Try.pinned : Pinned := { name := "ytikcmpflkibomaa", sum := "9d676a9657b10ec3256dba71981713c5fc5c69b6016291e7c008e3e7cabf496e", checked := Try.checked }
namespace Rows
def none {H : Type} : Left H := { results := [], args := [] }

/-- 'deucelaw08.PlayReal': WHATEVER THE INPUT: true; the input reads as it did. -/
def playRealSpec : ChangeSpec := { name := "playReal", fn := fun _ => fun
  | [d1, d2, d3] => { results := [.lit (.bool true)], args := [d1, d2, d3] }
  | _ => none }
def playRealRow : OpenClaim := { program := "ytikcmpflkibomaa", sum := "9d676a9657b10ec3256dba71981713c5fc5c69b6016291e7c008e3e7cabf496e", func := "deuce/deucelaw08.PlayReal", spec := "playReal", unfollowed := true, recurses := true, plainKeys := false, apart := false }
def PlayRealSaid : Prop := playRealRow.holds Try.pinned (OpenSpec.ofChange playRealSpec)

/-- ITS FALSE NEIGHBOUR: 'it returns false'. Refute it at one input. -/
def playRealWrong : ChangeSpec := { name := "playReal", fn := fun _ => fun
  | [d1, d2, d3] => { results := [.lit (.bool false)], args := [d1, d2, d3] }
  | _ => none }
def PlayRealWrongFalsely : Prop := playRealRow.holds Try.pinned (OpenSpec.ofChange playRealWrong)

/-- 'deucelaw08.PlayEasier': WHATEVER THE INPUT: true; the input reads as it did. -/
def playEasierSpec : ChangeSpec := { name := "playEasier", fn := fun _ => fun
  | [d1, d2, d3] => { results := [.lit (.bool true)], args := [d1, d2, d3] }
  | _ => none }
def playEasierRow : OpenClaim := { program := "ytikcmpflkibomaa", sum := "9d676a9657b10ec3256dba71981713c5fc5c69b6016291e7c008e3e7cabf496e", func := "deuce/deucelaw08.PlayEasier", spec := "playEasier", unfollowed := true, recurses := true, plainKeys := false, apart := false }
def PlayEasierSaid : Prop := playEasierRow.holds Try.pinned (OpenSpec.ofChange playEasierSpec)

/-- ITS FALSE NEIGHBOUR: 'it returns false'. Refute it at one input. -/
def playEasierWrong : ChangeSpec := { name := "playEasier", fn := fun _ => fun
  | [d1, d2, d3] => { results := [.lit (.bool false)], args := [d1, d2, d3] }
  | _ => none }
def PlayEasierWrongFalsely : Prop := playEasierRow.holds Try.pinned (OpenSpec.ofChange playEasierWrong)

/-- 'deucelaw08.PlayTimes': WHATEVER THE INPUT: true; the input reads as it did. -/
def playTimesSpec : ChangeSpec := { name := "playTimes", fn := fun _ => fun
  | [d1, d2] => { results := [.lit (.bool true)], args := [d1, d2] }
  | _ => none }
def playTimesRow : OpenClaim := { program := "ytikcmpflkibomaa", sum := "9d676a9657b10ec3256dba71981713c5fc5c69b6016291e7c008e3e7cabf496e", func := "deuce/deucelaw08.PlayTimes", spec := "playTimes", unfollowed := true, recurses := true, plainKeys := false, apart := false }
def PlayTimesSaid : Prop := playTimesRow.holds Try.pinned (OpenSpec.ofChange playTimesSpec)

/-- ITS FALSE NEIGHBOUR: 'it returns false'. Refute it at one input. -/
def playTimesWrong : ChangeSpec := { name := "playTimes", fn := fun _ => fun
  | [d1, d2] => { results := [.lit (.bool false)], args := [d1, d2] }
  | _ => none }
def PlayTimesWrongFalsely : Prop := playTimesRow.holds Try.pinned (OpenSpec.ofChange playTimesWrong)

/-- 'deucelaw08.PlayFew': WHATEVER THE INPUT: true; the input reads as it did. -/
def playFewSpec : ChangeSpec := { name := "playFew", fn := fun _ => fun
  | [d1, d2] => { results := [.lit (.bool true)], args := [d1, d2] }
  | _ => none }
def playFewRow : OpenClaim := { program := "ytikcmpflkibomaa", sum := "9d676a9657b10ec3256dba71981713c5fc5c69b6016291e7c008e3e7cabf496e", func := "deuce/deucelaw08.PlayFew", spec := "playFew", unfollowed := true, recurses := true, plainKeys := false, apart := false }
def PlayFewSaid : Prop := playFewRow.holds Try.pinned (OpenSpec.ofChange playFewSpec)

/-- ITS FALSE NEIGHBOUR: 'it returns false'. Refute it at one input. -/
def playFewWrong : ChangeSpec := { name := "playFew", fn := fun _ => fun
  | [d1, d2] => { results := [.lit (.bool false)], args := [d1, d2] }
  | _ => none }
def PlayFewWrongFalsely : Prop := playFewRow.holds Try.pinned (OpenSpec.ofChange playFewWrong)

/-- 'deucelaw08.PlayMoves': WHATEVER THE INPUT: true; the input reads as it did. -/
def playMovesSpec : ChangeSpec := { name := "playMoves", fn := fun _ => fun
  | [d1, d2, d3] => { results := [.lit (.bool true)], args := [d1, d2, d3] }
  | _ => none }
def playMovesRow : OpenClaim := { program := "ytikcmpflkibomaa", sum := "9d676a9657b10ec3256dba71981713c5fc5c69b6016291e7c008e3e7cabf496e", func := "deuce/deucelaw08.PlayMoves", spec := "playMoves", unfollowed := true, recurses := true, plainKeys := false, apart := false }
def PlayMovesSaid : Prop := playMovesRow.holds Try.pinned (OpenSpec.ofChange playMovesSpec)

/-- ITS FALSE NEIGHBOUR: 'it returns false'. Refute it at one input. -/
def playMovesWrong : ChangeSpec := { name := "playMoves", fn := fun _ => fun
  | [d1, d2, d3] => { results := [.lit (.bool false)], args := [d1, d2, d3] }
  | _ => none }
def PlayMovesWrongFalsely : Prop := playMovesRow.holds Try.pinned (OpenSpec.ofChange playMovesWrong)

/-- 'deucelaw08.PlayBest': WHATEVER THE INPUT: true; the input reads as it did. -/
def playBestSpec : ChangeSpec := { name := "playBest", fn := fun _ => fun
  | [d1, d2] => { results := [.lit (.bool true)], args := [d1, d2] }
  | _ => none }
def playBestRow : OpenClaim := { program := "ytikcmpflkibomaa", sum := "9d676a9657b10ec3256dba71981713c5fc5c69b6016291e7c008e3e7cabf496e", func := "deuce/deucelaw08.PlayBest", spec := "playBest", unfollowed := true, recurses := true, plainKeys := false, apart := false }
def PlayBestSaid : Prop := playBestRow.holds Try.pinned (OpenSpec.ofChange playBestSpec)

/-- ITS FALSE NEIGHBOUR: 'it returns false'. Refute it at one input. -/
def playBestWrong : ChangeSpec := { name := "playBest", fn := fun _ => fun
  | [d1, d2] => { results := [.lit (.bool false)], args := [d1, d2] }
  | _ => none }
def PlayBestWrongFalsely : Prop := playBestRow.holds Try.pinned (OpenSpec.ofChange playBestWrong)

/-- 'deucelaw08.PlayStuck': WHATEVER THE INPUT: true; the input reads as it did. -/
def playStuckSpec : ChangeSpec := { name := "playStuck", fn := fun _ => fun
  | [d] => { results := [.lit (.bool true)], args := [d] }
  | _ => none }
def playStuckRow : OpenClaim := { program := "ytikcmpflkibomaa", sum := "9d676a9657b10ec3256dba71981713c5fc5c69b6016291e7c008e3e7cabf496e", func := "deuce/deucelaw08.PlayStuck", spec := "playStuck", unfollowed := true, recurses := true, plainKeys := false, apart := false }
def PlayStuckSaid : Prop := playStuckRow.holds Try.pinned (OpenSpec.ofChange playStuckSpec)

/-- ITS FALSE NEIGHBOUR: 'it returns false'. Refute it at one input. -/
def playStuckWrong : ChangeSpec := { name := "playStuck", fn := fun _ => fun
  | [d] => { results := [.lit (.bool false)], args := [d] }
  | _ => none }
def PlayStuckWrongFalsely : Prop := playStuckRow.holds Try.pinned (OpenSpec.ofChange playStuckWrong)

/-- 'deucelaw08.PlayDays': WHATEVER THE INPUT: true; the input reads as it did. -/
def playDaysSpec : ChangeSpec := { name := "playDays", fn := fun _ => fun
  | [d1, d2] => { results := [.lit (.bool true)], args := [d1, d2] }
  | _ => none }
def playDaysRow : OpenClaim := { program := "ytikcmpflkibomaa", sum := "9d676a9657b10ec3256dba71981713c5fc5c69b6016291e7c008e3e7cabf496e", func := "deuce/deucelaw08.PlayDays", spec := "playDays", unfollowed := true, recurses := true, plainKeys := false, apart := false }
def PlayDaysSaid : Prop := playDaysRow.holds Try.pinned (OpenSpec.ofChange playDaysSpec)

/-- ITS FALSE NEIGHBOUR: 'it returns false'. Refute it at one input. -/
def playDaysWrong : ChangeSpec := { name := "playDays", fn := fun _ => fun
  | [d1, d2] => { results := [.lit (.bool false)], args := [d1, d2] }
  | _ => none }
def PlayDaysWrongFalsely : Prop := playDaysRow.holds Try.pinned (OpenSpec.ofChange playDaysWrong)

/-- 'deucelaw08.PlayJobs': WHATEVER THE INPUT: true; the input reads as it did. -/
def playJobsSpec : ChangeSpec := { name := "playJobs", fn := fun _ => fun
  | [d1, d2, d3] => { results := [.lit (.bool true)], args := [d1, d2, d3] }
  | _ => none }
def playJobsRow : OpenClaim := { program := "ytikcmpflkibomaa", sum := "9d676a9657b10ec3256dba71981713c5fc5c69b6016291e7c008e3e7cabf496e", func := "deuce/deucelaw08.PlayJobs", spec := "playJobs", unfollowed := true, recurses := true, plainKeys := false, apart := false }
def PlayJobsSaid : Prop := playJobsRow.holds Try.pinned (OpenSpec.ofChange playJobsSpec)

/-- ITS FALSE NEIGHBOUR: 'it returns false'. Refute it at one input. -/
def playJobsWrong : ChangeSpec := { name := "playJobs", fn := fun _ => fun
  | [d1, d2, d3] => { results := [.lit (.bool false)], args := [d1, d2, d3] }
  | _ => none }
def PlayJobsWrongFalsely : Prop := playJobsRow.holds Try.pinned (OpenSpec.ofChange playJobsWrong)

/-- 'deucelaw08.PlayDraw': WHATEVER THE INPUT: true; the input reads as it did. -/
def playDrawSpec : ChangeSpec := { name := "playDraw", fn := fun _ => fun
  | [d1, d2, d3] => { results := [.lit (.bool true)], args := [d1, d2, d3] }
  | _ => none }
def playDrawRow : OpenClaim := { program := "ytikcmpflkibomaa", sum := "9d676a9657b10ec3256dba71981713c5fc5c69b6016291e7c008e3e7cabf496e", func := "deuce/deucelaw08.PlayDraw", spec := "playDraw", unfollowed := true, recurses := true, plainKeys := false, apart := false }
def PlayDrawSaid : Prop := playDrawRow.holds Try.pinned (OpenSpec.ofChange playDrawSpec)

/-- ITS FALSE NEIGHBOUR: 'it returns false'. Refute it at one input. -/
def playDrawWrong : ChangeSpec := { name := "playDraw", fn := fun _ => fun
  | [d1, d2, d3] => { results := [.lit (.bool false)], args := [d1, d2, d3] }
  | _ => none }
def PlayDrawWrongFalsely : Prop := playDrawRow.holds Try.pinned (OpenSpec.ofChange playDrawWrong)

/- THE SECOND FORM. 'bulk': how many values and letters a reading holds, each counted each time it is reached (what is shared counts as often as it is met; a slice's spare places count too). A statement '..UptoSaid' is the law's where the arguments, and the package variables that the reading takes, are together of bulk at most 1048576: NARROWER than '..Said'. Prove '..Said' where nothing that the law and all that it calls make is longer than what came in: it says more and counts as full. Else prove '..UptoSaid'. A law counts once. -/
mutual
def uptoBulk {H : Type} : DataW H → Nat
  | .lit (.string bytes) => bytes.length + 1
  | .lit _ => 1
  | .nil => 1
  | .ptr d => uptoBulk d + 1
  | .slice elems spare => uptoBulkAll elems + uptoBulkAll spare + 1
  | .agg parts => uptoBulkAll parts + 1
  | .iface _ d => uptoBulk d + 1
  | .map entries => uptoBulkEntries entries + 1
  | .held _ => 1
def uptoBulkAll {H : Type} : List (DataW H) → Nat
  | [] => 0
  | d :: r => uptoBulk d + uptoBulkAll r
def uptoBulkEntries {H : Type} : List (Lit × DataW H) → Nat
  | [] => 0
  | x :: r => uptoBulkEntry x + uptoBulkEntries r
def uptoBulkEntry {H : Type} : Lit × DataW H → Nat
  | (.string bytes, d) => bytes.length + uptoBulk d + 1
  | (_, d) => uptoBulk d + 1
 end
def uptoSmall : (H : Type) → List (DataW H) → Bool := fun _ ds => decide (uptoBulkAll ds ≤ 1048576)
def OpenSpec.upto (s : _root_.Go.ChangeSpec) : _root_.Go.OpenSpec := { _root_.Go.OpenSpec.ofChange s with cond := some uptoSmall }

/-- 'deucelaw08.PlayReal', WHERE WHAT IT READS IS OF BULK AT MOST 1048576: true; the input reads as it did. -/
def playRealUptoRow : OpenClaim := { program := "ytikcmpflkibomaa", sum := "9d676a9657b10ec3256dba71981713c5fc5c69b6016291e7c008e3e7cabf496e", func := "deuce/deucelaw08.PlayReal", spec := "playReal", unfollowed := true, recurses := true, plainKeys := false, apart := false, narrowed := true }
def PlayRealUptoSaid : Prop := playRealUptoRow.holds Try.pinned (OpenSpec.upto playRealSpec)

/-- 'deucelaw08.PlayEasier', WHERE WHAT IT READS IS OF BULK AT MOST 1048576: true; the input reads as it did. -/
def playEasierUptoRow : OpenClaim := { program := "ytikcmpflkibomaa", sum := "9d676a9657b10ec3256dba71981713c5fc5c69b6016291e7c008e3e7cabf496e", func := "deuce/deucelaw08.PlayEasier", spec := "playEasier", unfollowed := true, recurses := true, plainKeys := false, apart := false, narrowed := true }
def PlayEasierUptoSaid : Prop := playEasierUptoRow.holds Try.pinned (OpenSpec.upto playEasierSpec)

/-- 'deucelaw08.PlayTimes', WHERE WHAT IT READS IS OF BULK AT MOST 1048576: true; the input reads as it did. -/
def playTimesUptoRow : OpenClaim := { program := "ytikcmpflkibomaa", sum := "9d676a9657b10ec3256dba71981713c5fc5c69b6016291e7c008e3e7cabf496e", func := "deuce/deucelaw08.PlayTimes", spec := "playTimes", unfollowed := true, recurses := true, plainKeys := false, apart := false, narrowed := true }
def PlayTimesUptoSaid : Prop := playTimesUptoRow.holds Try.pinned (OpenSpec.upto playTimesSpec)

/-- 'deucelaw08.PlayFew', WHERE WHAT IT READS IS OF BULK AT MOST 1048576: true; the input reads as it did. -/
def playFewUptoRow : OpenClaim := { program := "ytikcmpflkibomaa", sum := "9d676a9657b10ec3256dba71981713c5fc5c69b6016291e7c008e3e7cabf496e", func := "deuce/deucelaw08.PlayFew", spec := "playFew", unfollowed := true, recurses := true, plainKeys := false, apart := false, narrowed := true }
def PlayFewUptoSaid : Prop := playFewUptoRow.holds Try.pinned (OpenSpec.upto playFewSpec)

/-- 'deucelaw08.PlayMoves', WHERE WHAT IT READS IS OF BULK AT MOST 1048576: true; the input reads as it did. -/
def playMovesUptoRow : OpenClaim := { program := "ytikcmpflkibomaa", sum := "9d676a9657b10ec3256dba71981713c5fc5c69b6016291e7c008e3e7cabf496e", func := "deuce/deucelaw08.PlayMoves", spec := "playMoves", unfollowed := true, recurses := true, plainKeys := false, apart := false, narrowed := true }
def PlayMovesUptoSaid : Prop := playMovesUptoRow.holds Try.pinned (OpenSpec.upto playMovesSpec)

/-- 'deucelaw08.PlayBest', WHERE WHAT IT READS IS OF BULK AT MOST 1048576: true; the input reads as it did. -/
def playBestUptoRow : OpenClaim := { program := "ytikcmpflkibomaa", sum := "9d676a9657b10ec3256dba71981713c5fc5c69b6016291e7c008e3e7cabf496e", func := "deuce/deucelaw08.PlayBest", spec := "playBest", unfollowed := true, recurses := true, plainKeys := false, apart := false, narrowed := true }
def PlayBestUptoSaid : Prop := playBestUptoRow.holds Try.pinned (OpenSpec.upto playBestSpec)

/-- 'deucelaw08.PlayStuck', WHERE WHAT IT READS IS OF BULK AT MOST 1048576: true; the input reads as it did. -/
def playStuckUptoRow : OpenClaim := { program := "ytikcmpflkibomaa", sum := "9d676a9657b10ec3256dba71981713c5fc5c69b6016291e7c008e3e7cabf496e", func := "deuce/deucelaw08.PlayStuck", spec := "playStuck", unfollowed := true, recurses := true, plainKeys := false, apart := false, narrowed := true }
def PlayStuckUptoSaid : Prop := playStuckUptoRow.holds Try.pinned (OpenSpec.upto playStuckSpec)

/-- 'deucelaw08.PlayDays', WHERE WHAT IT READS IS OF BULK AT MOST 1048576: true; the input reads as it did. -/
def playDaysUptoRow : OpenClaim := { program := "ytikcmpflkibomaa", sum := "9d676a9657b10ec3256dba71981713c5fc5c69b6016291e7c008e3e7cabf496e", func := "deuce/deucelaw08.PlayDays", spec := "playDays", unfollowed := true, recurses := true, plainKeys := false, apart := false, narrowed := true }
def PlayDaysUptoSaid : Prop := playDaysUptoRow.holds Try.pinned (OpenSpec.upto playDaysSpec)

/-- 'deucelaw08.PlayJobs', WHERE WHAT IT READS IS OF BULK AT MOST 1048576: true; the input reads as it did. -/
def playJobsUptoRow : OpenClaim := { program := "ytikcmpflkibomaa", sum := "9d676a9657b10ec3256dba71981713c5fc5c69b6016291e7c008e3e7cabf496e", func := "deuce/deucelaw08.PlayJobs", spec := "playJobs", unfollowed := true, recurses := true, plainKeys := false, apart := false, narrowed := true }
def PlayJobsUptoSaid : Prop := playJobsUptoRow.holds Try.pinned (OpenSpec.upto playJobsSpec)

/-- 'deucelaw08.PlayDraw', WHERE WHAT IT READS IS OF BULK AT MOST 1048576: true; the input reads as it did. -/
def playDrawUptoRow : OpenClaim := { program := "ytikcmpflkibomaa", sum := "9d676a9657b10ec3256dba71981713c5fc5c69b6016291e7c008e3e7cabf496e", func := "deuce/deucelaw08.PlayDraw", spec := "playDraw", unfollowed := true, recurses := true, plainKeys := false, apart := false, narrowed := true }
def PlayDrawUptoSaid : Prop := playDrawUptoRow.holds Try.pinned (OpenSpec.upto playDrawSpec)

end Rows
end Go.Proofs.Ytikcmpflkibomaa
