/-
  No cell of these rows narrows 'for every input' (looked for: loops, veiled, ifaces, maps, wideKeys, modest, calm, conditions, laid).
  DERIVED. THE GIVEN ROWS OF THIS SEAT. 7 by the template 'for every input the law returns true; each argument reads behind the call as it read before'; 0 by the template 'total and deterministic' (their statements: YtmecbiphejjkmaaTotals.lean).
  GIVEN WITH THE SEED: the statements are not yours to turn. If you find one false, say at which input.
  Laid BY PROGRAM, IN A SANDBOX (cutbox-rows.mjs): the forced cells as the released guide's own fill.sh prints them over the translation f08f08af777f56e7… (all of the seat's roots in one cut). By AI agents, Wed Nov 11 2026. No macro, syntax, notation, axiom, sorry.
-/
import Derived.Test.YtmecbiphejjkmaaChecked
import GoSem.Claim
import GoSem.ClaimJoined
import GoSem.ClaimMapViews
import Derived.JoinedTies
import Derived.KernelRfl
namespace Go.Proofs.Ytmecbiphejjkmaa
/- THE CELL 'sum', in the pinned program and in every row, IS THE sha256 OF THE DUMP (.gsa) THAT YtmecbiphejjkmaaProg.lean LOADS. Nothing in Lean hashes anything: it is a label: what it is worth is what the hold of that sum in a sandbox is worth. -/
noncomputable def Try.pinned : Pinned := { name := "ytmecbiphejjkmaa", sum := "f08f08af777f56e7d7ad49c1cae36d66e33d9960e779c0991ce181bd6ee59515", checked := Try.checked }
namespace Rows
def none {H : Type} : Left H := { results := [], args := [] }

/-- 'laws.FnScoreTable': WHATEVER THE INPUT: true; the input reads as it did. -/
def fnScoreTableSpec : ChangeSpec := { name := "fnScoreTable", fn := fun _ => fun
  | [d1, d2] => { results := [.lit (.bool true)], args := [d1, d2] }
  | _ => none }
def fnScoreTableRow : OpenClaim := { program := "ytmecbiphejjkmaa", sum := "f08f08af777f56e7d7ad49c1cae36d66e33d9960e779c0991ce181bd6ee59515", func := "loop.example/spreadspectrum/laws.FnScoreTable", spec := "fnScoreTable", apart := false }
def FnScoreTableSaid : Prop := fnScoreTableRow.holds Try.pinned (OpenSpec.ofChange fnScoreTableSpec)

/-- ITS FALSE NEIGHBOUR: 'it returns false'. Refute it at one input. -/
def fnScoreTableWrong : ChangeSpec := { name := "fnScoreTable", fn := fun _ => fun
  | [d1, d2] => { results := [.lit (.bool false)], args := [d1, d2] }
  | _ => none }
def FnScoreTableWrongFalsely : Prop := fnScoreTableRow.holds Try.pinned (OpenSpec.ofChange fnScoreTableWrong)

/-- 'laws.FnScoreSum': WHATEVER THE INPUT: true; the input reads as it did. -/
def fnScoreSumSpec : ChangeSpec := { name := "fnScoreSum", fn := fun _ => fun
  | [d1, d2] => { results := [.lit (.bool true)], args := [d1, d2] }
  | _ => none }
def fnScoreSumRow : OpenClaim := { program := "ytmecbiphejjkmaa", sum := "f08f08af777f56e7d7ad49c1cae36d66e33d9960e779c0991ce181bd6ee59515", func := "loop.example/spreadspectrum/laws.FnScoreSum", spec := "fnScoreSum", apart := false }
def FnScoreSumSaid : Prop := fnScoreSumRow.holds Try.pinned (OpenSpec.ofChange fnScoreSumSpec)

/-- ITS FALSE NEIGHBOUR: 'it returns false'. Refute it at one input. -/
def fnScoreSumWrong : ChangeSpec := { name := "fnScoreSum", fn := fun _ => fun
  | [d1, d2] => { results := [.lit (.bool false)], args := [d1, d2] }
  | _ => none }
def FnScoreSumWrongFalsely : Prop := fnScoreSumRow.holds Try.pinned (OpenSpec.ofChange fnScoreSumWrong)

/-- 'laws.FnLocked': WHATEVER THE INPUT: true; the input reads as it did. -/
def fnLockedSpec : ChangeSpec := { name := "fnLocked", fn := fun _ => fun
  | [d] => { results := [.lit (.bool true)], args := [d] }
  | _ => none }
def fnLockedRow : OpenClaim := { program := "ytmecbiphejjkmaa", sum := "f08f08af777f56e7d7ad49c1cae36d66e33d9960e779c0991ce181bd6ee59515", func := "loop.example/spreadspectrum/laws.FnLocked", spec := "fnLocked", apart := false }
def FnLockedSaid : Prop := fnLockedRow.holds Try.pinned (OpenSpec.ofChange fnLockedSpec)

/-- ITS FALSE NEIGHBOUR: 'it returns false'. Refute it at one input. -/
def fnLockedWrong : ChangeSpec := { name := "fnLocked", fn := fun _ => fun
  | [d] => { results := [.lit (.bool false)], args := [d] }
  | _ => none }
def FnLockedWrongFalsely : Prop := fnLockedRow.holds Try.pinned (OpenSpec.ofChange fnLockedWrong)

/-- 'laws.FnTrackPath': WHATEVER THE INPUT: true; the input reads as it did. -/
def fnTrackPathSpec : ChangeSpec := { name := "fnTrackPath", fn := fun _ => fun
  | [d1, d2] => { results := [.lit (.bool true)], args := [d1, d2] }
  | _ => none }
def fnTrackPathRow : OpenClaim := { program := "ytmecbiphejjkmaa", sum := "f08f08af777f56e7d7ad49c1cae36d66e33d9960e779c0991ce181bd6ee59515", func := "loop.example/spreadspectrum/laws.FnTrackPath", spec := "fnTrackPath", apart := false }
def FnTrackPathSaid : Prop := fnTrackPathRow.holds Try.pinned (OpenSpec.ofChange fnTrackPathSpec)

/-- ITS FALSE NEIGHBOUR: 'it returns false'. Refute it at one input. -/
def fnTrackPathWrong : ChangeSpec := { name := "fnTrackPath", fn := fun _ => fun
  | [d1, d2] => { results := [.lit (.bool false)], args := [d1, d2] }
  | _ => none }
def FnTrackPathWrongFalsely : Prop := fnTrackPathRow.holds Try.pinned (OpenSpec.ofChange fnTrackPathWrong)

/-- 'laws.FnSearchFinds': WHATEVER THE INPUT: true; the input reads as it did. -/
def fnSearchFindsSpec : ChangeSpec := { name := "fnSearchFinds", fn := fun _ => fun
  | [d1, d2] => { results := [.lit (.bool true)], args := [d1, d2] }
  | _ => none }
def fnSearchFindsRow : OpenClaim := { program := "ytmecbiphejjkmaa", sum := "f08f08af777f56e7d7ad49c1cae36d66e33d9960e779c0991ce181bd6ee59515", func := "loop.example/spreadspectrum/laws.FnSearchFinds", spec := "fnSearchFinds", apart := false }
def FnSearchFindsSaid : Prop := fnSearchFindsRow.holds Try.pinned (OpenSpec.ofChange fnSearchFindsSpec)

/-- ITS FALSE NEIGHBOUR: 'it returns false'. Refute it at one input. -/
def fnSearchFindsWrong : ChangeSpec := { name := "fnSearchFinds", fn := fun _ => fun
  | [d1, d2] => { results := [.lit (.bool false)], args := [d1, d2] }
  | _ => none }
def FnSearchFindsWrongFalsely : Prop := fnSearchFindsRow.holds Try.pinned (OpenSpec.ofChange fnSearchFindsWrong)

/-- 'laws.FnScoreShape': WHATEVER THE INPUT: true; the input reads as it did. -/
def fnScoreShapeSpec : ChangeSpec := { name := "fnScoreShape", fn := fun _ => fun
  | [d1, d2] => { results := [.lit (.bool true)], args := [d1, d2] }
  | _ => none }
def fnScoreShapeRow : OpenClaim := { program := "ytmecbiphejjkmaa", sum := "f08f08af777f56e7d7ad49c1cae36d66e33d9960e779c0991ce181bd6ee59515", func := "loop.example/spreadspectrum/laws.FnScoreShape", spec := "fnScoreShape", apart := false }
def FnScoreShapeSaid : Prop := fnScoreShapeRow.holds Try.pinned (OpenSpec.ofChange fnScoreShapeSpec)

/-- ITS FALSE NEIGHBOUR: 'it returns false'. Refute it at one input. -/
def fnScoreShapeWrong : ChangeSpec := { name := "fnScoreShape", fn := fun _ => fun
  | [d1, d2] => { results := [.lit (.bool false)], args := [d1, d2] }
  | _ => none }
def FnScoreShapeWrongFalsely : Prop := fnScoreShapeRow.holds Try.pinned (OpenSpec.ofChange fnScoreShapeWrong)

/-- 'laws.FnTrackFinds': WHATEVER THE INPUT: true; the input reads as it did. -/
def fnTrackFindsSpec : ChangeSpec := { name := "fnTrackFinds", fn := fun _ => fun
  | [d1, d2] => { results := [.lit (.bool true)], args := [d1, d2] }
  | _ => none }
def fnTrackFindsRow : OpenClaim := { program := "ytmecbiphejjkmaa", sum := "f08f08af777f56e7d7ad49c1cae36d66e33d9960e779c0991ce181bd6ee59515", func := "loop.example/spreadspectrum/laws.FnTrackFinds", spec := "fnTrackFinds", apart := false }
def FnTrackFindsSaid : Prop := fnTrackFindsRow.holds Try.pinned (OpenSpec.ofChange fnTrackFindsSpec)

/-- ITS FALSE NEIGHBOUR: 'it returns false'. Refute it at one input. -/
def fnTrackFindsWrong : ChangeSpec := { name := "fnTrackFinds", fn := fun _ => fun
  | [d1, d2] => { results := [.lit (.bool false)], args := [d1, d2] }
  | _ => none }
def FnTrackFindsWrongFalsely : Prop := fnTrackFindsRow.holds Try.pinned (OpenSpec.ofChange fnTrackFindsWrong)

/- THE SECOND FORM. 'bulk': how many values and letters a reading holds, each counted each time it is reached (what is shared counts as often as it is met; a slice's spare places count too). A statement '..UptoSaid' is the law's where the arguments, and the package variables that the reading takes, are together of bulk at most 1048576: NARROWER than '..Said'. Prove '..Said' where nothing that the law and all that it calls make is longer than what came in: it says more and counts as full. Else prove '..UptoSaid'. A law counts once. -/
mutual
def uptoBulk {H : Type} : DataW H → Nat
  | .lit (.string bytes) => bytes.length + 1
  | .lit _ => 1
  | .nil => 1
  | .ptr d => uptoBulk d + 1
  | .slice elems spare => uptoBulkAll elems + uptoBulkAll spare + 1
  | .agg parts => uptoBulkAll parts + 1
  | .iface _ d => uptoBulk d + 1
  | .map entries => uptoBulkEntries entries + 1
  | .held _ => 1
def uptoBulkAll {H : Type} : List (DataW H) → Nat
  | [] => 0
  | d :: r => uptoBulk d + uptoBulkAll r
def uptoBulkEntries {H : Type} : List (Lit × DataW H) → Nat
  | [] => 0
  | x :: r => uptoBulkEntry x + uptoBulkEntries r
def uptoBulkEntry {H : Type} : Lit × DataW H → Nat
  | (.string bytes, d) => bytes.length + uptoBulk d + 1
  | (_, d) => uptoBulk d + 1
 end
def uptoSmall : (H : Type) → List (DataW H) → Bool := fun _ ds => decide (uptoBulkAll ds ≤ 1048576)
def OpenSpec.upto (s : _root_.Go.ChangeSpec) : _root_.Go.OpenSpec := { _root_.Go.OpenSpec.ofChange s with cond := some uptoSmall }

/-- 'laws.FnScoreTable', WHERE WHAT IT READS IS OF BULK AT MOST 1048576: true; the input reads as it did. -/
def fnScoreTableUptoRow : OpenClaim := { program := "ytmecbiphejjkmaa", sum := "f08f08af777f56e7d7ad49c1cae36d66e33d9960e779c0991ce181bd6ee59515", func := "loop.example/spreadspectrum/laws.FnScoreTable", spec := "fnScoreTable", apart := false, narrowed := true }
def FnScoreTableUptoSaid : Prop := fnScoreTableUptoRow.holds Try.pinned (OpenSpec.upto fnScoreTableSpec)

/-- 'laws.FnScoreSum', WHERE WHAT IT READS IS OF BULK AT MOST 1048576: true; the input reads as it did. -/
def fnScoreSumUptoRow : OpenClaim := { program := "ytmecbiphejjkmaa", sum := "f08f08af777f56e7d7ad49c1cae36d66e33d9960e779c0991ce181bd6ee59515", func := "loop.example/spreadspectrum/laws.FnScoreSum", spec := "fnScoreSum", apart := false, narrowed := true }
def FnScoreSumUptoSaid : Prop := fnScoreSumUptoRow.holds Try.pinned (OpenSpec.upto fnScoreSumSpec)

/-- 'laws.FnLocked', WHERE WHAT IT READS IS OF BULK AT MOST 1048576: true; the input reads as it did. -/
def fnLockedUptoRow : OpenClaim := { program := "ytmecbiphejjkmaa", sum := "f08f08af777f56e7d7ad49c1cae36d66e33d9960e779c0991ce181bd6ee59515", func := "loop.example/spreadspectrum/laws.FnLocked", spec := "fnLocked", apart := false, narrowed := true }
def FnLockedUptoSaid : Prop := fnLockedUptoRow.holds Try.pinned (OpenSpec.upto fnLockedSpec)

/-- 'laws.FnTrackPath', WHERE WHAT IT READS IS OF BULK AT MOST 1048576: true; the input reads as it did. -/
def fnTrackPathUptoRow : OpenClaim := { program := "ytmecbiphejjkmaa", sum := "f08f08af777f56e7d7ad49c1cae36d66e33d9960e779c0991ce181bd6ee59515", func := "loop.example/spreadspectrum/laws.FnTrackPath", spec := "fnTrackPath", apart := false, narrowed := true }
def FnTrackPathUptoSaid : Prop := fnTrackPathUptoRow.holds Try.pinned (OpenSpec.upto fnTrackPathSpec)

/-- 'laws.FnSearchFinds', WHERE WHAT IT READS IS OF BULK AT MOST 1048576: true; the input reads as it did. -/
def fnSearchFindsUptoRow : OpenClaim := { program := "ytmecbiphejjkmaa", sum := "f08f08af777f56e7d7ad49c1cae36d66e33d9960e779c0991ce181bd6ee59515", func := "loop.example/spreadspectrum/laws.FnSearchFinds", spec := "fnSearchFinds", apart := false, narrowed := true }
def FnSearchFindsUptoSaid : Prop := fnSearchFindsUptoRow.holds Try.pinned (OpenSpec.upto fnSearchFindsSpec)

/-- 'laws.FnScoreShape', WHERE WHAT IT READS IS OF BULK AT MOST 1048576: true; the input reads as it did. -/
def fnScoreShapeUptoRow : OpenClaim := { program := "ytmecbiphejjkmaa", sum := "f08f08af777f56e7d7ad49c1cae36d66e33d9960e779c0991ce181bd6ee59515", func := "loop.example/spreadspectrum/laws.FnScoreShape", spec := "fnScoreShape", apart := false, narrowed := true }
def FnScoreShapeUptoSaid : Prop := fnScoreShapeUptoRow.holds Try.pinned (OpenSpec.upto fnScoreShapeSpec)

/-- 'laws.FnTrackFinds', WHERE WHAT IT READS IS OF BULK AT MOST 1048576: true; the input reads as it did. -/
def fnTrackFindsUptoRow : OpenClaim := { program := "ytmecbiphejjkmaa", sum := "f08f08af777f56e7d7ad49c1cae36d66e33d9960e779c0991ce181bd6ee59515", func := "loop.example/spreadspectrum/laws.FnTrackFinds", spec := "fnTrackFinds", apart := false, narrowed := true }
def FnTrackFindsUptoSaid : Prop := fnTrackFindsUptoRow.holds Try.pinned (OpenSpec.upto fnTrackFindsSpec)

end Rows
end Go.Proofs.Ytmecbiphejjkmaa
