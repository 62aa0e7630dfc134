/-
  No cell of these rows narrows 'for every input' (looked for: loops, veiled, ifaces, maps, wideKeys, modest, calm, conditions, laid).
  DERIVED. THE GIVEN ROWS OF THIS SEAT. 11 by the template 'for every input the law returns true; each argument reads behind the call as it read before'; 0 by the template 'total and deterministic' (their statements: YtcekjffkjhlieaaTotals.lean).
  GIVEN WITH THE SEED: the statements are not yours to turn. If you find one false, say at which input.
  Laid BY PROGRAM, IN A SANDBOX (cutbox-rows.mjs): the forced cells as the released guide's own fill.sh prints them over the translation bec80ac0620989db… (all of the seat's roots in one cut). By AI agents, Wed Nov 11 2026. No macro, syntax, notation, axiom, sorry.
-/
import Derived.Test.YtcekjffkjhlieaaChecked
import GoSem.Claim
import GoSem.ClaimJoined
import GoSem.ClaimMapViews
import Derived.JoinedTies
import Derived.KernelRfl
namespace Go.Proofs.Ytcekjffkjhlieaa
/- THE CELL 'sum', in the pinned program and in every row, IS THE sha256 OF THE DUMP (.gsa) THAT YtcekjffkjhlieaaProg.lean LOADS. Nothing in Lean hashes anything: it is a label: what it is worth is what the hold of that sum in a sandbox is worth. -/
noncomputable def Try.pinned : Pinned := { name := "ytcekjffkjhlieaa", sum := "bec80ac0620989dbf8f835356dbef69b1e5318d4e436c46dc903e6311d826093", checked := Try.checked }
namespace Rows
def none {H : Type} : Left H := { results := [], args := [] }

/-- 'laws.FnExactPilotSignal': WHATEVER THE INPUT: true; the input reads as it did. -/
def fnExactPilotSignalSpec : ChangeSpec := { name := "fnExactPilotSignal", fn := fun _ => fun
  | [d1, d2, d3, d4] => { results := [.lit (.bool true)], args := [d1, d2, d3, d4] }
  | _ => none }
def fnExactPilotSignalRow : OpenClaim := { program := "ytcekjffkjhlieaa", sum := "bec80ac0620989dbf8f835356dbef69b1e5318d4e436c46dc903e6311d826093", func := "loop.example/spreadspectrum/laws.FnExactPilotSignal", spec := "fnExactPilotSignal", apart := false }
def FnExactPilotSignalSaid : Prop := fnExactPilotSignalRow.holds Try.pinned (OpenSpec.ofChange fnExactPilotSignalSpec)

/-- ITS FALSE NEIGHBOUR: 'it returns false'. Refute it at one input. -/
def fnExactPilotSignalWrong : ChangeSpec := { name := "fnExactPilotSignal", fn := fun _ => fun
  | [d1, d2, d3, d4] => { results := [.lit (.bool false)], args := [d1, d2, d3, d4] }
  | _ => none }
def FnExactPilotSignalWrongFalsely : Prop := fnExactPilotSignalRow.holds Try.pinned (OpenSpec.ofChange fnExactPilotSignalWrong)

/-- 'laws.FnExactScoreAt': WHATEVER THE INPUT: true; the input reads as it did. -/
def fnExactScoreAtSpec : ChangeSpec := { name := "fnExactScoreAt", fn := fun _ => fun
  | [d1, d2, d3] => { results := [.lit (.bool true)], args := [d1, d2, d3] }
  | _ => none }
def fnExactScoreAtRow : OpenClaim := { program := "ytcekjffkjhlieaa", sum := "bec80ac0620989dbf8f835356dbef69b1e5318d4e436c46dc903e6311d826093", func := "loop.example/spreadspectrum/laws.FnExactScoreAt", spec := "fnExactScoreAt", apart := false }
def FnExactScoreAtSaid : Prop := fnExactScoreAtRow.holds Try.pinned (OpenSpec.ofChange fnExactScoreAtSpec)

/-- ITS FALSE NEIGHBOUR: 'it returns false'. Refute it at one input. -/
def fnExactScoreAtWrong : ChangeSpec := { name := "fnExactScoreAt", fn := fun _ => fun
  | [d1, d2, d3] => { results := [.lit (.bool false)], args := [d1, d2, d3] }
  | _ => none }
def FnExactScoreAtWrongFalsely : Prop := fnExactScoreAtRow.holds Try.pinned (OpenSpec.ofChange fnExactScoreAtWrong)

/-- 'laws.FnExactEarlyLate': WHATEVER THE INPUT: true; the input reads as it did. -/
def fnExactEarlyLateSpec : ChangeSpec := { name := "fnExactEarlyLate", fn := fun _ => fun
  | [d1, d2, d3] => { results := [.lit (.bool true)], args := [d1, d2, d3] }
  | _ => none }
def fnExactEarlyLateRow : OpenClaim := { program := "ytcekjffkjhlieaa", sum := "bec80ac0620989dbf8f835356dbef69b1e5318d4e436c46dc903e6311d826093", func := "loop.example/spreadspectrum/laws.FnExactEarlyLate", spec := "fnExactEarlyLate", apart := false }
def FnExactEarlyLateSaid : Prop := fnExactEarlyLateRow.holds Try.pinned (OpenSpec.ofChange fnExactEarlyLateSpec)

/-- ITS FALSE NEIGHBOUR: 'it returns false'. Refute it at one input. -/
def fnExactEarlyLateWrong : ChangeSpec := { name := "fnExactEarlyLate", fn := fun _ => fun
  | [d1, d2, d3] => { results := [.lit (.bool false)], args := [d1, d2, d3] }
  | _ => none }
def FnExactEarlyLateWrongFalsely : Prop := fnExactEarlyLateRow.holds Try.pinned (OpenSpec.ofChange fnExactEarlyLateWrong)

/-- 'laws.FnExactVerifyOffset': WHATEVER THE INPUT: true; the input reads as it did. -/
def fnExactVerifyOffsetSpec : ChangeSpec := { name := "fnExactVerifyOffset", fn := fun _ => fun
  | [d1, d2, d3, d4, d5, d6] => { results := [.lit (.bool true)], args := [d1, d2, d3, d4, d5, d6] }
  | _ => none }
def fnExactVerifyOffsetRow : OpenClaim := { program := "ytcekjffkjhlieaa", sum := "bec80ac0620989dbf8f835356dbef69b1e5318d4e436c46dc903e6311d826093", func := "loop.example/spreadspectrum/laws.FnExactVerifyOffset", spec := "fnExactVerifyOffset", apart := false }
def FnExactVerifyOffsetSaid : Prop := fnExactVerifyOffsetRow.holds Try.pinned (OpenSpec.ofChange fnExactVerifyOffsetSpec)

/-- ITS FALSE NEIGHBOUR: 'it returns false'. Refute it at one input. -/
def fnExactVerifyOffsetWrong : ChangeSpec := { name := "fnExactVerifyOffset", fn := fun _ => fun
  | [d1, d2, d3, d4, d5, d6] => { results := [.lit (.bool false)], args := [d1, d2, d3, d4, d5, d6] }
  | _ => none }
def FnExactVerifyOffsetWrongFalsely : Prop := fnExactVerifyOffsetRow.holds Try.pinned (OpenSpec.ofChange fnExactVerifyOffsetWrong)

/-- 'laws.FnExactFirstOffset': WHATEVER THE INPUT: true; the input reads as it did. -/
def fnExactFirstOffsetSpec : ChangeSpec := { name := "fnExactFirstOffset", fn := fun _ => fun
  | [d1, d2, d3, d4] => { results := [.lit (.bool true)], args := [d1, d2, d3, d4] }
  | _ => none }
def fnExactFirstOffsetRow : OpenClaim := { program := "ytcekjffkjhlieaa", sum := "bec80ac0620989dbf8f835356dbef69b1e5318d4e436c46dc903e6311d826093", func := "loop.example/spreadspectrum/laws.FnExactFirstOffset", spec := "fnExactFirstOffset", apart := false }
def FnExactFirstOffsetSaid : Prop := fnExactFirstOffsetRow.holds Try.pinned (OpenSpec.ofChange fnExactFirstOffsetSpec)

/-- ITS FALSE NEIGHBOUR: 'it returns false'. Refute it at one input. -/
def fnExactFirstOffsetWrong : ChangeSpec := { name := "fnExactFirstOffset", fn := fun _ => fun
  | [d1, d2, d3, d4] => { results := [.lit (.bool false)], args := [d1, d2, d3, d4] }
  | _ => none }
def FnExactFirstOffsetWrongFalsely : Prop := fnExactFirstOffsetRow.holds Try.pinned (OpenSpec.ofChange fnExactFirstOffsetWrong)

/-- 'laws.FnExactScoreTable': WHATEVER THE INPUT: true; the input reads as it did. -/
def fnExactScoreTableSpec : ChangeSpec := { name := "fnExactScoreTable", fn := fun _ => fun
  | [d1, d2] => { results := [.lit (.bool true)], args := [d1, d2] }
  | _ => none }
def fnExactScoreTableRow : OpenClaim := { program := "ytcekjffkjhlieaa", sum := "bec80ac0620989dbf8f835356dbef69b1e5318d4e436c46dc903e6311d826093", func := "loop.example/spreadspectrum/laws.FnExactScoreTable", spec := "fnExactScoreTable", apart := false }
def FnExactScoreTableSaid : Prop := fnExactScoreTableRow.holds Try.pinned (OpenSpec.ofChange fnExactScoreTableSpec)

/-- ITS FALSE NEIGHBOUR: 'it returns false'. Refute it at one input. -/
def fnExactScoreTableWrong : ChangeSpec := { name := "fnExactScoreTable", fn := fun _ => fun
  | [d1, d2] => { results := [.lit (.bool false)], args := [d1, d2] }
  | _ => none }
def FnExactScoreTableWrongFalsely : Prop := fnExactScoreTableRow.holds Try.pinned (OpenSpec.ofChange fnExactScoreTableWrong)

/-- 'laws.FnExactBestOffset': WHATEVER THE INPUT: true; the input reads as it did. -/
def fnExactBestOffsetSpec : ChangeSpec := { name := "fnExactBestOffset", fn := fun _ => fun
  | [d1, d2] => { results := [.lit (.bool true)], args := [d1, d2] }
  | _ => none }
def fnExactBestOffsetRow : OpenClaim := { program := "ytcekjffkjhlieaa", sum := "bec80ac0620989dbf8f835356dbef69b1e5318d4e436c46dc903e6311d826093", func := "loop.example/spreadspectrum/laws.FnExactBestOffset", spec := "fnExactBestOffset", apart := false }
def FnExactBestOffsetSaid : Prop := fnExactBestOffsetRow.holds Try.pinned (OpenSpec.ofChange fnExactBestOffsetSpec)

/-- ITS FALSE NEIGHBOUR: 'it returns false'. Refute it at one input. -/
def fnExactBestOffsetWrong : ChangeSpec := { name := "fnExactBestOffset", fn := fun _ => fun
  | [d1, d2] => { results := [.lit (.bool false)], args := [d1, d2] }
  | _ => none }
def FnExactBestOffsetWrongFalsely : Prop := fnExactBestOffsetRow.holds Try.pinned (OpenSpec.ofChange fnExactBestOffsetWrong)

/-- 'laws.FnExactSearchTime': WHATEVER THE INPUT: true; the input reads as it did. -/
def fnExactSearchTimeSpec : ChangeSpec := { name := "fnExactSearchTime", fn := fun _ => fun
  | [d1, d2, d3, d4] => { results := [.lit (.bool true)], args := [d1, d2, d3, d4] }
  | _ => none }
def fnExactSearchTimeRow : OpenClaim := { program := "ytcekjffkjhlieaa", sum := "bec80ac0620989dbf8f835356dbef69b1e5318d4e436c46dc903e6311d826093", func := "loop.example/spreadspectrum/laws.FnExactSearchTime", spec := "fnExactSearchTime", apart := false }
def FnExactSearchTimeSaid : Prop := fnExactSearchTimeRow.holds Try.pinned (OpenSpec.ofChange fnExactSearchTimeSpec)

/-- ITS FALSE NEIGHBOUR: 'it returns false'. Refute it at one input. -/
def fnExactSearchTimeWrong : ChangeSpec := { name := "fnExactSearchTime", fn := fun _ => fun
  | [d1, d2, d3, d4] => { results := [.lit (.bool false)], args := [d1, d2, d3, d4] }
  | _ => none }
def FnExactSearchTimeWrongFalsely : Prop := fnExactSearchTimeRow.holds Try.pinned (OpenSpec.ofChange fnExactSearchTimeWrong)

/-- 'laws.FnExactTrackStep': WHATEVER THE INPUT: true; the input reads as it did. -/
def fnExactTrackStepSpec : ChangeSpec := { name := "fnExactTrackStep", fn := fun _ => fun
  | [d1, d2, d3] => { results := [.lit (.bool true)], args := [d1, d2, d3] }
  | _ => none }
def fnExactTrackStepRow : OpenClaim := { program := "ytcekjffkjhlieaa", sum := "bec80ac0620989dbf8f835356dbef69b1e5318d4e436c46dc903e6311d826093", func := "loop.example/spreadspectrum/laws.FnExactTrackStep", spec := "fnExactTrackStep", apart := false }
def FnExactTrackStepSaid : Prop := fnExactTrackStepRow.holds Try.pinned (OpenSpec.ofChange fnExactTrackStepSpec)

/-- ITS FALSE NEIGHBOUR: 'it returns false'. Refute it at one input. -/
def fnExactTrackStepWrong : ChangeSpec := { name := "fnExactTrackStep", fn := fun _ => fun
  | [d1, d2, d3] => { results := [.lit (.bool false)], args := [d1, d2, d3] }
  | _ => none }
def FnExactTrackStepWrongFalsely : Prop := fnExactTrackStepRow.holds Try.pinned (OpenSpec.ofChange fnExactTrackStepWrong)

/-- 'laws.FnExactLockedAt': WHATEVER THE INPUT: true; the input reads as it did. -/
def fnExactLockedAtSpec : ChangeSpec := { name := "fnExactLockedAt", fn := fun _ => fun
  | [d1, d2, d3, d4] => { results := [.lit (.bool true)], args := [d1, d2, d3, d4] }
  | _ => none }
def fnExactLockedAtRow : OpenClaim := { program := "ytcekjffkjhlieaa", sum := "bec80ac0620989dbf8f835356dbef69b1e5318d4e436c46dc903e6311d826093", func := "loop.example/spreadspectrum/laws.FnExactLockedAt", spec := "fnExactLockedAt", apart := false }
def FnExactLockedAtSaid : Prop := fnExactLockedAtRow.holds Try.pinned (OpenSpec.ofChange fnExactLockedAtSpec)

/-- ITS FALSE NEIGHBOUR: 'it returns false'. Refute it at one input. -/
def fnExactLockedAtWrong : ChangeSpec := { name := "fnExactLockedAt", fn := fun _ => fun
  | [d1, d2, d3, d4] => { results := [.lit (.bool false)], args := [d1, d2, d3, d4] }
  | _ => none }
def FnExactLockedAtWrongFalsely : Prop := fnExactLockedAtRow.holds Try.pinned (OpenSpec.ofChange fnExactLockedAtWrong)

/-- 'laws.FnExactTrackPath': WHATEVER THE INPUT: true; the input reads as it did. -/
def fnExactTrackPathSpec : ChangeSpec := { name := "fnExactTrackPath", fn := fun _ => fun
  | [d1, d2, d3, d4] => { results := [.lit (.bool true)], args := [d1, d2, d3, d4] }
  | _ => none }
def fnExactTrackPathRow : OpenClaim := { program := "ytcekjffkjhlieaa", sum := "bec80ac0620989dbf8f835356dbef69b1e5318d4e436c46dc903e6311d826093", func := "loop.example/spreadspectrum/laws.FnExactTrackPath", spec := "fnExactTrackPath", apart := false }
def FnExactTrackPathSaid : Prop := fnExactTrackPathRow.holds Try.pinned (OpenSpec.ofChange fnExactTrackPathSpec)

/-- ITS FALSE NEIGHBOUR: 'it returns false'. Refute it at one input. -/
def fnExactTrackPathWrong : ChangeSpec := { name := "fnExactTrackPath", fn := fun _ => fun
  | [d1, d2, d3, d4] => { results := [.lit (.bool false)], args := [d1, d2, d3, d4] }
  | _ => none }
def FnExactTrackPathWrongFalsely : Prop := fnExactTrackPathRow.holds Try.pinned (OpenSpec.ofChange fnExactTrackPathWrong)

/- THE SECOND FORM. 'bulk': how many values and letters a reading holds, each counted each time it is reached (what is shared counts as often as it is met; a slice's spare places count too). A statement '..UptoSaid' is the law's where the arguments, and the package variables that the reading takes, are together of bulk at most 1048576: NARROWER than '..Said'. Prove '..Said' where nothing that the law and all that it calls make is longer than what came in: it says more and counts as full. Else prove '..UptoSaid'. A law counts once. -/
mutual
def uptoBulk {H : Type} : DataW H → Nat
  | .lit (.string bytes) => bytes.length + 1
  | .lit _ => 1
  | .nil => 1
  | .ptr d => uptoBulk d + 1
  | .slice elems spare => uptoBulkAll elems + uptoBulkAll spare + 1
  | .agg parts => uptoBulkAll parts + 1
  | .iface _ d => uptoBulk d + 1
  | .map entries => uptoBulkEntries entries + 1
  | .held _ => 1
def uptoBulkAll {H : Type} : List (DataW H) → Nat
  | [] => 0
  | d :: r => uptoBulk d + uptoBulkAll r
def uptoBulkEntries {H : Type} : List (Lit × DataW H) → Nat
  | [] => 0
  | x :: r => uptoBulkEntry x + uptoBulkEntries r
def uptoBulkEntry {H : Type} : Lit × DataW H → Nat
  | (.string bytes, d) => bytes.length + uptoBulk d + 1
  | (_, d) => uptoBulk d + 1
 end
def uptoSmall : (H : Type) → List (DataW H) → Bool := fun _ ds => decide (uptoBulkAll ds ≤ 1048576)
def OpenSpec.upto (s : _root_.Go.ChangeSpec) : _root_.Go.OpenSpec := { _root_.Go.OpenSpec.ofChange s with cond := some uptoSmall }

/-- 'laws.FnExactPilotSignal', WHERE WHAT IT READS IS OF BULK AT MOST 1048576: true; the input reads as it did. -/
def fnExactPilotSignalUptoRow : OpenClaim := { program := "ytcekjffkjhlieaa", sum := "bec80ac0620989dbf8f835356dbef69b1e5318d4e436c46dc903e6311d826093", func := "loop.example/spreadspectrum/laws.FnExactPilotSignal", spec := "fnExactPilotSignal", apart := false, narrowed := true }
def FnExactPilotSignalUptoSaid : Prop := fnExactPilotSignalUptoRow.holds Try.pinned (OpenSpec.upto fnExactPilotSignalSpec)

/-- 'laws.FnExactScoreAt', WHERE WHAT IT READS IS OF BULK AT MOST 1048576: true; the input reads as it did. -/
def fnExactScoreAtUptoRow : OpenClaim := { program := "ytcekjffkjhlieaa", sum := "bec80ac0620989dbf8f835356dbef69b1e5318d4e436c46dc903e6311d826093", func := "loop.example/spreadspectrum/laws.FnExactScoreAt", spec := "fnExactScoreAt", apart := false, narrowed := true }
def FnExactScoreAtUptoSaid : Prop := fnExactScoreAtUptoRow.holds Try.pinned (OpenSpec.upto fnExactScoreAtSpec)

/-- 'laws.FnExactEarlyLate', WHERE WHAT IT READS IS OF BULK AT MOST 1048576: true; the input reads as it did. -/
def fnExactEarlyLateUptoRow : OpenClaim := { program := "ytcekjffkjhlieaa", sum := "bec80ac0620989dbf8f835356dbef69b1e5318d4e436c46dc903e6311d826093", func := "loop.example/spreadspectrum/laws.FnExactEarlyLate", spec := "fnExactEarlyLate", apart := false, narrowed := true }
def FnExactEarlyLateUptoSaid : Prop := fnExactEarlyLateUptoRow.holds Try.pinned (OpenSpec.upto fnExactEarlyLateSpec)

/-- 'laws.FnExactVerifyOffset', WHERE WHAT IT READS IS OF BULK AT MOST 1048576: true; the input reads as it did. -/
def fnExactVerifyOffsetUptoRow : OpenClaim := { program := "ytcekjffkjhlieaa", sum := "bec80ac0620989dbf8f835356dbef69b1e5318d4e436c46dc903e6311d826093", func := "loop.example/spreadspectrum/laws.FnExactVerifyOffset", spec := "fnExactVerifyOffset", apart := false, narrowed := true }
def FnExactVerifyOffsetUptoSaid : Prop := fnExactVerifyOffsetUptoRow.holds Try.pinned (OpenSpec.upto fnExactVerifyOffsetSpec)

/-- 'laws.FnExactFirstOffset', WHERE WHAT IT READS IS OF BULK AT MOST 1048576: true; the input reads as it did. -/
def fnExactFirstOffsetUptoRow : OpenClaim := { program := "ytcekjffkjhlieaa", sum := "bec80ac0620989dbf8f835356dbef69b1e5318d4e436c46dc903e6311d826093", func := "loop.example/spreadspectrum/laws.FnExactFirstOffset", spec := "fnExactFirstOffset", apart := false, narrowed := true }
def FnExactFirstOffsetUptoSaid : Prop := fnExactFirstOffsetUptoRow.holds Try.pinned (OpenSpec.upto fnExactFirstOffsetSpec)

/-- 'laws.FnExactScoreTable', WHERE WHAT IT READS IS OF BULK AT MOST 1048576: true; the input reads as it did. -/
def fnExactScoreTableUptoRow : OpenClaim := { program := "ytcekjffkjhlieaa", sum := "bec80ac0620989dbf8f835356dbef69b1e5318d4e436c46dc903e6311d826093", func := "loop.example/spreadspectrum/laws.FnExactScoreTable", spec := "fnExactScoreTable", apart := false, narrowed := true }
def FnExactScoreTableUptoSaid : Prop := fnExactScoreTableUptoRow.holds Try.pinned (OpenSpec.upto fnExactScoreTableSpec)

/-- 'laws.FnExactBestOffset', WHERE WHAT IT READS IS OF BULK AT MOST 1048576: true; the input reads as it did. -/
def fnExactBestOffsetUptoRow : OpenClaim := { program := "ytcekjffkjhlieaa", sum := "bec80ac0620989dbf8f835356dbef69b1e5318d4e436c46dc903e6311d826093", func := "loop.example/spreadspectrum/laws.FnExactBestOffset", spec := "fnExactBestOffset", apart := false, narrowed := true }
def FnExactBestOffsetUptoSaid : Prop := fnExactBestOffsetUptoRow.holds Try.pinned (OpenSpec.upto fnExactBestOffsetSpec)

/-- 'laws.FnExactSearchTime', WHERE WHAT IT READS IS OF BULK AT MOST 1048576: true; the input reads as it did. -/
def fnExactSearchTimeUptoRow : OpenClaim := { program := "ytcekjffkjhlieaa", sum := "bec80ac0620989dbf8f835356dbef69b1e5318d4e436c46dc903e6311d826093", func := "loop.example/spreadspectrum/laws.FnExactSearchTime", spec := "fnExactSearchTime", apart := false, narrowed := true }
def FnExactSearchTimeUptoSaid : Prop := fnExactSearchTimeUptoRow.holds Try.pinned (OpenSpec.upto fnExactSearchTimeSpec)

/-- 'laws.FnExactTrackStep', WHERE WHAT IT READS IS OF BULK AT MOST 1048576: true; the input reads as it did. -/
def fnExactTrackStepUptoRow : OpenClaim := { program := "ytcekjffkjhlieaa", sum := "bec80ac0620989dbf8f835356dbef69b1e5318d4e436c46dc903e6311d826093", func := "loop.example/spreadspectrum/laws.FnExactTrackStep", spec := "fnExactTrackStep", apart := false, narrowed := true }
def FnExactTrackStepUptoSaid : Prop := fnExactTrackStepUptoRow.holds Try.pinned (OpenSpec.upto fnExactTrackStepSpec)

/-- 'laws.FnExactLockedAt', WHERE WHAT IT READS IS OF BULK AT MOST 1048576: true; the input reads as it did. -/
def fnExactLockedAtUptoRow : OpenClaim := { program := "ytcekjffkjhlieaa", sum := "bec80ac0620989dbf8f835356dbef69b1e5318d4e436c46dc903e6311d826093", func := "loop.example/spreadspectrum/laws.FnExactLockedAt", spec := "fnExactLockedAt", apart := false, narrowed := true }
def FnExactLockedAtUptoSaid : Prop := fnExactLockedAtUptoRow.holds Try.pinned (OpenSpec.upto fnExactLockedAtSpec)

/-- 'laws.FnExactTrackPath', WHERE WHAT IT READS IS OF BULK AT MOST 1048576: true; the input reads as it did. -/
def fnExactTrackPathUptoRow : OpenClaim := { program := "ytcekjffkjhlieaa", sum := "bec80ac0620989dbf8f835356dbef69b1e5318d4e436c46dc903e6311d826093", func := "loop.example/spreadspectrum/laws.FnExactTrackPath", spec := "fnExactTrackPath", apart := false, narrowed := true }
def FnExactTrackPathUptoSaid : Prop := fnExactTrackPathUptoRow.holds Try.pinned (OpenSpec.upto fnExactTrackPathSpec)

end Rows
end Go.Proofs.Ytcekjffkjhlieaa
