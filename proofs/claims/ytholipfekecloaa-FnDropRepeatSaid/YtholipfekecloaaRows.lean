/-
  No cell of these rows narrows 'for every input' (looked for: loops, veiled, ifaces, maps, wideKeys, modest, calm, conditions, laid).
  DERIVED. THE GIVEN ROWS OF THIS SEAT. 7 by the template 'for every input the law returns true; each argument reads behind the call as it read before'; 0 by the template 'total and deterministic' (their statements: YtholipfekecloaaTotals.lean).
  GIVEN WITH THE SEED: the statements are not yours to turn. If you find one false, say at which input.
  Laid BY PROGRAM, IN A SANDBOX (cutbox-rows.mjs): the forced cells as the released guide's own fill.sh prints them over the translation 60f6ca69218fe524… (all of the seat's roots in one cut). By AI agents, Wed Nov 11 2026. No macro, syntax, notation, axiom, sorry.
-/
import Derived.Test.YtholipfekecloaaChecked
import GoSem.Claim
import GoSem.ClaimJoined
import GoSem.ClaimMapViews
import Derived.JoinedTies
import Derived.KernelRfl
namespace Go.Proofs.Ytholipfekecloaa
/- THE CELL 'sum', in the pinned program and in every row, IS THE sha256 OF THE DUMP (.gsa) THAT YtholipfekecloaaProg.lean LOADS. Nothing in Lean hashes anything: it is a label: what it is worth is what the hold of that sum in a sandbox is worth. -/
noncomputable def Try.pinned : Pinned := { name := "ytholipfekecloaa", sum := "60f6ca69218fe524e112bf703103b0a5901ac02e8222522f482f5087c57c5e14", checked := Try.checked }
namespace Rows
def none {H : Type} : Left H := { results := [], args := [] }

/-- 'laws.FnDistance': WHATEVER THE INPUT: true; the input reads as it did. -/
def fnDistanceSpec : ChangeSpec := { name := "fnDistance", fn := fun _ => fun
  | [d1, d2] => { results := [.lit (.bool true)], args := [d1, d2] }
  | _ => none }
def fnDistanceRow : OpenClaim := { program := "ytholipfekecloaa", sum := "60f6ca69218fe524e112bf703103b0a5901ac02e8222522f482f5087c57c5e14", func := "loop.example/spreadspectrum/laws.FnDistance", spec := "fnDistance", apart := false }
def FnDistanceSaid : Prop := fnDistanceRow.holds Try.pinned (OpenSpec.ofChange fnDistanceSpec)

/-- ITS FALSE NEIGHBOUR: 'it returns false'. Refute it at one input. -/
def fnDistanceWrong : ChangeSpec := { name := "fnDistance", fn := fun _ => fun
  | [d1, d2] => { results := [.lit (.bool false)], args := [d1, d2] }
  | _ => none }
def FnDistanceWrongFalsely : Prop := fnDistanceRow.holds Try.pinned (OpenSpec.ofChange fnDistanceWrong)

/-- 'laws.FnPilot': WHATEVER THE INPUT: true; the input reads as it did. -/
def fnPilotSpec : ChangeSpec := { name := "fnPilot", fn := fun _ => fun
  | [d] => { results := [.lit (.bool true)], args := [d] }
  | _ => none }
def fnPilotRow : OpenClaim := { program := "ytholipfekecloaa", sum := "60f6ca69218fe524e112bf703103b0a5901ac02e8222522f482f5087c57c5e14", func := "loop.example/spreadspectrum/laws.FnPilot", spec := "fnPilot", apart := false }
def FnPilotSaid : Prop := fnPilotRow.holds Try.pinned (OpenSpec.ofChange fnPilotSpec)

/-- ITS FALSE NEIGHBOUR: 'it returns false'. Refute it at one input. -/
def fnPilotWrong : ChangeSpec := { name := "fnPilot", fn := fun _ => fun
  | [d] => { results := [.lit (.bool false)], args := [d] }
  | _ => none }
def FnPilotWrongFalsely : Prop := fnPilotRow.holds Try.pinned (OpenSpec.ofChange fnPilotWrong)

/-- 'laws.FnDropRepeat': WHATEVER THE INPUT: true; the input reads as it did. -/
def fnDropRepeatSpec : ChangeSpec := { name := "fnDropRepeat", fn := fun _ => fun
  | [d1, d2] => { results := [.lit (.bool true)], args := [d1, d2] }
  | _ => none }
def fnDropRepeatRow : OpenClaim := { program := "ytholipfekecloaa", sum := "60f6ca69218fe524e112bf703103b0a5901ac02e8222522f482f5087c57c5e14", func := "loop.example/spreadspectrum/laws.FnDropRepeat", spec := "fnDropRepeat", apart := false }
def FnDropRepeatSaid : Prop := fnDropRepeatRow.holds Try.pinned (OpenSpec.ofChange fnDropRepeatSpec)

/-- ITS FALSE NEIGHBOUR: 'it returns false'. Refute it at one input. -/
def fnDropRepeatWrong : ChangeSpec := { name := "fnDropRepeat", fn := fun _ => fun
  | [d1, d2] => { results := [.lit (.bool false)], args := [d1, d2] }
  | _ => none }
def FnDropRepeatWrongFalsely : Prop := fnDropRepeatRow.holds Try.pinned (OpenSpec.ofChange fnDropRepeatWrong)

/-- 'laws.FnEarlyLate': WHATEVER THE INPUT: true; the input reads as it did. -/
def fnEarlyLateSpec : ChangeSpec := { name := "fnEarlyLate", fn := fun _ => fun
  | [d] => { results := [.lit (.bool true)], args := [d] }
  | _ => none }
def fnEarlyLateRow : OpenClaim := { program := "ytholipfekecloaa", sum := "60f6ca69218fe524e112bf703103b0a5901ac02e8222522f482f5087c57c5e14", func := "loop.example/spreadspectrum/laws.FnEarlyLate", spec := "fnEarlyLate", apart := false }
def FnEarlyLateSaid : Prop := fnEarlyLateRow.holds Try.pinned (OpenSpec.ofChange fnEarlyLateSpec)

/-- ITS FALSE NEIGHBOUR: 'it returns false'. Refute it at one input. -/
def fnEarlyLateWrong : ChangeSpec := { name := "fnEarlyLate", fn := fun _ => fun
  | [d] => { results := [.lit (.bool false)], args := [d] }
  | _ => none }
def FnEarlyLateWrongFalsely : Prop := fnEarlyLateRow.holds Try.pinned (OpenSpec.ofChange fnEarlyLateWrong)

/-- 'laws.FnVerify': WHATEVER THE INPUT: true; the input reads as it did. -/
def fnVerifySpec : ChangeSpec := { name := "fnVerify", fn := fun _ => fun
  | [d] => { results := [.lit (.bool true)], args := [d] }
  | _ => none }
def fnVerifyRow : OpenClaim := { program := "ytholipfekecloaa", sum := "60f6ca69218fe524e112bf703103b0a5901ac02e8222522f482f5087c57c5e14", func := "loop.example/spreadspectrum/laws.FnVerify", spec := "fnVerify", apart := false }
def FnVerifySaid : Prop := fnVerifyRow.holds Try.pinned (OpenSpec.ofChange fnVerifySpec)

/-- ITS FALSE NEIGHBOUR: 'it returns false'. Refute it at one input. -/
def fnVerifyWrong : ChangeSpec := { name := "fnVerify", fn := fun _ => fun
  | [d] => { results := [.lit (.bool false)], args := [d] }
  | _ => none }
def FnVerifyWrongFalsely : Prop := fnVerifyRow.holds Try.pinned (OpenSpec.ofChange fnVerifyWrong)

/-- 'laws.FnFirstOffset': WHATEVER THE INPUT: true; the input reads as it did. -/
def fnFirstOffsetSpec : ChangeSpec := { name := "fnFirstOffset", fn := fun _ => fun
  | [d] => { results := [.lit (.bool true)], args := [d] }
  | _ => none }
def fnFirstOffsetRow : OpenClaim := { program := "ytholipfekecloaa", sum := "60f6ca69218fe524e112bf703103b0a5901ac02e8222522f482f5087c57c5e14", func := "loop.example/spreadspectrum/laws.FnFirstOffset", spec := "fnFirstOffset", apart := false }
def FnFirstOffsetSaid : Prop := fnFirstOffsetRow.holds Try.pinned (OpenSpec.ofChange fnFirstOffsetSpec)

/-- ITS FALSE NEIGHBOUR: 'it returns false'. Refute it at one input. -/
def fnFirstOffsetWrong : ChangeSpec := { name := "fnFirstOffset", fn := fun _ => fun
  | [d] => { results := [.lit (.bool false)], args := [d] }
  | _ => none }
def FnFirstOffsetWrongFalsely : Prop := fnFirstOffsetRow.holds Try.pinned (OpenSpec.ofChange fnFirstOffsetWrong)

/-- 'laws.FnBestOffset': WHATEVER THE INPUT: true; the input reads as it did. -/
def fnBestOffsetSpec : ChangeSpec := { name := "fnBestOffset", fn := fun _ => fun
  | [d1, d2] => { results := [.lit (.bool true)], args := [d1, d2] }
  | _ => none }
def fnBestOffsetRow : OpenClaim := { program := "ytholipfekecloaa", sum := "60f6ca69218fe524e112bf703103b0a5901ac02e8222522f482f5087c57c5e14", func := "loop.example/spreadspectrum/laws.FnBestOffset", spec := "fnBestOffset", apart := false }
def FnBestOffsetSaid : Prop := fnBestOffsetRow.holds Try.pinned (OpenSpec.ofChange fnBestOffsetSpec)

/-- ITS FALSE NEIGHBOUR: 'it returns false'. Refute it at one input. -/
def fnBestOffsetWrong : ChangeSpec := { name := "fnBestOffset", fn := fun _ => fun
  | [d1, d2] => { results := [.lit (.bool false)], args := [d1, d2] }
  | _ => none }
def FnBestOffsetWrongFalsely : Prop := fnBestOffsetRow.holds Try.pinned (OpenSpec.ofChange fnBestOffsetWrong)

/- THE SECOND FORM. 'bulk': how many values and letters a reading holds, each counted each time it is reached (what is shared counts as often as it is met; a slice's spare places count too). A statement '..UptoSaid' is the law's where the arguments, and the package variables that the reading takes, are together of bulk at most 1048576: NARROWER than '..Said'. Prove '..Said' where nothing that the law and all that it calls make is longer than what came in: it says more and counts as full. Else prove '..UptoSaid'. A law counts once. -/
mutual
def uptoBulk {H : Type} : DataW H → Nat
  | .lit (.string bytes) => bytes.length + 1
  | .lit _ => 1
  | .nil => 1
  | .ptr d => uptoBulk d + 1
  | .slice elems spare => uptoBulkAll elems + uptoBulkAll spare + 1
  | .agg parts => uptoBulkAll parts + 1
  | .iface _ d => uptoBulk d + 1
  | .map entries => uptoBulkEntries entries + 1
  | .held _ => 1
def uptoBulkAll {H : Type} : List (DataW H) → Nat
  | [] => 0
  | d :: r => uptoBulk d + uptoBulkAll r
def uptoBulkEntries {H : Type} : List (Lit × DataW H) → Nat
  | [] => 0
  | x :: r => uptoBulkEntry x + uptoBulkEntries r
def uptoBulkEntry {H : Type} : Lit × DataW H → Nat
  | (.string bytes, d) => bytes.length + uptoBulk d + 1
  | (_, d) => uptoBulk d + 1
 end
def uptoSmall : (H : Type) → List (DataW H) → Bool := fun _ ds => decide (uptoBulkAll ds ≤ 1048576)
def OpenSpec.upto (s : _root_.Go.ChangeSpec) : _root_.Go.OpenSpec := { _root_.Go.OpenSpec.ofChange s with cond := some uptoSmall }

/-- 'laws.FnDistance', WHERE WHAT IT READS IS OF BULK AT MOST 1048576: true; the input reads as it did. -/
def fnDistanceUptoRow : OpenClaim := { program := "ytholipfekecloaa", sum := "60f6ca69218fe524e112bf703103b0a5901ac02e8222522f482f5087c57c5e14", func := "loop.example/spreadspectrum/laws.FnDistance", spec := "fnDistance", apart := false, narrowed := true }
def FnDistanceUptoSaid : Prop := fnDistanceUptoRow.holds Try.pinned (OpenSpec.upto fnDistanceSpec)

/-- 'laws.FnPilot', WHERE WHAT IT READS IS OF BULK AT MOST 1048576: true; the input reads as it did. -/
def fnPilotUptoRow : OpenClaim := { program := "ytholipfekecloaa", sum := "60f6ca69218fe524e112bf703103b0a5901ac02e8222522f482f5087c57c5e14", func := "loop.example/spreadspectrum/laws.FnPilot", spec := "fnPilot", apart := false, narrowed := true }
def FnPilotUptoSaid : Prop := fnPilotUptoRow.holds Try.pinned (OpenSpec.upto fnPilotSpec)

/-- 'laws.FnDropRepeat', WHERE WHAT IT READS IS OF BULK AT MOST 1048576: true; the input reads as it did. -/
def fnDropRepeatUptoRow : OpenClaim := { program := "ytholipfekecloaa", sum := "60f6ca69218fe524e112bf703103b0a5901ac02e8222522f482f5087c57c5e14", func := "loop.example/spreadspectrum/laws.FnDropRepeat", spec := "fnDropRepeat", apart := false, narrowed := true }
def FnDropRepeatUptoSaid : Prop := fnDropRepeatUptoRow.holds Try.pinned (OpenSpec.upto fnDropRepeatSpec)

/-- 'laws.FnEarlyLate', WHERE WHAT IT READS IS OF BULK AT MOST 1048576: true; the input reads as it did. -/
def fnEarlyLateUptoRow : OpenClaim := { program := "ytholipfekecloaa", sum := "60f6ca69218fe524e112bf703103b0a5901ac02e8222522f482f5087c57c5e14", func := "loop.example/spreadspectrum/laws.FnEarlyLate", spec := "fnEarlyLate", apart := false, narrowed := true }
def FnEarlyLateUptoSaid : Prop := fnEarlyLateUptoRow.holds Try.pinned (OpenSpec.upto fnEarlyLateSpec)

/-- 'laws.FnVerify', WHERE WHAT IT READS IS OF BULK AT MOST 1048576: true; the input reads as it did. -/
def fnVerifyUptoRow : OpenClaim := { program := "ytholipfekecloaa", sum := "60f6ca69218fe524e112bf703103b0a5901ac02e8222522f482f5087c57c5e14", func := "loop.example/spreadspectrum/laws.FnVerify", spec := "fnVerify", apart := false, narrowed := true }
def FnVerifyUptoSaid : Prop := fnVerifyUptoRow.holds Try.pinned (OpenSpec.upto fnVerifySpec)

/-- 'laws.FnFirstOffset', WHERE WHAT IT READS IS OF BULK AT MOST 1048576: true; the input reads as it did. -/
def fnFirstOffsetUptoRow : OpenClaim := { program := "ytholipfekecloaa", sum := "60f6ca69218fe524e112bf703103b0a5901ac02e8222522f482f5087c57c5e14", func := "loop.example/spreadspectrum/laws.FnFirstOffset", spec := "fnFirstOffset", apart := false, narrowed := true }
def FnFirstOffsetUptoSaid : Prop := fnFirstOffsetUptoRow.holds Try.pinned (OpenSpec.upto fnFirstOffsetSpec)

/-- 'laws.FnBestOffset', WHERE WHAT IT READS IS OF BULK AT MOST 1048576: true; the input reads as it did. -/
def fnBestOffsetUptoRow : OpenClaim := { program := "ytholipfekecloaa", sum := "60f6ca69218fe524e112bf703103b0a5901ac02e8222522f482f5087c57c5e14", func := "loop.example/spreadspectrum/laws.FnBestOffset", spec := "fnBestOffset", apart := false, narrowed := true }
def FnBestOffsetUptoSaid : Prop := fnBestOffsetUptoRow.holds Try.pinned (OpenSpec.upto fnBestOffsetSpec)

end Rows
end Go.Proofs.Ytholipfekecloaa
