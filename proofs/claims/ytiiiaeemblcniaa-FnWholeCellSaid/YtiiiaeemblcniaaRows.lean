/-
  No cell of these rows narrows 'for every input' (looked for: loops, veiled, ifaces, maps, wideKeys, modest, calm, conditions, laid).
  DERIVED. THE GIVEN ROWS OF THIS SEAT. 5 by the template 'for every input the law returns true; each argument reads behind the call as it read before'; 0 by the template 'total and deterministic' (their statements: YtiiiaeemblcniaaTotals.lean).
  GIVEN WITH THE SEED: the statements are not yours to turn. If you find one false, say at which input.
  Laid BY PROGRAM, IN A SANDBOX (cutbox-rows.mjs): the forced cells as the released guide's own fill.sh prints them over the translation a93e409fa1679a52… (all of the seat's roots in one cut). By AI agents, Wed Nov 11 2026. No macro, syntax, notation, axiom, sorry.
-/
import Derived.Test.YtiiiaeemblcniaaChecked
import GoSem.Claim
import GoSem.ClaimJoined
import GoSem.ClaimMapViews
import Derived.JoinedTies
import Derived.KernelRfl
namespace Go.Proofs.Ytiiiaeemblcniaa
/- THE CELL 'sum', in the pinned program and in every row, IS THE sha256 OF THE DUMP (.gsa) THAT YtiiiaeemblcniaaProg.lean LOADS. Nothing in Lean hashes anything: it is a label: what it is worth is what the hold of that sum in a sandbox is worth. -/
noncomputable def Try.pinned : Pinned := { name := "ytiiiaeemblcniaa", sum := "a93e409fa1679a52ab0296e04f4cd45f719191b38ccf0d8cd6eef476ac2902a0", checked := Try.checked }
namespace Rows
def none {H : Type} : Left H := { results := [], args := [] }

/-- 'laws.FnReceiveBits': WHATEVER THE INPUT: true; the input reads as it did. -/
def fnReceiveBitsSpec : ChangeSpec := { name := "fnReceiveBits", fn := fun _ => fun
  | [d] => { results := [.lit (.bool true)], args := [d] }
  | _ => none }
def fnReceiveBitsRow : OpenClaim := { program := "ytiiiaeemblcniaa", sum := "a93e409fa1679a52ab0296e04f4cd45f719191b38ccf0d8cd6eef476ac2902a0", func := "loop.example/spreadspectrum/laws.FnReceiveBits", spec := "fnReceiveBits", apart := false }
def FnReceiveBitsSaid : Prop := fnReceiveBitsRow.holds Try.pinned (OpenSpec.ofChange fnReceiveBitsSpec)

/-- ITS FALSE NEIGHBOUR: 'it returns false'. Refute it at one input. -/
def fnReceiveBitsWrong : ChangeSpec := { name := "fnReceiveBits", fn := fun _ => fun
  | [d] => { results := [.lit (.bool false)], args := [d] }
  | _ => none }
def FnReceiveBitsWrongFalsely : Prop := fnReceiveBitsRow.holds Try.pinned (OpenSpec.ofChange fnReceiveBitsWrong)

/-- 'laws.FnRake': WHATEVER THE INPUT: true; the input reads as it did. -/
def fnRakeSpec : ChangeSpec := { name := "fnRake", fn := fun _ => fun
  | [d] => { results := [.lit (.bool true)], args := [d] }
  | _ => none }
def fnRakeRow : OpenClaim := { program := "ytiiiaeemblcniaa", sum := "a93e409fa1679a52ab0296e04f4cd45f719191b38ccf0d8cd6eef476ac2902a0", func := "loop.example/spreadspectrum/laws.FnRake", spec := "fnRake", apart := false }
def FnRakeSaid : Prop := fnRakeRow.holds Try.pinned (OpenSpec.ofChange fnRakeSpec)

/-- ITS FALSE NEIGHBOUR: 'it returns false'. Refute it at one input. -/
def fnRakeWrong : ChangeSpec := { name := "fnRake", fn := fun _ => fun
  | [d] => { results := [.lit (.bool false)], args := [d] }
  | _ => none }
def FnRakeWrongFalsely : Prop := fnRakeRow.holds Try.pinned (OpenSpec.ofChange fnRakeWrong)

/-- 'laws.FnMargin': WHATEVER THE INPUT: true; the input reads as it did. -/
def fnMarginSpec : ChangeSpec := { name := "fnMargin", fn := fun _ => fun
  | [d] => { results := [.lit (.bool true)], args := [d] }
  | _ => none }
def fnMarginRow : OpenClaim := { program := "ytiiiaeemblcniaa", sum := "a93e409fa1679a52ab0296e04f4cd45f719191b38ccf0d8cd6eef476ac2902a0", func := "loop.example/spreadspectrum/laws.FnMargin", spec := "fnMargin", apart := false }
def FnMarginSaid : Prop := fnMarginRow.holds Try.pinned (OpenSpec.ofChange fnMarginSpec)

/-- ITS FALSE NEIGHBOUR: 'it returns false'. Refute it at one input. -/
def fnMarginWrong : ChangeSpec := { name := "fnMargin", fn := fun _ => fun
  | [d] => { results := [.lit (.bool false)], args := [d] }
  | _ => none }
def FnMarginWrongFalsely : Prop := fnMarginRow.holds Try.pinned (OpenSpec.ofChange fnMarginWrong)

/-- 'laws.FnWholeCell': WHATEVER THE INPUT: true; the input reads as it did. -/
def fnWholeCellSpec : ChangeSpec := { name := "fnWholeCell", fn := fun _ => fun
  | [d1, d2] => { results := [.lit (.bool true)], args := [d1, d2] }
  | _ => none }
def fnWholeCellRow : OpenClaim := { program := "ytiiiaeemblcniaa", sum := "a93e409fa1679a52ab0296e04f4cd45f719191b38ccf0d8cd6eef476ac2902a0", func := "loop.example/spreadspectrum/laws.FnWholeCell", spec := "fnWholeCell", apart := false }
def FnWholeCellSaid : Prop := fnWholeCellRow.holds Try.pinned (OpenSpec.ofChange fnWholeCellSpec)

/-- ITS FALSE NEIGHBOUR: 'it returns false'. Refute it at one input. -/
def fnWholeCellWrong : ChangeSpec := { name := "fnWholeCell", fn := fun _ => fun
  | [d1, d2] => { results := [.lit (.bool false)], args := [d1, d2] }
  | _ => none }
def FnWholeCellWrongFalsely : Prop := fnWholeCellRow.holds Try.pinned (OpenSpec.ofChange fnWholeCellWrong)

/-- 'laws.FnDespreadSum': WHATEVER THE INPUT: true; the input reads as it did. -/
def fnDespreadSumSpec : ChangeSpec := { name := "fnDespreadSum", fn := fun _ => fun
  | [d1, d2] => { results := [.lit (.bool true)], args := [d1, d2] }
  | _ => none }
def fnDespreadSumRow : OpenClaim := { program := "ytiiiaeemblcniaa", sum := "a93e409fa1679a52ab0296e04f4cd45f719191b38ccf0d8cd6eef476ac2902a0", func := "loop.example/spreadspectrum/laws.FnDespreadSum", spec := "fnDespreadSum", apart := false }
def FnDespreadSumSaid : Prop := fnDespreadSumRow.holds Try.pinned (OpenSpec.ofChange fnDespreadSumSpec)

/-- ITS FALSE NEIGHBOUR: 'it returns false'. Refute it at one input. -/
def fnDespreadSumWrong : ChangeSpec := { name := "fnDespreadSum", fn := fun _ => fun
  | [d1, d2] => { results := [.lit (.bool false)], args := [d1, d2] }
  | _ => none }
def FnDespreadSumWrongFalsely : Prop := fnDespreadSumRow.holds Try.pinned (OpenSpec.ofChange fnDespreadSumWrong)

/- THE SECOND FORM. 'bulk': how many values and letters a reading holds, each counted each time it is reached (what is shared counts as often as it is met; a slice's spare places count too). A statement '..UptoSaid' is the law's where the arguments, and the package variables that the reading takes, are together of bulk at most 1048576: NARROWER than '..Said'. Prove '..Said' where nothing that the law and all that it calls make is longer than what came in: it says more and counts as full. Else prove '..UptoSaid'. A law counts once. -/
mutual
def uptoBulk {H : Type} : DataW H → Nat
  | .lit (.string bytes) => bytes.length + 1
  | .lit _ => 1
  | .nil => 1
  | .ptr d => uptoBulk d + 1
  | .slice elems spare => uptoBulkAll elems + uptoBulkAll spare + 1
  | .agg parts => uptoBulkAll parts + 1
  | .iface _ d => uptoBulk d + 1
  | .map entries => uptoBulkEntries entries + 1
  | .held _ => 1
def uptoBulkAll {H : Type} : List (DataW H) → Nat
  | [] => 0
  | d :: r => uptoBulk d + uptoBulkAll r
def uptoBulkEntries {H : Type} : List (Lit × DataW H) → Nat
  | [] => 0
  | x :: r => uptoBulkEntry x + uptoBulkEntries r
def uptoBulkEntry {H : Type} : Lit × DataW H → Nat
  | (.string bytes, d) => bytes.length + uptoBulk d + 1
  | (_, d) => uptoBulk d + 1
 end
def uptoSmall : (H : Type) → List (DataW H) → Bool := fun _ ds => decide (uptoBulkAll ds ≤ 1048576)
def OpenSpec.upto (s : _root_.Go.ChangeSpec) : _root_.Go.OpenSpec := { _root_.Go.OpenSpec.ofChange s with cond := some uptoSmall }

/-- 'laws.FnReceiveBits', WHERE WHAT IT READS IS OF BULK AT MOST 1048576: true; the input reads as it did. -/
def fnReceiveBitsUptoRow : OpenClaim := { program := "ytiiiaeemblcniaa", sum := "a93e409fa1679a52ab0296e04f4cd45f719191b38ccf0d8cd6eef476ac2902a0", func := "loop.example/spreadspectrum/laws.FnReceiveBits", spec := "fnReceiveBits", apart := false, narrowed := true }
def FnReceiveBitsUptoSaid : Prop := fnReceiveBitsUptoRow.holds Try.pinned (OpenSpec.upto fnReceiveBitsSpec)

/-- 'laws.FnRake', WHERE WHAT IT READS IS OF BULK AT MOST 1048576: true; the input reads as it did. -/
def fnRakeUptoRow : OpenClaim := { program := "ytiiiaeemblcniaa", sum := "a93e409fa1679a52ab0296e04f4cd45f719191b38ccf0d8cd6eef476ac2902a0", func := "loop.example/spreadspectrum/laws.FnRake", spec := "fnRake", apart := false, narrowed := true }
def FnRakeUptoSaid : Prop := fnRakeUptoRow.holds Try.pinned (OpenSpec.upto fnRakeSpec)

/-- 'laws.FnMargin', WHERE WHAT IT READS IS OF BULK AT MOST 1048576: true; the input reads as it did. -/
def fnMarginUptoRow : OpenClaim := { program := "ytiiiaeemblcniaa", sum := "a93e409fa1679a52ab0296e04f4cd45f719191b38ccf0d8cd6eef476ac2902a0", func := "loop.example/spreadspectrum/laws.FnMargin", spec := "fnMargin", apart := false, narrowed := true }
def FnMarginUptoSaid : Prop := fnMarginUptoRow.holds Try.pinned (OpenSpec.upto fnMarginSpec)

/-- 'laws.FnWholeCell', WHERE WHAT IT READS IS OF BULK AT MOST 1048576: true; the input reads as it did. -/
def fnWholeCellUptoRow : OpenClaim := { program := "ytiiiaeemblcniaa", sum := "a93e409fa1679a52ab0296e04f4cd45f719191b38ccf0d8cd6eef476ac2902a0", func := "loop.example/spreadspectrum/laws.FnWholeCell", spec := "fnWholeCell", apart := false, narrowed := true }
def FnWholeCellUptoSaid : Prop := fnWholeCellUptoRow.holds Try.pinned (OpenSpec.upto fnWholeCellSpec)

/-- 'laws.FnDespreadSum', WHERE WHAT IT READS IS OF BULK AT MOST 1048576: true; the input reads as it did. -/
def fnDespreadSumUptoRow : OpenClaim := { program := "ytiiiaeemblcniaa", sum := "a93e409fa1679a52ab0296e04f4cd45f719191b38ccf0d8cd6eef476ac2902a0", func := "loop.example/spreadspectrum/laws.FnDespreadSum", spec := "fnDespreadSum", apart := false, narrowed := true }
def FnDespreadSumUptoSaid : Prop := fnDespreadSumUptoRow.holds Try.pinned (OpenSpec.upto fnDespreadSumSpec)

end Rows
end Go.Proofs.Ytiiiaeemblcniaa
