/-
  No cell of these rows narrows 'for every input' (looked for: loops, veiled, ifaces, maps, wideKeys, modest, calm, conditions, laid).
  DERIVED. THE GIVEN ROWS OF THIS SEAT. 3 by the template 'for every input the law returns true; each argument reads behind the call as it read before'; 0 by the template 'total and deterministic' (their statements: YtfcnpbcnpielcaaTotals.lean).
  GIVEN WITH THE SEED: the statements are not yours to turn. If you find one false, say at which input.
  Laid BY PROGRAM, IN A SANDBOX (cutbox-rows.mjs): the forced cells as the released guide's own fill.sh prints them over the translation 6e2b4572a2c83757… (all of the seat's roots in one cut). By AI agents, Wed Nov 11 2026. No macro, syntax, notation, axiom, sorry.
-/
import Derived.Test.YtfcnpbcnpielcaaChecked
import GoSem.Claim
import GoSem.ClaimJoined
import GoSem.ClaimMapViews
import Derived.JoinedTies
import Derived.KernelRfl
namespace Go.Proofs.Ytfcnpbcnpielcaa
/- THE CELL 'sum', in the pinned program and in every row, IS THE sha256 OF THE DUMP (.gsa) THAT YtfcnpbcnpielcaaProg.lean LOADS. Nothing in Lean hashes anything: it is a label: what it is worth is what the hold of that sum in a sandbox is worth. -/
noncomputable def Try.pinned : Pinned := { name := "ytfcnpbcnpielcaa", sum := "6e2b4572a2c8375744fd671a1197bd399659aa431bf8fc872de00deae36528e8", checked := Try.checked }
namespace Rows
def none {H : Type} : Left H := { results := [], args := [] }

/-- 'laws.FnExactDropSample': WHATEVER THE INPUT: true; the input reads as it did. -/
def fnExactDropSampleSpec : ChangeSpec := { name := "fnExactDropSample", fn := fun _ => fun
  | [d1, d2] => { results := [.lit (.bool true)], args := [d1, d2] }
  | _ => none }
def fnExactDropSampleRow : OpenClaim := { program := "ytfcnpbcnpielcaa", sum := "6e2b4572a2c8375744fd671a1197bd399659aa431bf8fc872de00deae36528e8", func := "loop.example/spreadspectrum/laws.FnExactDropSample", spec := "fnExactDropSample", apart := false }
def FnExactDropSampleSaid : Prop := fnExactDropSampleRow.holds Try.pinned (OpenSpec.ofChange fnExactDropSampleSpec)

/-- ITS FALSE NEIGHBOUR: 'it returns false'. Refute it at one input. -/
def fnExactDropSampleWrong : ChangeSpec := { name := "fnExactDropSample", fn := fun _ => fun
  | [d1, d2] => { results := [.lit (.bool false)], args := [d1, d2] }
  | _ => none }
def FnExactDropSampleWrongFalsely : Prop := fnExactDropSampleRow.holds Try.pinned (OpenSpec.ofChange fnExactDropSampleWrong)

/-- 'laws.FnExactRepeatSample': WHATEVER THE INPUT: true; the input reads as it did. -/
def fnExactRepeatSampleSpec : ChangeSpec := { name := "fnExactRepeatSample", fn := fun _ => fun
  | [d1, d2] => { results := [.lit (.bool true)], args := [d1, d2] }
  | _ => none }
def fnExactRepeatSampleRow : OpenClaim := { program := "ytfcnpbcnpielcaa", sum := "6e2b4572a2c8375744fd671a1197bd399659aa431bf8fc872de00deae36528e8", func := "loop.example/spreadspectrum/laws.FnExactRepeatSample", spec := "fnExactRepeatSample", apart := false }
def FnExactRepeatSampleSaid : Prop := fnExactRepeatSampleRow.holds Try.pinned (OpenSpec.ofChange fnExactRepeatSampleSpec)

/-- ITS FALSE NEIGHBOUR: 'it returns false'. Refute it at one input. -/
def fnExactRepeatSampleWrong : ChangeSpec := { name := "fnExactRepeatSample", fn := fun _ => fun
  | [d1, d2] => { results := [.lit (.bool false)], args := [d1, d2] }
  | _ => none }
def FnExactRepeatSampleWrongFalsely : Prop := fnExactRepeatSampleRow.holds Try.pinned (OpenSpec.ofChange fnExactRepeatSampleWrong)

/-- 'laws.FnExactAllFrames': WHATEVER THE INPUT: true; the input reads as it did. -/
def fnExactAllFramesSpec : ChangeSpec := { name := "fnExactAllFrames", fn := fun _ => fun
  | [d] => { results := [.lit (.bool true)], args := [d] }
  | _ => none }
def fnExactAllFramesRow : OpenClaim := { program := "ytfcnpbcnpielcaa", sum := "6e2b4572a2c8375744fd671a1197bd399659aa431bf8fc872de00deae36528e8", func := "loop.example/spreadspectrum/laws.FnExactAllFrames", spec := "fnExactAllFrames", recurses := true, apart := false }
def FnExactAllFramesSaid : Prop := fnExactAllFramesRow.holds Try.pinned (OpenSpec.ofChange fnExactAllFramesSpec)

/-- ITS FALSE NEIGHBOUR: 'it returns false'. Refute it at one input. -/
def fnExactAllFramesWrong : ChangeSpec := { name := "fnExactAllFrames", fn := fun _ => fun
  | [d] => { results := [.lit (.bool false)], args := [d] }
  | _ => none }
def FnExactAllFramesWrongFalsely : Prop := fnExactAllFramesRow.holds Try.pinned (OpenSpec.ofChange fnExactAllFramesWrong)

/- THE SECOND FORM. 'bulk': how many values and letters a reading holds, each counted each time it is reached (what is shared counts as often as it is met; a slice's spare places count too). A statement '..UptoSaid' is the law's where the arguments, and the package variables that the reading takes, are together of bulk at most 1048576: NARROWER than '..Said'. Prove '..Said' where nothing that the law and all that it calls make is longer than what came in: it says more and counts as full. Else prove '..UptoSaid'. A law counts once. -/
mutual
def uptoBulk {H : Type} : DataW H → Nat
  | .lit (.string bytes) => bytes.length + 1
  | .lit _ => 1
  | .nil => 1
  | .ptr d => uptoBulk d + 1
  | .slice elems spare => uptoBulkAll elems + uptoBulkAll spare + 1
  | .agg parts => uptoBulkAll parts + 1
  | .iface _ d => uptoBulk d + 1
  | .map entries => uptoBulkEntries entries + 1
  | .held _ => 1
def uptoBulkAll {H : Type} : List (DataW H) → Nat
  | [] => 0
  | d :: r => uptoBulk d + uptoBulkAll r
def uptoBulkEntries {H : Type} : List (Lit × DataW H) → Nat
  | [] => 0
  | x :: r => uptoBulkEntry x + uptoBulkEntries r
def uptoBulkEntry {H : Type} : Lit × DataW H → Nat
  | (.string bytes, d) => bytes.length + uptoBulk d + 1
  | (_, d) => uptoBulk d + 1
 end
def uptoSmall : (H : Type) → List (DataW H) → Bool := fun _ ds => decide (uptoBulkAll ds ≤ 1048576)
def OpenSpec.upto (s : _root_.Go.ChangeSpec) : _root_.Go.OpenSpec := { _root_.Go.OpenSpec.ofChange s with cond := some uptoSmall }

/-- 'laws.FnExactDropSample', WHERE WHAT IT READS IS OF BULK AT MOST 1048576: true; the input reads as it did. -/
def fnExactDropSampleUptoRow : OpenClaim := { program := "ytfcnpbcnpielcaa", sum := "6e2b4572a2c8375744fd671a1197bd399659aa431bf8fc872de00deae36528e8", func := "loop.example/spreadspectrum/laws.FnExactDropSample", spec := "fnExactDropSample", apart := false, narrowed := true }
def FnExactDropSampleUptoSaid : Prop := fnExactDropSampleUptoRow.holds Try.pinned (OpenSpec.upto fnExactDropSampleSpec)

/-- 'laws.FnExactRepeatSample', WHERE WHAT IT READS IS OF BULK AT MOST 1048576: true; the input reads as it did. -/
def fnExactRepeatSampleUptoRow : OpenClaim := { program := "ytfcnpbcnpielcaa", sum := "6e2b4572a2c8375744fd671a1197bd399659aa431bf8fc872de00deae36528e8", func := "loop.example/spreadspectrum/laws.FnExactRepeatSample", spec := "fnExactRepeatSample", apart := false, narrowed := true }
def FnExactRepeatSampleUptoSaid : Prop := fnExactRepeatSampleUptoRow.holds Try.pinned (OpenSpec.upto fnExactRepeatSampleSpec)

/-- 'laws.FnExactAllFrames', WHERE WHAT IT READS IS OF BULK AT MOST 1048576: true; the input reads as it did. -/
def fnExactAllFramesUptoRow : OpenClaim := { program := "ytfcnpbcnpielcaa", sum := "6e2b4572a2c8375744fd671a1197bd399659aa431bf8fc872de00deae36528e8", func := "loop.example/spreadspectrum/laws.FnExactAllFrames", spec := "fnExactAllFrames", recurses := true, apart := false, narrowed := true }
def FnExactAllFramesUptoSaid : Prop := fnExactAllFramesUptoRow.holds Try.pinned (OpenSpec.upto fnExactAllFramesSpec)

end Rows
end Go.Proofs.Ytfcnpbcnpielcaa
