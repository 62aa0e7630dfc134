/-
  No cell of these rows narrows 'for every input' (looked for: loops, veiled, ifaces, maps, wideKeys, modest, calm, conditions, laid).
  DERIVED. THE GIVEN ROWS OF THIS SEAT. 12 by the template 'for every input the law returns true; each argument reads behind the call as it read before'; 0 by the template 'total and deterministic' (their statements: YtmfblphnedoejaaTotals.lean).
  GIVEN WITH THE SEED: the statements are not yours to turn. If you find one false, say at which input.
  Laid BY PROGRAM, IN A SANDBOX (cutbox-rows.mjs): the forced cells as the released guide's own fill.sh prints them over the translation 10932ab4c8ca7424… (all of the seat's roots in one cut). By AI agents, Wed Nov 11 2026. No macro, syntax, notation, axiom, sorry.
-/
import Derived.Test.YtmfblphnedoejaaChecked
import GoSem.Claim
import GoSem.ClaimJoined
import GoSem.ClaimMapViews
import Derived.JoinedTies
import Derived.KernelRfl
namespace Go.Proofs.Ytmfblphnedoejaa
/- THE CELL 'sum', in the pinned program and in every row, IS THE sha256 OF THE DUMP (.gsa) THAT YtmfblphnedoejaaProg.lean LOADS. Nothing in Lean hashes anything: it is a label: what it is worth is what the hold of that sum in a sandbox is worth. -/
noncomputable def Try.pinned : Pinned := { name := "ytmfblphnedoejaa", sum := "10932ab4c8ca74240b5f96e62445f4309495824062387f4c71a880b9d990adfa", checked := Try.checked }
namespace Rows
def none {H : Type} : Left H := { results := [], args := [] }

/-- 'laws.FnInterleave': WHATEVER THE INPUT: true; the input reads as it did. -/
def fnInterleaveSpec : ChangeSpec := { name := "fnInterleave", fn := fun _ => fun
  | [d] => { results := [.lit (.bool true)], args := [d] }
  | _ => none }
def fnInterleaveRow : OpenClaim := { program := "ytmfblphnedoejaa", sum := "10932ab4c8ca74240b5f96e62445f4309495824062387f4c71a880b9d990adfa", func := "loop.example/spreadspectrum/laws.FnInterleave", spec := "fnInterleave", apart := false }
def FnInterleaveSaid : Prop := fnInterleaveRow.holds Try.pinned (OpenSpec.ofChange fnInterleaveSpec)

/-- ITS FALSE NEIGHBOUR: 'it returns false'. Refute it at one input. -/
def fnInterleaveWrong : ChangeSpec := { name := "fnInterleave", fn := fun _ => fun
  | [d] => { results := [.lit (.bool false)], args := [d] }
  | _ => none }
def FnInterleaveWrongFalsely : Prop := fnInterleaveRow.holds Try.pinned (OpenSpec.ofChange fnInterleaveWrong)

/-- 'laws.FnDiff': WHATEVER THE INPUT: true; the input reads as it did. -/
def fnDiffSpec : ChangeSpec := { name := "fnDiff", fn := fun _ => fun
  | [d] => { results := [.lit (.bool true)], args := [d] }
  | _ => none }
def fnDiffRow : OpenClaim := { program := "ytmfblphnedoejaa", sum := "10932ab4c8ca74240b5f96e62445f4309495824062387f4c71a880b9d990adfa", func := "loop.example/spreadspectrum/laws.FnDiff", spec := "fnDiff", apart := false }
def FnDiffSaid : Prop := fnDiffRow.holds Try.pinned (OpenSpec.ofChange fnDiffSpec)

/-- ITS FALSE NEIGHBOUR: 'it returns false'. Refute it at one input. -/
def fnDiffWrong : ChangeSpec := { name := "fnDiff", fn := fun _ => fun
  | [d] => { results := [.lit (.bool false)], args := [d] }
  | _ => none }
def FnDiffWrongFalsely : Prop := fnDiffRow.holds Try.pinned (OpenSpec.ofChange fnDiffWrong)

/-- 'laws.FnCrcDetects': WHATEVER THE INPUT: true; the input reads as it did. -/
def fnCrcDetectsSpec : ChangeSpec := { name := "fnCrcDetects", fn := fun _ => fun
  | [d1, d2] => { results := [.lit (.bool true)], args := [d1, d2] }
  | _ => none }
def fnCrcDetectsRow : OpenClaim := { program := "ytmfblphnedoejaa", sum := "10932ab4c8ca74240b5f96e62445f4309495824062387f4c71a880b9d990adfa", func := "loop.example/spreadspectrum/laws.FnCrcDetects", spec := "fnCrcDetects", recurses := true, apart := false }
def FnCrcDetectsSaid : Prop := fnCrcDetectsRow.holds Try.pinned (OpenSpec.ofChange fnCrcDetectsSpec)

/-- ITS FALSE NEIGHBOUR: 'it returns false'. Refute it at one input. -/
def fnCrcDetectsWrong : ChangeSpec := { name := "fnCrcDetects", fn := fun _ => fun
  | [d1, d2] => { results := [.lit (.bool false)], args := [d1, d2] }
  | _ => none }
def FnCrcDetectsWrongFalsely : Prop := fnCrcDetectsRow.holds Try.pinned (OpenSpec.ofChange fnCrcDetectsWrong)

/-- 'laws.FnCrcSum': WHATEVER THE INPUT: true; the input reads as it did. -/
def fnCrcSumSpec : ChangeSpec := { name := "fnCrcSum", fn := fun _ => fun
  | [d] => { results := [.lit (.bool true)], args := [d] }
  | _ => none }
def fnCrcSumRow : OpenClaim := { program := "ytmfblphnedoejaa", sum := "10932ab4c8ca74240b5f96e62445f4309495824062387f4c71a880b9d990adfa", func := "loop.example/spreadspectrum/laws.FnCrcSum", spec := "fnCrcSum", recurses := true, apart := false }
def FnCrcSumSaid : Prop := fnCrcSumRow.holds Try.pinned (OpenSpec.ofChange fnCrcSumSpec)

/-- ITS FALSE NEIGHBOUR: 'it returns false'. Refute it at one input. -/
def fnCrcSumWrong : ChangeSpec := { name := "fnCrcSum", fn := fun _ => fun
  | [d] => { results := [.lit (.bool false)], args := [d] }
  | _ => none }
def FnCrcSumWrongFalsely : Prop := fnCrcSumRow.holds Try.pinned (OpenSpec.ofChange fnCrcSumWrong)

/-- 'laws.FnSyndrome': WHATEVER THE INPUT: true; the input reads as it did. -/
def fnSyndromeSpec : ChangeSpec := { name := "fnSyndrome", fn := fun _ => fun
  | [d1, d2] => { results := [.lit (.bool true)], args := [d1, d2] }
  | _ => none }
def fnSyndromeRow : OpenClaim := { program := "ytmfblphnedoejaa", sum := "10932ab4c8ca74240b5f96e62445f4309495824062387f4c71a880b9d990adfa", func := "loop.example/spreadspectrum/laws.FnSyndrome", spec := "fnSyndrome", recurses := true, apart := false }
def FnSyndromeSaid : Prop := fnSyndromeRow.holds Try.pinned (OpenSpec.ofChange fnSyndromeSpec)

/-- ITS FALSE NEIGHBOUR: 'it returns false'. Refute it at one input. -/
def fnSyndromeWrong : ChangeSpec := { name := "fnSyndrome", fn := fun _ => fun
  | [d1, d2] => { results := [.lit (.bool false)], args := [d1, d2] }
  | _ => none }
def FnSyndromeWrongFalsely : Prop := fnSyndromeRow.holds Try.pinned (OpenSpec.ofChange fnSyndromeWrong)

/-- 'laws.FnHammingCorrects': WHATEVER THE INPUT: true; the input reads as it did. -/
def fnHammingCorrectsSpec : ChangeSpec := { name := "fnHammingCorrects", fn := fun _ => fun
  | [d1, d2] => { results := [.lit (.bool true)], args := [d1, d2] }
  | _ => none }
def fnHammingCorrectsRow : OpenClaim := { program := "ytmfblphnedoejaa", sum := "10932ab4c8ca74240b5f96e62445f4309495824062387f4c71a880b9d990adfa", func := "loop.example/spreadspectrum/laws.FnHammingCorrects", spec := "fnHammingCorrects", recurses := true, apart := false }
def FnHammingCorrectsSaid : Prop := fnHammingCorrectsRow.holds Try.pinned (OpenSpec.ofChange fnHammingCorrectsSpec)

/-- ITS FALSE NEIGHBOUR: 'it returns false'. Refute it at one input. -/
def fnHammingCorrectsWrong : ChangeSpec := { name := "fnHammingCorrects", fn := fun _ => fun
  | [d1, d2] => { results := [.lit (.bool false)], args := [d1, d2] }
  | _ => none }
def FnHammingCorrectsWrongFalsely : Prop := fnHammingCorrectsRow.holds Try.pinned (OpenSpec.ofChange fnHammingCorrectsWrong)

/-- 'laws.FnFrameChange': WHATEVER THE INPUT: true; the input reads as it did. -/
def fnFrameChangeSpec : ChangeSpec := { name := "fnFrameChange", fn := fun _ => fun
  | [d] => { results := [.lit (.bool true)], args := [d] }
  | _ => none }
def fnFrameChangeRow : OpenClaim := { program := "ytmfblphnedoejaa", sum := "10932ab4c8ca74240b5f96e62445f4309495824062387f4c71a880b9d990adfa", func := "loop.example/spreadspectrum/laws.FnFrameChange", spec := "fnFrameChange", recurses := true, apart := false }
def FnFrameChangeSaid : Prop := fnFrameChangeRow.holds Try.pinned (OpenSpec.ofChange fnFrameChangeSpec)

/-- ITS FALSE NEIGHBOUR: 'it returns false'. Refute it at one input. -/
def fnFrameChangeWrong : ChangeSpec := { name := "fnFrameChange", fn := fun _ => fun
  | [d] => { results := [.lit (.bool false)], args := [d] }
  | _ => none }
def FnFrameChangeWrongFalsely : Prop := fnFrameChangeRow.holds Try.pinned (OpenSpec.ofChange fnFrameChangeWrong)

/-- 'laws.FnFrame': WHATEVER THE INPUT: true; the input reads as it did. -/
def fnFrameSpec : ChangeSpec := { name := "fnFrame", fn := fun _ => fun
  | [d1, d2] => { results := [.lit (.bool true)], args := [d1, d2] }
  | _ => none }
def fnFrameRow : OpenClaim := { program := "ytmfblphnedoejaa", sum := "10932ab4c8ca74240b5f96e62445f4309495824062387f4c71a880b9d990adfa", func := "loop.example/spreadspectrum/laws.FnFrame", spec := "fnFrame", recurses := true, apart := false }
def FnFrameSaid : Prop := fnFrameRow.holds Try.pinned (OpenSpec.ofChange fnFrameSpec)

/-- ITS FALSE NEIGHBOUR: 'it returns false'. Refute it at one input. -/
def fnFrameWrong : ChangeSpec := { name := "fnFrame", fn := fun _ => fun
  | [d1, d2] => { results := [.lit (.bool false)], args := [d1, d2] }
  | _ => none }
def FnFrameWrongFalsely : Prop := fnFrameRow.holds Try.pinned (OpenSpec.ofChange fnFrameWrong)

/-- 'laws.FnScramble': WHATEVER THE INPUT: true; the input reads as it did. -/
def fnScrambleSpec : ChangeSpec := { name := "fnScramble", fn := fun _ => fun
  | [d] => { results := [.lit (.bool true)], args := [d] }
  | _ => none }
def fnScrambleRow : OpenClaim := { program := "ytmfblphnedoejaa", sum := "10932ab4c8ca74240b5f96e62445f4309495824062387f4c71a880b9d990adfa", func := "loop.example/spreadspectrum/laws.FnScramble", spec := "fnScramble", apart := false }
def FnScrambleSaid : Prop := fnScrambleRow.holds Try.pinned (OpenSpec.ofChange fnScrambleSpec)

/-- ITS FALSE NEIGHBOUR: 'it returns false'. Refute it at one input. -/
def fnScrambleWrong : ChangeSpec := { name := "fnScramble", fn := fun _ => fun
  | [d] => { results := [.lit (.bool false)], args := [d] }
  | _ => none }
def FnScrambleWrongFalsely : Prop := fnScrambleRow.holds Try.pinned (OpenSpec.ofChange fnScrambleWrong)

/-- 'laws.FnHammingDecode': WHATEVER THE INPUT: true; the input reads as it did. -/
def fnHammingDecodeSpec : ChangeSpec := { name := "fnHammingDecode", fn := fun _ => fun
  | [d] => { results := [.lit (.bool true)], args := [d] }
  | _ => none }
def fnHammingDecodeRow : OpenClaim := { program := "ytmfblphnedoejaa", sum := "10932ab4c8ca74240b5f96e62445f4309495824062387f4c71a880b9d990adfa", func := "loop.example/spreadspectrum/laws.FnHammingDecode", spec := "fnHammingDecode", recurses := true, apart := false }
def FnHammingDecodeSaid : Prop := fnHammingDecodeRow.holds Try.pinned (OpenSpec.ofChange fnHammingDecodeSpec)

/-- ITS FALSE NEIGHBOUR: 'it returns false'. Refute it at one input. -/
def fnHammingDecodeWrong : ChangeSpec := { name := "fnHammingDecode", fn := fun _ => fun
  | [d] => { results := [.lit (.bool false)], args := [d] }
  | _ => none }
def FnHammingDecodeWrongFalsely : Prop := fnHammingDecodeRow.holds Try.pinned (OpenSpec.ofChange fnHammingDecodeWrong)

/-- 'laws.FnMajority': WHATEVER THE INPUT: true; the input reads as it did. -/
def fnMajoritySpec : ChangeSpec := { name := "fnMajority", fn := fun _ => fun
  | [d1, d2] => { results := [.lit (.bool true)], args := [d1, d2] }
  | _ => none }
def fnMajorityRow : OpenClaim := { program := "ytmfblphnedoejaa", sum := "10932ab4c8ca74240b5f96e62445f4309495824062387f4c71a880b9d990adfa", func := "loop.example/spreadspectrum/laws.FnMajority", spec := "fnMajority", inPlace := ["internal/bytealg.CountString", "internal/bytealg.IndexByteString", "internal/bytealg.IndexString"], named := ["internal/bytealg.MaxLen"], apart := false }
def FnMajoritySaid : Prop := fnMajorityRow.holds Try.pinned (OpenSpec.ofChange fnMajoritySpec)

/-- ITS FALSE NEIGHBOUR: 'it returns false'. Refute it at one input. -/
def fnMajorityWrong : ChangeSpec := { name := "fnMajority", fn := fun _ => fun
  | [d1, d2] => { results := [.lit (.bool false)], args := [d1, d2] }
  | _ => none }
def FnMajorityWrongFalsely : Prop := fnMajorityRow.holds Try.pinned (OpenSpec.ofChange fnMajorityWrong)

/-- 'laws.FnFindFrame': WHATEVER THE INPUT: true; the input reads as it did. -/
def fnFindFrameSpec : ChangeSpec := { name := "fnFindFrame", fn := fun _ => fun
  | [d] => { results := [.lit (.bool true)], args := [d] }
  | _ => none }
def fnFindFrameRow : OpenClaim := { program := "ytmfblphnedoejaa", sum := "10932ab4c8ca74240b5f96e62445f4309495824062387f4c71a880b9d990adfa", func := "loop.example/spreadspectrum/laws.FnFindFrame", spec := "fnFindFrame", recurses := true, apart := false }
def FnFindFrameSaid : Prop := fnFindFrameRow.holds Try.pinned (OpenSpec.ofChange fnFindFrameSpec)

/-- ITS FALSE NEIGHBOUR: 'it returns false'. Refute it at one input. -/
def fnFindFrameWrong : ChangeSpec := { name := "fnFindFrame", fn := fun _ => fun
  | [d] => { results := [.lit (.bool false)], args := [d] }
  | _ => none }
def FnFindFrameWrongFalsely : Prop := fnFindFrameRow.holds Try.pinned (OpenSpec.ofChange fnFindFrameWrong)

/- THE SECOND FORM. 'bulk': how many values and letters a reading holds, each counted each time it is reached (what is shared counts as often as it is met; a slice's spare places count too). A statement '..UptoSaid' is the law's where the arguments, and the package variables that the reading takes, are together of bulk at most 1048576: NARROWER than '..Said'. Prove '..Said' where nothing that the law and all that it calls make is longer than what came in: it says more and counts as full. Else prove '..UptoSaid'. A law counts once. -/
mutual
def uptoBulk {H : Type} : DataW H → Nat
  | .lit (.string bytes) => bytes.length + 1
  | .lit _ => 1
  | .nil => 1
  | .ptr d => uptoBulk d + 1
  | .slice elems spare => uptoBulkAll elems + uptoBulkAll spare + 1
  | .agg parts => uptoBulkAll parts + 1
  | .iface _ d => uptoBulk d + 1
  | .map entries => uptoBulkEntries entries + 1
  | .held _ => 1
def uptoBulkAll {H : Type} : List (DataW H) → Nat
  | [] => 0
  | d :: r => uptoBulk d + uptoBulkAll r
def uptoBulkEntries {H : Type} : List (Lit × DataW H) → Nat
  | [] => 0
  | x :: r => uptoBulkEntry x + uptoBulkEntries r
def uptoBulkEntry {H : Type} : Lit × DataW H → Nat
  | (.string bytes, d) => bytes.length + uptoBulk d + 1
  | (_, d) => uptoBulk d + 1
 end
def uptoSmall : (H : Type) → List (DataW H) → Bool := fun _ ds => decide (uptoBulkAll ds ≤ 1048576)
def OpenSpec.upto (s : _root_.Go.ChangeSpec) : _root_.Go.OpenSpec := { _root_.Go.OpenSpec.ofChange s with cond := some uptoSmall }

/-- 'laws.FnInterleave', WHERE WHAT IT READS IS OF BULK AT MOST 1048576: true; the input reads as it did. -/
def fnInterleaveUptoRow : OpenClaim := { program := "ytmfblphnedoejaa", sum := "10932ab4c8ca74240b5f96e62445f4309495824062387f4c71a880b9d990adfa", func := "loop.example/spreadspectrum/laws.FnInterleave", spec := "fnInterleave", apart := false, narrowed := true }
def FnInterleaveUptoSaid : Prop := fnInterleaveUptoRow.holds Try.pinned (OpenSpec.upto fnInterleaveSpec)

/-- 'laws.FnDiff', WHERE WHAT IT READS IS OF BULK AT MOST 1048576: true; the input reads as it did. -/
def fnDiffUptoRow : OpenClaim := { program := "ytmfblphnedoejaa", sum := "10932ab4c8ca74240b5f96e62445f4309495824062387f4c71a880b9d990adfa", func := "loop.example/spreadspectrum/laws.FnDiff", spec := "fnDiff", apart := false, narrowed := true }
def FnDiffUptoSaid : Prop := fnDiffUptoRow.holds Try.pinned (OpenSpec.upto fnDiffSpec)

/-- 'laws.FnCrcDetects', WHERE WHAT IT READS IS OF BULK AT MOST 1048576: true; the input reads as it did. -/
def fnCrcDetectsUptoRow : OpenClaim := { program := "ytmfblphnedoejaa", sum := "10932ab4c8ca74240b5f96e62445f4309495824062387f4c71a880b9d990adfa", func := "loop.example/spreadspectrum/laws.FnCrcDetects", spec := "fnCrcDetects", recurses := true, apart := false, narrowed := true }
def FnCrcDetectsUptoSaid : Prop := fnCrcDetectsUptoRow.holds Try.pinned (OpenSpec.upto fnCrcDetectsSpec)

/-- 'laws.FnCrcSum', WHERE WHAT IT READS IS OF BULK AT MOST 1048576: true; the input reads as it did. -/
def fnCrcSumUptoRow : OpenClaim := { program := "ytmfblphnedoejaa", sum := "10932ab4c8ca74240b5f96e62445f4309495824062387f4c71a880b9d990adfa", func := "loop.example/spreadspectrum/laws.FnCrcSum", spec := "fnCrcSum", recurses := true, apart := false, narrowed := true }
def FnCrcSumUptoSaid : Prop := fnCrcSumUptoRow.holds Try.pinned (OpenSpec.upto fnCrcSumSpec)

/-- 'laws.FnSyndrome', WHERE WHAT IT READS IS OF BULK AT MOST 1048576: true; the input reads as it did. -/
def fnSyndromeUptoRow : OpenClaim := { program := "ytmfblphnedoejaa", sum := "10932ab4c8ca74240b5f96e62445f4309495824062387f4c71a880b9d990adfa", func := "loop.example/spreadspectrum/laws.FnSyndrome", spec := "fnSyndrome", recurses := true, apart := false, narrowed := true }
def FnSyndromeUptoSaid : Prop := fnSyndromeUptoRow.holds Try.pinned (OpenSpec.upto fnSyndromeSpec)

/-- 'laws.FnHammingCorrects', WHERE WHAT IT READS IS OF BULK AT MOST 1048576: true; the input reads as it did. -/
def fnHammingCorrectsUptoRow : OpenClaim := { program := "ytmfblphnedoejaa", sum := "10932ab4c8ca74240b5f96e62445f4309495824062387f4c71a880b9d990adfa", func := "loop.example/spreadspectrum/laws.FnHammingCorrects", spec := "fnHammingCorrects", recurses := true, apart := false, narrowed := true }
def FnHammingCorrectsUptoSaid : Prop := fnHammingCorrectsUptoRow.holds Try.pinned (OpenSpec.upto fnHammingCorrectsSpec)

/-- 'laws.FnFrameChange', WHERE WHAT IT READS IS OF BULK AT MOST 1048576: true; the input reads as it did. -/
def fnFrameChangeUptoRow : OpenClaim := { program := "ytmfblphnedoejaa", sum := "10932ab4c8ca74240b5f96e62445f4309495824062387f4c71a880b9d990adfa", func := "loop.example/spreadspectrum/laws.FnFrameChange", spec := "fnFrameChange", recurses := true, apart := false, narrowed := true }
def FnFrameChangeUptoSaid : Prop := fnFrameChangeUptoRow.holds Try.pinned (OpenSpec.upto fnFrameChangeSpec)

/-- 'laws.FnFrame', WHERE WHAT IT READS IS OF BULK AT MOST 1048576: true; the input reads as it did. -/
def fnFrameUptoRow : OpenClaim := { program := "ytmfblphnedoejaa", sum := "10932ab4c8ca74240b5f96e62445f4309495824062387f4c71a880b9d990adfa", func := "loop.example/spreadspectrum/laws.FnFrame", spec := "fnFrame", recurses := true, apart := false, narrowed := true }
def FnFrameUptoSaid : Prop := fnFrameUptoRow.holds Try.pinned (OpenSpec.upto fnFrameSpec)

/-- 'laws.FnScramble', WHERE WHAT IT READS IS OF BULK AT MOST 1048576: true; the input reads as it did. -/
def fnScrambleUptoRow : OpenClaim := { program := "ytmfblphnedoejaa", sum := "10932ab4c8ca74240b5f96e62445f4309495824062387f4c71a880b9d990adfa", func := "loop.example/spreadspectrum/laws.FnScramble", spec := "fnScramble", apart := false, narrowed := true }
def FnScrambleUptoSaid : Prop := fnScrambleUptoRow.holds Try.pinned (OpenSpec.upto fnScrambleSpec)

/-- 'laws.FnHammingDecode', WHERE WHAT IT READS IS OF BULK AT MOST 1048576: true; the input reads as it did. -/
def fnHammingDecodeUptoRow : OpenClaim := { program := "ytmfblphnedoejaa", sum := "10932ab4c8ca74240b5f96e62445f4309495824062387f4c71a880b9d990adfa", func := "loop.example/spreadspectrum/laws.FnHammingDecode", spec := "fnHammingDecode", recurses := true, apart := false, narrowed := true }
def FnHammingDecodeUptoSaid : Prop := fnHammingDecodeUptoRow.holds Try.pinned (OpenSpec.upto fnHammingDecodeSpec)

/-- 'laws.FnMajority', WHERE WHAT IT READS IS OF BULK AT MOST 1048576: true; the input reads as it did. -/
def fnMajorityUptoRow : OpenClaim := { program := "ytmfblphnedoejaa", sum := "10932ab4c8ca74240b5f96e62445f4309495824062387f4c71a880b9d990adfa", func := "loop.example/spreadspectrum/laws.FnMajority", spec := "fnMajority", inPlace := ["internal/bytealg.CountString", "internal/bytealg.IndexByteString", "internal/bytealg.IndexString"], named := ["internal/bytealg.MaxLen"], apart := false, narrowed := true }
def FnMajorityUptoSaid : Prop := fnMajorityUptoRow.holds Try.pinned (OpenSpec.upto fnMajoritySpec)

/-- 'laws.FnFindFrame', WHERE WHAT IT READS IS OF BULK AT MOST 1048576: true; the input reads as it did. -/
def fnFindFrameUptoRow : OpenClaim := { program := "ytmfblphnedoejaa", sum := "10932ab4c8ca74240b5f96e62445f4309495824062387f4c71a880b9d990adfa", func := "loop.example/spreadspectrum/laws.FnFindFrame", spec := "fnFindFrame", recurses := true, apart := false, narrowed := true }
def FnFindFrameUptoSaid : Prop := fnFindFrameUptoRow.holds Try.pinned (OpenSpec.upto fnFindFrameSpec)

end Rows
end Go.Proofs.Ytmfblphnedoejaa
