/-
  No cell of these rows narrows 'for every input' (looked for: loops, veiled, ifaces, maps, wideKeys, modest, calm, conditions, laid).
  DERIVED. THE GIVEN ROWS OF THIS SEAT. 12 by the template 'for every input the law returns true; each argument reads behind the call as it read before'; 0 by the template 'total and deterministic' (their statements: YtiijpnojckiocaaTotals.lean).
  GIVEN WITH THE SEED: the statements are not yours to turn. If you find one false, say at which input.
  Laid BY PROGRAM, IN A SANDBOX (cutbox-rows.mjs): the forced cells as the released guide's own fill.sh prints them over the translation 0b75fc3ef757c5ab… (all of the seat's roots in one cut). By AI agents, Wed Nov 11 2026. No macro, syntax, notation, axiom, sorry.
-/
import Derived.Test.YtiijpnojckiocaaChecked
import GoSem.Claim
import GoSem.ClaimJoined
import GoSem.ClaimMapViews
import Derived.JoinedTies
import Derived.KernelRfl
namespace Go.Proofs.Ytiijpnojckiocaa
/- THE CELL 'sum', in the pinned program and in every row, IS THE sha256 OF THE DUMP (.gsa) THAT YtiijpnojckiocaaProg.lean LOADS. Nothing in Lean hashes anything: it is a label: what it is worth is what the hold of that sum in a sandbox is worth. -/
noncomputable def Try.pinned : Pinned := { name := "ytiijpnojckiocaa", sum := "0b75fc3ef757c5ab75af01f68e1209360dd4603f205030bd56114b1c2e360453", checked := Try.checked }
namespace Rows
def none {H : Type} : Left H := { results := [], args := [] }

/-- 'laws.FnExactPilotValid': WHATEVER THE INPUT: true; the input reads as it did. -/
def fnExactPilotValidSpec : ChangeSpec := { name := "fnExactPilotValid", fn := fun _ => fun
  | [d] => { results := [.lit (.bool true)], args := [d] }
  | _ => none }
def fnExactPilotValidRow : OpenClaim := { program := "ytiijpnojckiocaa", sum := "0b75fc3ef757c5ab75af01f68e1209360dd4603f205030bd56114b1c2e360453", func := "loop.example/spreadspectrum/laws.FnExactPilotValid", spec := "fnExactPilotValid", apart := false }
def FnExactPilotValidSaid : Prop := fnExactPilotValidRow.holds Try.pinned (OpenSpec.ofChange fnExactPilotValidSpec)

/-- ITS FALSE NEIGHBOUR: 'it returns false'. Refute it at one input. -/
def fnExactPilotValidWrong : ChangeSpec := { name := "fnExactPilotValid", fn := fun _ => fun
  | [d] => { results := [.lit (.bool false)], args := [d] }
  | _ => none }
def FnExactPilotValidWrongFalsely : Prop := fnExactPilotValidRow.holds Try.pinned (OpenSpec.ofChange fnExactPilotValidWrong)

/-- 'laws.FnExactDeinterleaveBits': WHATEVER THE INPUT: true; the input reads as it did. -/
def fnExactDeinterleaveBitsSpec : ChangeSpec := { name := "fnExactDeinterleaveBits", fn := fun _ => fun
  | [d1, d2] => { results := [.lit (.bool true)], args := [d1, d2] }
  | _ => none }
def fnExactDeinterleaveBitsRow : OpenClaim := { program := "ytiijpnojckiocaa", sum := "0b75fc3ef757c5ab75af01f68e1209360dd4603f205030bd56114b1c2e360453", func := "loop.example/spreadspectrum/laws.FnExactDeinterleaveBits", spec := "fnExactDeinterleaveBits", apart := false }
def FnExactDeinterleaveBitsSaid : Prop := fnExactDeinterleaveBitsRow.holds Try.pinned (OpenSpec.ofChange fnExactDeinterleaveBitsSpec)

/-- ITS FALSE NEIGHBOUR: 'it returns false'. Refute it at one input. -/
def fnExactDeinterleaveBitsWrong : ChangeSpec := { name := "fnExactDeinterleaveBits", fn := fun _ => fun
  | [d1, d2] => { results := [.lit (.bool false)], args := [d1, d2] }
  | _ => none }
def FnExactDeinterleaveBitsWrongFalsely : Prop := fnExactDeinterleaveBitsRow.holds Try.pinned (OpenSpec.ofChange fnExactDeinterleaveBitsWrong)

/-- 'laws.FnExactHammingSyndrome': WHATEVER THE INPUT: true; the input reads as it did. -/
def fnExactHammingSyndromeSpec : ChangeSpec := { name := "fnExactHammingSyndrome", fn := fun _ => fun
  | [d] => { results := [.lit (.bool true)], args := [d] }
  | _ => none }
def fnExactHammingSyndromeRow : OpenClaim := { program := "ytiijpnojckiocaa", sum := "0b75fc3ef757c5ab75af01f68e1209360dd4603f205030bd56114b1c2e360453", func := "loop.example/spreadspectrum/laws.FnExactHammingSyndrome", spec := "fnExactHammingSyndrome", apart := false }
def FnExactHammingSyndromeSaid : Prop := fnExactHammingSyndromeRow.holds Try.pinned (OpenSpec.ofChange fnExactHammingSyndromeSpec)

/-- ITS FALSE NEIGHBOUR: 'it returns false'. Refute it at one input. -/
def fnExactHammingSyndromeWrong : ChangeSpec := { name := "fnExactHammingSyndrome", fn := fun _ => fun
  | [d] => { results := [.lit (.bool false)], args := [d] }
  | _ => none }
def FnExactHammingSyndromeWrongFalsely : Prop := fnExactHammingSyndromeRow.holds Try.pinned (OpenSpec.ofChange fnExactHammingSyndromeWrong)

/-- 'laws.FnExactDiffDecode': WHATEVER THE INPUT: true; the input reads as it did. -/
def fnExactDiffDecodeSpec : ChangeSpec := { name := "fnExactDiffDecode", fn := fun _ => fun
  | [d] => { results := [.lit (.bool true)], args := [d] }
  | _ => none }
def fnExactDiffDecodeRow : OpenClaim := { program := "ytiijpnojckiocaa", sum := "0b75fc3ef757c5ab75af01f68e1209360dd4603f205030bd56114b1c2e360453", func := "loop.example/spreadspectrum/laws.FnExactDiffDecode", spec := "fnExactDiffDecode", apart := false }
def FnExactDiffDecodeSaid : Prop := fnExactDiffDecodeRow.holds Try.pinned (OpenSpec.ofChange fnExactDiffDecodeSpec)

/-- ITS FALSE NEIGHBOUR: 'it returns false'. Refute it at one input. -/
def fnExactDiffDecodeWrong : ChangeSpec := { name := "fnExactDiffDecode", fn := fun _ => fun
  | [d] => { results := [.lit (.bool false)], args := [d] }
  | _ => none }
def FnExactDiffDecodeWrongFalsely : Prop := fnExactDiffDecodeRow.holds Try.pinned (OpenSpec.ofChange fnExactDiffDecodeWrong)

/-- 'laws.FnExactInterleaveBits': WHATEVER THE INPUT: true; the input reads as it did. -/
def fnExactInterleaveBitsSpec : ChangeSpec := { name := "fnExactInterleaveBits", fn := fun _ => fun
  | [d1, d2] => { results := [.lit (.bool true)], args := [d1, d2] }
  | _ => none }
def fnExactInterleaveBitsRow : OpenClaim := { program := "ytiijpnojckiocaa", sum := "0b75fc3ef757c5ab75af01f68e1209360dd4603f205030bd56114b1c2e360453", func := "loop.example/spreadspectrum/laws.FnExactInterleaveBits", spec := "fnExactInterleaveBits", apart := false }
def FnExactInterleaveBitsSaid : Prop := fnExactInterleaveBitsRow.holds Try.pinned (OpenSpec.ofChange fnExactInterleaveBitsSpec)

/-- ITS FALSE NEIGHBOUR: 'it returns false'. Refute it at one input. -/
def fnExactInterleaveBitsWrong : ChangeSpec := { name := "fnExactInterleaveBits", fn := fun _ => fun
  | [d1, d2] => { results := [.lit (.bool false)], args := [d1, d2] }
  | _ => none }
def FnExactInterleaveBitsWrongFalsely : Prop := fnExactInterleaveBitsRow.holds Try.pinned (OpenSpec.ofChange fnExactInterleaveBitsWrong)

/-- 'laws.FnExactPilotLength': WHATEVER THE INPUT: true; the input reads as it did. -/
def fnExactPilotLengthSpec : ChangeSpec := { name := "fnExactPilotLength", fn := fun _ => fun
  | [d] => { results := [.lit (.bool true)], args := [d] }
  | _ => none }
def fnExactPilotLengthRow : OpenClaim := { program := "ytiijpnojckiocaa", sum := "0b75fc3ef757c5ab75af01f68e1209360dd4603f205030bd56114b1c2e360453", func := "loop.example/spreadspectrum/laws.FnExactPilotLength", spec := "fnExactPilotLength", apart := false }
def FnExactPilotLengthSaid : Prop := fnExactPilotLengthRow.holds Try.pinned (OpenSpec.ofChange fnExactPilotLengthSpec)

/-- ITS FALSE NEIGHBOUR: 'it returns false'. Refute it at one input. -/
def fnExactPilotLengthWrong : ChangeSpec := { name := "fnExactPilotLength", fn := fun _ => fun
  | [d] => { results := [.lit (.bool false)], args := [d] }
  | _ => none }
def FnExactPilotLengthWrongFalsely : Prop := fnExactPilotLengthRow.holds Try.pinned (OpenSpec.ofChange fnExactPilotLengthWrong)

/-- 'laws.FnExactDiffEncode': WHATEVER THE INPUT: true; the input reads as it did. -/
def fnExactDiffEncodeSpec : ChangeSpec := { name := "fnExactDiffEncode", fn := fun _ => fun
  | [d] => { results := [.lit (.bool true)], args := [d] }
  | _ => none }
def fnExactDiffEncodeRow : OpenClaim := { program := "ytiijpnojckiocaa", sum := "0b75fc3ef757c5ab75af01f68e1209360dd4603f205030bd56114b1c2e360453", func := "loop.example/spreadspectrum/laws.FnExactDiffEncode", spec := "fnExactDiffEncode", apart := false }
def FnExactDiffEncodeSaid : Prop := fnExactDiffEncodeRow.holds Try.pinned (OpenSpec.ofChange fnExactDiffEncodeSpec)

/-- ITS FALSE NEIGHBOUR: 'it returns false'. Refute it at one input. -/
def fnExactDiffEncodeWrong : ChangeSpec := { name := "fnExactDiffEncode", fn := fun _ => fun
  | [d] => { results := [.lit (.bool false)], args := [d] }
  | _ => none }
def FnExactDiffEncodeWrongFalsely : Prop := fnExactDiffEncodeRow.holds Try.pinned (OpenSpec.ofChange fnExactDiffEncodeWrong)

/-- 'laws.FnExactRepeatBits': WHATEVER THE INPUT: true; the input reads as it did. -/
def fnExactRepeatBitsSpec : ChangeSpec := { name := "fnExactRepeatBits", fn := fun _ => fun
  | [d1, d2] => { results := [.lit (.bool true)], args := [d1, d2] }
  | _ => none }
def fnExactRepeatBitsRow : OpenClaim := { program := "ytiijpnojckiocaa", sum := "0b75fc3ef757c5ab75af01f68e1209360dd4603f205030bd56114b1c2e360453", func := "loop.example/spreadspectrum/laws.FnExactRepeatBits", spec := "fnExactRepeatBits", apart := false }
def FnExactRepeatBitsSaid : Prop := fnExactRepeatBitsRow.holds Try.pinned (OpenSpec.ofChange fnExactRepeatBitsSpec)

/-- ITS FALSE NEIGHBOUR: 'it returns false'. Refute it at one input. -/
def fnExactRepeatBitsWrong : ChangeSpec := { name := "fnExactRepeatBits", fn := fun _ => fun
  | [d1, d2] => { results := [.lit (.bool false)], args := [d1, d2] }
  | _ => none }
def FnExactRepeatBitsWrongFalsely : Prop := fnExactRepeatBitsRow.holds Try.pinned (OpenSpec.ofChange fnExactRepeatBitsWrong)

/-- 'laws.FnExactOffsetDistance': WHATEVER THE INPUT: true; the input reads as it did. -/
def fnExactOffsetDistanceSpec : ChangeSpec := { name := "fnExactOffsetDistance", fn := fun _ => fun
  | [d1, d2, d3] => { results := [.lit (.bool true)], args := [d1, d2, d3] }
  | _ => none }
def fnExactOffsetDistanceRow : OpenClaim := { program := "ytiijpnojckiocaa", sum := "0b75fc3ef757c5ab75af01f68e1209360dd4603f205030bd56114b1c2e360453", func := "loop.example/spreadspectrum/laws.FnExactOffsetDistance", spec := "fnExactOffsetDistance", apart := false }
def FnExactOffsetDistanceSaid : Prop := fnExactOffsetDistanceRow.holds Try.pinned (OpenSpec.ofChange fnExactOffsetDistanceSpec)

/-- ITS FALSE NEIGHBOUR: 'it returns false'. Refute it at one input. -/
def fnExactOffsetDistanceWrong : ChangeSpec := { name := "fnExactOffsetDistance", fn := fun _ => fun
  | [d1, d2, d3] => { results := [.lit (.bool false)], args := [d1, d2, d3] }
  | _ => none }
def FnExactOffsetDistanceWrongFalsely : Prop := fnExactOffsetDistanceRow.holds Try.pinned (OpenSpec.ofChange fnExactOffsetDistanceWrong)

/-- 'laws.FnExactHammingEncode': WHATEVER THE INPUT: true; the input reads as it did. -/
def fnExactHammingEncodeSpec : ChangeSpec := { name := "fnExactHammingEncode", fn := fun _ => fun
  | [d] => { results := [.lit (.bool true)], args := [d] }
  | _ => none }
def fnExactHammingEncodeRow : OpenClaim := { program := "ytiijpnojckiocaa", sum := "0b75fc3ef757c5ab75af01f68e1209360dd4603f205030bd56114b1c2e360453", func := "loop.example/spreadspectrum/laws.FnExactHammingEncode", spec := "fnExactHammingEncode", recurses := true, apart := false }
def FnExactHammingEncodeSaid : Prop := fnExactHammingEncodeRow.holds Try.pinned (OpenSpec.ofChange fnExactHammingEncodeSpec)

/-- ITS FALSE NEIGHBOUR: 'it returns false'. Refute it at one input. -/
def fnExactHammingEncodeWrong : ChangeSpec := { name := "fnExactHammingEncode", fn := fun _ => fun
  | [d] => { results := [.lit (.bool false)], args := [d] }
  | _ => none }
def FnExactHammingEncodeWrongFalsely : Prop := fnExactHammingEncodeRow.holds Try.pinned (OpenSpec.ofChange fnExactHammingEncodeWrong)

/-- 'laws.FnExactCrcOf': WHATEVER THE INPUT: true; the input reads as it did. -/
def fnExactCrcOfSpec : ChangeSpec := { name := "fnExactCrcOf", fn := fun _ => fun
  | [d] => { results := [.lit (.bool true)], args := [d] }
  | _ => none }
def fnExactCrcOfRow : OpenClaim := { program := "ytiijpnojckiocaa", sum := "0b75fc3ef757c5ab75af01f68e1209360dd4603f205030bd56114b1c2e360453", func := "loop.example/spreadspectrum/laws.FnExactCrcOf", spec := "fnExactCrcOf", recurses := true, apart := false }
def FnExactCrcOfSaid : Prop := fnExactCrcOfRow.holds Try.pinned (OpenSpec.ofChange fnExactCrcOfSpec)

/-- ITS FALSE NEIGHBOUR: 'it returns false'. Refute it at one input. -/
def fnExactCrcOfWrong : ChangeSpec := { name := "fnExactCrcOf", fn := fun _ => fun
  | [d] => { results := [.lit (.bool false)], args := [d] }
  | _ => none }
def FnExactCrcOfWrongFalsely : Prop := fnExactCrcOfRow.holds Try.pinned (OpenSpec.ofChange fnExactCrcOfWrong)

/-- 'laws.FnExactHammingDecode': WHATEVER THE INPUT: true; the input reads as it did. -/
def fnExactHammingDecodeSpec : ChangeSpec := { name := "fnExactHammingDecode", fn := fun _ => fun
  | [d] => { results := [.lit (.bool true)], args := [d] }
  | _ => none }
def fnExactHammingDecodeRow : OpenClaim := { program := "ytiijpnojckiocaa", sum := "0b75fc3ef757c5ab75af01f68e1209360dd4603f205030bd56114b1c2e360453", func := "loop.example/spreadspectrum/laws.FnExactHammingDecode", spec := "fnExactHammingDecode", apart := false }
def FnExactHammingDecodeSaid : Prop := fnExactHammingDecodeRow.holds Try.pinned (OpenSpec.ofChange fnExactHammingDecodeSpec)

/-- ITS FALSE NEIGHBOUR: 'it returns false'. Refute it at one input. -/
def fnExactHammingDecodeWrong : ChangeSpec := { name := "fnExactHammingDecode", fn := fun _ => fun
  | [d] => { results := [.lit (.bool false)], args := [d] }
  | _ => none }
def FnExactHammingDecodeWrongFalsely : Prop := fnExactHammingDecodeRow.holds Try.pinned (OpenSpec.ofChange fnExactHammingDecodeWrong)

/- THE SECOND FORM. 'bulk': how many values and letters a reading holds, each counted each time it is reached (what is shared counts as often as it is met; a slice's spare places count too). A statement '..UptoSaid' is the law's where the arguments, and the package variables that the reading takes, are together of bulk at most 1048576: NARROWER than '..Said'. Prove '..Said' where nothing that the law and all that it calls make is longer than what came in: it says more and counts as full. Else prove '..UptoSaid'. A law counts once. -/
mutual
def uptoBulk {H : Type} : DataW H → Nat
  | .lit (.string bytes) => bytes.length + 1
  | .lit _ => 1
  | .nil => 1
  | .ptr d => uptoBulk d + 1
  | .slice elems spare => uptoBulkAll elems + uptoBulkAll spare + 1
  | .agg parts => uptoBulkAll parts + 1
  | .iface _ d => uptoBulk d + 1
  | .map entries => uptoBulkEntries entries + 1
  | .held _ => 1
def uptoBulkAll {H : Type} : List (DataW H) → Nat
  | [] => 0
  | d :: r => uptoBulk d + uptoBulkAll r
def uptoBulkEntries {H : Type} : List (Lit × DataW H) → Nat
  | [] => 0
  | x :: r => uptoBulkEntry x + uptoBulkEntries r
def uptoBulkEntry {H : Type} : Lit × DataW H → Nat
  | (.string bytes, d) => bytes.length + uptoBulk d + 1
  | (_, d) => uptoBulk d + 1
 end
def uptoSmall : (H : Type) → List (DataW H) → Bool := fun _ ds => decide (uptoBulkAll ds ≤ 1048576)
def OpenSpec.upto (s : _root_.Go.ChangeSpec) : _root_.Go.OpenSpec := { _root_.Go.OpenSpec.ofChange s with cond := some uptoSmall }

/-- 'laws.FnExactPilotValid', WHERE WHAT IT READS IS OF BULK AT MOST 1048576: true; the input reads as it did. -/
def fnExactPilotValidUptoRow : OpenClaim := { program := "ytiijpnojckiocaa", sum := "0b75fc3ef757c5ab75af01f68e1209360dd4603f205030bd56114b1c2e360453", func := "loop.example/spreadspectrum/laws.FnExactPilotValid", spec := "fnExactPilotValid", apart := false, narrowed := true }
def FnExactPilotValidUptoSaid : Prop := fnExactPilotValidUptoRow.holds Try.pinned (OpenSpec.upto fnExactPilotValidSpec)

/-- 'laws.FnExactDeinterleaveBits', WHERE WHAT IT READS IS OF BULK AT MOST 1048576: true; the input reads as it did. -/
def fnExactDeinterleaveBitsUptoRow : OpenClaim := { program := "ytiijpnojckiocaa", sum := "0b75fc3ef757c5ab75af01f68e1209360dd4603f205030bd56114b1c2e360453", func := "loop.example/spreadspectrum/laws.FnExactDeinterleaveBits", spec := "fnExactDeinterleaveBits", apart := false, narrowed := true }
def FnExactDeinterleaveBitsUptoSaid : Prop := fnExactDeinterleaveBitsUptoRow.holds Try.pinned (OpenSpec.upto fnExactDeinterleaveBitsSpec)

/-- 'laws.FnExactHammingSyndrome', WHERE WHAT IT READS IS OF BULK AT MOST 1048576: true; the input reads as it did. -/
def fnExactHammingSyndromeUptoRow : OpenClaim := { program := "ytiijpnojckiocaa", sum := "0b75fc3ef757c5ab75af01f68e1209360dd4603f205030bd56114b1c2e360453", func := "loop.example/spreadspectrum/laws.FnExactHammingSyndrome", spec := "fnExactHammingSyndrome", apart := false, narrowed := true }
def FnExactHammingSyndromeUptoSaid : Prop := fnExactHammingSyndromeUptoRow.holds Try.pinned (OpenSpec.upto fnExactHammingSyndromeSpec)

/-- 'laws.FnExactDiffDecode', WHERE WHAT IT READS IS OF BULK AT MOST 1048576: true; the input reads as it did. -/
def fnExactDiffDecodeUptoRow : OpenClaim := { program := "ytiijpnojckiocaa", sum := "0b75fc3ef757c5ab75af01f68e1209360dd4603f205030bd56114b1c2e360453", func := "loop.example/spreadspectrum/laws.FnExactDiffDecode", spec := "fnExactDiffDecode", apart := false, narrowed := true }
def FnExactDiffDecodeUptoSaid : Prop := fnExactDiffDecodeUptoRow.holds Try.pinned (OpenSpec.upto fnExactDiffDecodeSpec)

/-- 'laws.FnExactInterleaveBits', WHERE WHAT IT READS IS OF BULK AT MOST 1048576: true; the input reads as it did. -/
def fnExactInterleaveBitsUptoRow : OpenClaim := { program := "ytiijpnojckiocaa", sum := "0b75fc3ef757c5ab75af01f68e1209360dd4603f205030bd56114b1c2e360453", func := "loop.example/spreadspectrum/laws.FnExactInterleaveBits", spec := "fnExactInterleaveBits", apart := false, narrowed := true }
def FnExactInterleaveBitsUptoSaid : Prop := fnExactInterleaveBitsUptoRow.holds Try.pinned (OpenSpec.upto fnExactInterleaveBitsSpec)

/-- 'laws.FnExactPilotLength', WHERE WHAT IT READS IS OF BULK AT MOST 1048576: true; the input reads as it did. -/
def fnExactPilotLengthUptoRow : OpenClaim := { program := "ytiijpnojckiocaa", sum := "0b75fc3ef757c5ab75af01f68e1209360dd4603f205030bd56114b1c2e360453", func := "loop.example/spreadspectrum/laws.FnExactPilotLength", spec := "fnExactPilotLength", apart := false, narrowed := true }
def FnExactPilotLengthUptoSaid : Prop := fnExactPilotLengthUptoRow.holds Try.pinned (OpenSpec.upto fnExactPilotLengthSpec)

/-- 'laws.FnExactDiffEncode', WHERE WHAT IT READS IS OF BULK AT MOST 1048576: true; the input reads as it did. -/
def fnExactDiffEncodeUptoRow : OpenClaim := { program := "ytiijpnojckiocaa", sum := "0b75fc3ef757c5ab75af01f68e1209360dd4603f205030bd56114b1c2e360453", func := "loop.example/spreadspectrum/laws.FnExactDiffEncode", spec := "fnExactDiffEncode", apart := false, narrowed := true }
def FnExactDiffEncodeUptoSaid : Prop := fnExactDiffEncodeUptoRow.holds Try.pinned (OpenSpec.upto fnExactDiffEncodeSpec)

/-- 'laws.FnExactRepeatBits', WHERE WHAT IT READS IS OF BULK AT MOST 1048576: true; the input reads as it did. -/
def fnExactRepeatBitsUptoRow : OpenClaim := { program := "ytiijpnojckiocaa", sum := "0b75fc3ef757c5ab75af01f68e1209360dd4603f205030bd56114b1c2e360453", func := "loop.example/spreadspectrum/laws.FnExactRepeatBits", spec := "fnExactRepeatBits", apart := false, narrowed := true }
def FnExactRepeatBitsUptoSaid : Prop := fnExactRepeatBitsUptoRow.holds Try.pinned (OpenSpec.upto fnExactRepeatBitsSpec)

/-- 'laws.FnExactOffsetDistance', WHERE WHAT IT READS IS OF BULK AT MOST 1048576: true; the input reads as it did. -/
def fnExactOffsetDistanceUptoRow : OpenClaim := { program := "ytiijpnojckiocaa", sum := "0b75fc3ef757c5ab75af01f68e1209360dd4603f205030bd56114b1c2e360453", func := "loop.example/spreadspectrum/laws.FnExactOffsetDistance", spec := "fnExactOffsetDistance", apart := false, narrowed := true }
def FnExactOffsetDistanceUptoSaid : Prop := fnExactOffsetDistanceUptoRow.holds Try.pinned (OpenSpec.upto fnExactOffsetDistanceSpec)

/-- 'laws.FnExactHammingEncode', WHERE WHAT IT READS IS OF BULK AT MOST 1048576: true; the input reads as it did. -/
def fnExactHammingEncodeUptoRow : OpenClaim := { program := "ytiijpnojckiocaa", sum := "0b75fc3ef757c5ab75af01f68e1209360dd4603f205030bd56114b1c2e360453", func := "loop.example/spreadspectrum/laws.FnExactHammingEncode", spec := "fnExactHammingEncode", recurses := true, apart := false, narrowed := true }
def FnExactHammingEncodeUptoSaid : Prop := fnExactHammingEncodeUptoRow.holds Try.pinned (OpenSpec.upto fnExactHammingEncodeSpec)

/-- 'laws.FnExactCrcOf', WHERE WHAT IT READS IS OF BULK AT MOST 1048576: true; the input reads as it did. -/
def fnExactCrcOfUptoRow : OpenClaim := { program := "ytiijpnojckiocaa", sum := "0b75fc3ef757c5ab75af01f68e1209360dd4603f205030bd56114b1c2e360453", func := "loop.example/spreadspectrum/laws.FnExactCrcOf", spec := "fnExactCrcOf", recurses := true, apart := false, narrowed := true }
def FnExactCrcOfUptoSaid : Prop := fnExactCrcOfUptoRow.holds Try.pinned (OpenSpec.upto fnExactCrcOfSpec)

/-- 'laws.FnExactHammingDecode', WHERE WHAT IT READS IS OF BULK AT MOST 1048576: true; the input reads as it did. -/
def fnExactHammingDecodeUptoRow : OpenClaim := { program := "ytiijpnojckiocaa", sum := "0b75fc3ef757c5ab75af01f68e1209360dd4603f205030bd56114b1c2e360453", func := "loop.example/spreadspectrum/laws.FnExactHammingDecode", spec := "fnExactHammingDecode", apart := false, narrowed := true }
def FnExactHammingDecodeUptoSaid : Prop := fnExactHammingDecodeUptoRow.holds Try.pinned (OpenSpec.upto fnExactHammingDecodeSpec)

end Rows
end Go.Proofs.Ytiijpnojckiocaa
