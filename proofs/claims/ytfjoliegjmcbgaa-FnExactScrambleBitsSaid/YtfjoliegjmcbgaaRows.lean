/-
  No cell of these rows narrows 'for every input' (looked for: loops, veiled, ifaces, maps, wideKeys, modest, calm, conditions, laid).
  DERIVED. THE GIVEN ROWS OF THIS SEAT. 7 by the template 'for every input the law returns true; each argument reads behind the call as it read before'; 0 by the template 'total and deterministic' (their statements: YtfjoliegjmcbgaaTotals.lean).
  GIVEN WITH THE SEED: the statements are not yours to turn. If you find one false, say at which input.
  Laid BY PROGRAM, IN A SANDBOX (cutbox-rows.mjs): the forced cells as the released guide's own fill.sh prints them over the translation 35b74da27cd223b6… (all of the seat's roots in one cut). By AI agents, Wed Nov 11 2026. No macro, syntax, notation, axiom, sorry.
-/
import Derived.Test.YtfjoliegjmcbgaaChecked
import GoSem.Claim
import GoSem.ClaimJoined
import GoSem.ClaimMapViews
import Derived.JoinedTies
import Derived.KernelRfl
namespace Go.Proofs.Ytfjoliegjmcbgaa
/- THE CELL 'sum', in the pinned program and in every row, IS THE sha256 OF THE DUMP (.gsa) THAT YtfjoliegjmcbgaaProg.lean LOADS. Nothing in Lean hashes anything: it is a label: what it is worth is what the hold of that sum in a sandbox is worth. -/
noncomputable def Try.pinned : Pinned := { name := "ytfjoliegjmcbgaa", sum := "35b74da27cd223b6d7f86eb55479e59ddd284e117b43b44c5b4381bb227b0988", checked := Try.checked }
namespace Rows
def none {H : Type} : Left H := { results := [], args := [] }

/-- 'laws.FnExactFrameOf': WHATEVER THE INPUT: true; the input reads as it did. -/
def fnExactFrameOfSpec : ChangeSpec := { name := "fnExactFrameOf", fn := fun _ => fun
  | [d] => { results := [.lit (.bool true)], args := [d] }
  | _ => none }
def fnExactFrameOfRow : OpenClaim := { program := "ytfjoliegjmcbgaa", sum := "35b74da27cd223b6d7f86eb55479e59ddd284e117b43b44c5b4381bb227b0988", func := "loop.example/spreadspectrum/laws.FnExactFrameOf", spec := "fnExactFrameOf", recurses := true, apart := false }
def FnExactFrameOfSaid : Prop := fnExactFrameOfRow.holds Try.pinned (OpenSpec.ofChange fnExactFrameOfSpec)

/-- ITS FALSE NEIGHBOUR: 'it returns false'. Refute it at one input. -/
def fnExactFrameOfWrong : ChangeSpec := { name := "fnExactFrameOf", fn := fun _ => fun
  | [d] => { results := [.lit (.bool false)], args := [d] }
  | _ => none }
def FnExactFrameOfWrongFalsely : Prop := fnExactFrameOfRow.holds Try.pinned (OpenSpec.ofChange fnExactFrameOfWrong)

/-- 'laws.FnExactScrambleBits': WHATEVER THE INPUT: true; the input reads as it did. -/
def fnExactScrambleBitsSpec : ChangeSpec := { name := "fnExactScrambleBits", fn := fun _ => fun
  | [d1, d2] => { results := [.lit (.bool true)], args := [d1, d2] }
  | _ => none }
def fnExactScrambleBitsRow : OpenClaim := { program := "ytfjoliegjmcbgaa", sum := "35b74da27cd223b6d7f86eb55479e59ddd284e117b43b44c5b4381bb227b0988", func := "loop.example/spreadspectrum/laws.FnExactScrambleBits", spec := "fnExactScrambleBits", apart := false }
def FnExactScrambleBitsSaid : Prop := fnExactScrambleBitsRow.holds Try.pinned (OpenSpec.ofChange fnExactScrambleBitsSpec)

/-- ITS FALSE NEIGHBOUR: 'it returns false'. Refute it at one input. -/
def fnExactScrambleBitsWrong : ChangeSpec := { name := "fnExactScrambleBits", fn := fun _ => fun
  | [d1, d2] => { results := [.lit (.bool false)], args := [d1, d2] }
  | _ => none }
def FnExactScrambleBitsWrongFalsely : Prop := fnExactScrambleBitsRow.holds Try.pinned (OpenSpec.ofChange fnExactScrambleBitsWrong)

/-- 'laws.FnExactParseFrame': WHATEVER THE INPUT: true; the input reads as it did. -/
def fnExactParseFrameSpec : ChangeSpec := { name := "fnExactParseFrame", fn := fun _ => fun
  | [d1, d2] => { results := [.lit (.bool true)], args := [d1, d2] }
  | _ => none }
def fnExactParseFrameRow : OpenClaim := { program := "ytfjoliegjmcbgaa", sum := "35b74da27cd223b6d7f86eb55479e59ddd284e117b43b44c5b4381bb227b0988", func := "loop.example/spreadspectrum/laws.FnExactParseFrame", spec := "fnExactParseFrame", recurses := true, apart := false }
def FnExactParseFrameSaid : Prop := fnExactParseFrameRow.holds Try.pinned (OpenSpec.ofChange fnExactParseFrameSpec)

/-- ITS FALSE NEIGHBOUR: 'it returns false'. Refute it at one input. -/
def fnExactParseFrameWrong : ChangeSpec := { name := "fnExactParseFrame", fn := fun _ => fun
  | [d1, d2] => { results := [.lit (.bool false)], args := [d1, d2] }
  | _ => none }
def FnExactParseFrameWrongFalsely : Prop := fnExactParseFrameRow.holds Try.pinned (OpenSpec.ofChange fnExactParseFrameWrong)

/-- 'laws.FnExactFindFrame': WHATEVER THE INPUT: true; the input reads as it did. -/
def fnExactFindFrameSpec : ChangeSpec := { name := "fnExactFindFrame", fn := fun _ => fun
  | [d1, d2] => { results := [.lit (.bool true)], args := [d1, d2] }
  | _ => none }
def fnExactFindFrameRow : OpenClaim := { program := "ytfjoliegjmcbgaa", sum := "35b74da27cd223b6d7f86eb55479e59ddd284e117b43b44c5b4381bb227b0988", func := "loop.example/spreadspectrum/laws.FnExactFindFrame", spec := "fnExactFindFrame", recurses := true, apart := false }
def FnExactFindFrameSaid : Prop := fnExactFindFrameRow.holds Try.pinned (OpenSpec.ofChange fnExactFindFrameSpec)

/-- ITS FALSE NEIGHBOUR: 'it returns false'. Refute it at one input. -/
def fnExactFindFrameWrong : ChangeSpec := { name := "fnExactFindFrame", fn := fun _ => fun
  | [d1, d2] => { results := [.lit (.bool false)], args := [d1, d2] }
  | _ => none }
def FnExactFindFrameWrongFalsely : Prop := fnExactFindFrameRow.holds Try.pinned (OpenSpec.ofChange fnExactFindFrameWrong)

/-- 'laws.FnExactMajorityBits': WHATEVER THE INPUT: true; the input reads as it did. -/
def fnExactMajorityBitsSpec : ChangeSpec := { name := "fnExactMajorityBits", fn := fun _ => fun
  | [d1, d2] => { results := [.lit (.bool true)], args := [d1, d2] }
  | _ => none }
def fnExactMajorityBitsRow : OpenClaim := { program := "ytfjoliegjmcbgaa", sum := "35b74da27cd223b6d7f86eb55479e59ddd284e117b43b44c5b4381bb227b0988", func := "loop.example/spreadspectrum/laws.FnExactMajorityBits", spec := "fnExactMajorityBits", inPlace := ["internal/bytealg.CountString", "internal/bytealg.IndexByteString", "internal/bytealg.IndexString"], named := ["internal/bytealg.MaxLen"], apart := false }
def FnExactMajorityBitsSaid : Prop := fnExactMajorityBitsRow.holds Try.pinned (OpenSpec.ofChange fnExactMajorityBitsSpec)

/-- ITS FALSE NEIGHBOUR: 'it returns false'. Refute it at one input. -/
def fnExactMajorityBitsWrong : ChangeSpec := { name := "fnExactMajorityBits", fn := fun _ => fun
  | [d1, d2] => { results := [.lit (.bool false)], args := [d1, d2] }
  | _ => none }
def FnExactMajorityBitsWrongFalsely : Prop := fnExactMajorityBitsRow.holds Try.pinned (OpenSpec.ofChange fnExactMajorityBitsWrong)

/-- 'laws.FnExactFixPolarity': WHATEVER THE INPUT: true; the input reads as it did. -/
def fnExactFixPolaritySpec : ChangeSpec := { name := "fnExactFixPolarity", fn := fun _ => fun
  | [d] => { results := [.lit (.bool true)], args := [d] }
  | _ => none }
def fnExactFixPolarityRow : OpenClaim := { program := "ytfjoliegjmcbgaa", sum := "35b74da27cd223b6d7f86eb55479e59ddd284e117b43b44c5b4381bb227b0988", func := "loop.example/spreadspectrum/laws.FnExactFixPolarity", spec := "fnExactFixPolarity", recurses := true, apart := false }
def FnExactFixPolaritySaid : Prop := fnExactFixPolarityRow.holds Try.pinned (OpenSpec.ofChange fnExactFixPolaritySpec)

/-- ITS FALSE NEIGHBOUR: 'it returns false'. Refute it at one input. -/
def fnExactFixPolarityWrong : ChangeSpec := { name := "fnExactFixPolarity", fn := fun _ => fun
  | [d] => { results := [.lit (.bool false)], args := [d] }
  | _ => none }
def FnExactFixPolarityWrongFalsely : Prop := fnExactFixPolarityRow.holds Try.pinned (OpenSpec.ofChange fnExactFixPolarityWrong)

/-- 'laws.FnExactAllFrames': WHATEVER THE INPUT: true; the input reads as it did. -/
def fnExactAllFramesSpec : ChangeSpec := { name := "fnExactAllFrames", fn := fun _ => fun
  | [d] => { results := [.lit (.bool true)], args := [d] }
  | _ => none }
def fnExactAllFramesRow : OpenClaim := { program := "ytfjoliegjmcbgaa", sum := "35b74da27cd223b6d7f86eb55479e59ddd284e117b43b44c5b4381bb227b0988", func := "loop.example/spreadspectrum/laws.FnExactAllFrames", spec := "fnExactAllFrames", recurses := true, apart := false }
def FnExactAllFramesSaid : Prop := fnExactAllFramesRow.holds Try.pinned (OpenSpec.ofChange fnExactAllFramesSpec)

/-- ITS FALSE NEIGHBOUR: 'it returns false'. Refute it at one input. -/
def fnExactAllFramesWrong : ChangeSpec := { name := "fnExactAllFrames", fn := fun _ => fun
  | [d] => { results := [.lit (.bool false)], args := [d] }
  | _ => none }
def FnExactAllFramesWrongFalsely : Prop := fnExactAllFramesRow.holds Try.pinned (OpenSpec.ofChange fnExactAllFramesWrong)

/- THE SECOND FORM. 'bulk': how many values and letters a reading holds, each counted each time it is reached (what is shared counts as often as it is met; a slice's spare places count too). A statement '..UptoSaid' is the law's where the arguments, and the package variables that the reading takes, are together of bulk at most 1048576: NARROWER than '..Said'. Prove '..Said' where nothing that the law and all that it calls make is longer than what came in: it says more and counts as full. Else prove '..UptoSaid'. A law counts once. -/
mutual
def uptoBulk {H : Type} : DataW H → Nat
  | .lit (.string bytes) => bytes.length + 1
  | .lit _ => 1
  | .nil => 1
  | .ptr d => uptoBulk d + 1
  | .slice elems spare => uptoBulkAll elems + uptoBulkAll spare + 1
  | .agg parts => uptoBulkAll parts + 1
  | .iface _ d => uptoBulk d + 1
  | .map entries => uptoBulkEntries entries + 1
  | .held _ => 1
def uptoBulkAll {H : Type} : List (DataW H) → Nat
  | [] => 0
  | d :: r => uptoBulk d + uptoBulkAll r
def uptoBulkEntries {H : Type} : List (Lit × DataW H) → Nat
  | [] => 0
  | x :: r => uptoBulkEntry x + uptoBulkEntries r
def uptoBulkEntry {H : Type} : Lit × DataW H → Nat
  | (.string bytes, d) => bytes.length + uptoBulk d + 1
  | (_, d) => uptoBulk d + 1
 end
def uptoSmall : (H : Type) → List (DataW H) → Bool := fun _ ds => decide (uptoBulkAll ds ≤ 1048576)
def OpenSpec.upto (s : _root_.Go.ChangeSpec) : _root_.Go.OpenSpec := { _root_.Go.OpenSpec.ofChange s with cond := some uptoSmall }

/-- 'laws.FnExactFrameOf', WHERE WHAT IT READS IS OF BULK AT MOST 1048576: true; the input reads as it did. -/
def fnExactFrameOfUptoRow : OpenClaim := { program := "ytfjoliegjmcbgaa", sum := "35b74da27cd223b6d7f86eb55479e59ddd284e117b43b44c5b4381bb227b0988", func := "loop.example/spreadspectrum/laws.FnExactFrameOf", spec := "fnExactFrameOf", recurses := true, apart := false, narrowed := true }
def FnExactFrameOfUptoSaid : Prop := fnExactFrameOfUptoRow.holds Try.pinned (OpenSpec.upto fnExactFrameOfSpec)

/-- 'laws.FnExactScrambleBits', WHERE WHAT IT READS IS OF BULK AT MOST 1048576: true; the input reads as it did. -/
def fnExactScrambleBitsUptoRow : OpenClaim := { program := "ytfjoliegjmcbgaa", sum := "35b74da27cd223b6d7f86eb55479e59ddd284e117b43b44c5b4381bb227b0988", func := "loop.example/spreadspectrum/laws.FnExactScrambleBits", spec := "fnExactScrambleBits", apart := false, narrowed := true }
def FnExactScrambleBitsUptoSaid : Prop := fnExactScrambleBitsUptoRow.holds Try.pinned (OpenSpec.upto fnExactScrambleBitsSpec)

/-- 'laws.FnExactParseFrame', WHERE WHAT IT READS IS OF BULK AT MOST 1048576: true; the input reads as it did. -/
def fnExactParseFrameUptoRow : OpenClaim := { program := "ytfjoliegjmcbgaa", sum := "35b74da27cd223b6d7f86eb55479e59ddd284e117b43b44c5b4381bb227b0988", func := "loop.example/spreadspectrum/laws.FnExactParseFrame", spec := "fnExactParseFrame", recurses := true, apart := false, narrowed := true }
def FnExactParseFrameUptoSaid : Prop := fnExactParseFrameUptoRow.holds Try.pinned (OpenSpec.upto fnExactParseFrameSpec)

/-- 'laws.FnExactFindFrame', WHERE WHAT IT READS IS OF BULK AT MOST 1048576: true; the input reads as it did. -/
def fnExactFindFrameUptoRow : OpenClaim := { program := "ytfjoliegjmcbgaa", sum := "35b74da27cd223b6d7f86eb55479e59ddd284e117b43b44c5b4381bb227b0988", func := "loop.example/spreadspectrum/laws.FnExactFindFrame", spec := "fnExactFindFrame", recurses := true, apart := false, narrowed := true }
def FnExactFindFrameUptoSaid : Prop := fnExactFindFrameUptoRow.holds Try.pinned (OpenSpec.upto fnExactFindFrameSpec)

/-- 'laws.FnExactMajorityBits', WHERE WHAT IT READS IS OF BULK AT MOST 1048576: true; the input reads as it did. -/
def fnExactMajorityBitsUptoRow : OpenClaim := { program := "ytfjoliegjmcbgaa", sum := "35b74da27cd223b6d7f86eb55479e59ddd284e117b43b44c5b4381bb227b0988", func := "loop.example/spreadspectrum/laws.FnExactMajorityBits", spec := "fnExactMajorityBits", inPlace := ["internal/bytealg.CountString", "internal/bytealg.IndexByteString", "internal/bytealg.IndexString"], named := ["internal/bytealg.MaxLen"], apart := false, narrowed := true }
def FnExactMajorityBitsUptoSaid : Prop := fnExactMajorityBitsUptoRow.holds Try.pinned (OpenSpec.upto fnExactMajorityBitsSpec)

/-- 'laws.FnExactFixPolarity', WHERE WHAT IT READS IS OF BULK AT MOST 1048576: true; the input reads as it did. -/
def fnExactFixPolarityUptoRow : OpenClaim := { program := "ytfjoliegjmcbgaa", sum := "35b74da27cd223b6d7f86eb55479e59ddd284e117b43b44c5b4381bb227b0988", func := "loop.example/spreadspectrum/laws.FnExactFixPolarity", spec := "fnExactFixPolarity", recurses := true, apart := false, narrowed := true }
def FnExactFixPolarityUptoSaid : Prop := fnExactFixPolarityUptoRow.holds Try.pinned (OpenSpec.upto fnExactFixPolaritySpec)

/-- 'laws.FnExactAllFrames', WHERE WHAT IT READS IS OF BULK AT MOST 1048576: true; the input reads as it did. -/
def fnExactAllFramesUptoRow : OpenClaim := { program := "ytfjoliegjmcbgaa", sum := "35b74da27cd223b6d7f86eb55479e59ddd284e117b43b44c5b4381bb227b0988", func := "loop.example/spreadspectrum/laws.FnExactAllFrames", spec := "fnExactAllFrames", recurses := true, apart := false, narrowed := true }
def FnExactAllFramesUptoSaid : Prop := fnExactAllFramesUptoRow.holds Try.pinned (OpenSpec.upto fnExactAllFramesSpec)

end Rows
end Go.Proofs.Ytfjoliegjmcbgaa
