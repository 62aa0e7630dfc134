/- The contract of the laws' helper that takes a score. -/
import Derived.Test.YtholipfekecloaaReady
namespace Go.Proofs.Ytholipfekecloaa
set_option maxRecDepth 20000
open Go.ChangeShapes Go.WideShapes Go.ChangeAt Go.RowKit
set_option linter.unusedVariables false
set_option linter.unusedSimpArgs false

theorem intRes_eq (o : Option Int) : intRes o = .tuple #[.int .i64 (o.getD 0), .bool o.isSome] := by cases o <;> rfl
/-- the score of an offset, zero where there is none -/
def scoreV (z : List Int) (s : ByteArray) (n x : Int) : Int := (scoreO z s n x).getD 0
theorem scoreV_yes {z : List Int} {s : ByteArray} {m off : Nat} (h : sigOK z = true) (h' : offOK s (m : Int) (off : Int) = true) : scoreV z s (m : Int) (off : Int) = score z s.data.toList m off 0 := by simp [scoreV, scoreO_yes h h']
theorem ssScore_any (A : Option Addr) (c : Nat) (z : List Int) (s : ByteArray) (n x : Int) (w : World) (hr : Reads w w.heap.size A z) (hl : z.length ≤ 1048576) (hs : s.size ≤ maxLen) :
    Calls Try.prog 31 #[.slice A z.length c, .agg #[.string s, .int .i64 n], .int .i64 x] w fun e w' => e = .returned (.int .i64 (scoreV z s n x)) ∧ Below w.heap.size w w' := by
  have HR := Lib.hid hr
  have HN := Lib.hid (intRes_eq (scoreO z s n x))
  clear hr
  unfold scoreV
  generalize (scoreO z s n x).getD 0 = V at *
  generalize (scoreO z s n x).isSome = B at *
  go_enter Try.func31, Try.ntmps31
  have hb := Below.refl (w.alloc (.cells #[.string s, .int .i64 n] 24)).heap.size (w.alloc (.cells #[.string s, .int .i64 n] 24))
  go_wp2_with fail
  refine (scoreAtI_any _ _ _ _ _ _ _ (reads_up HR.out hb) hl hs).mono ?_
  rintro e w1 ⟨he, k⟩
  rw [HN.out] at he
  subst he
  replace hb := below_next hb k
  go_wp2
  go_ret
  exact ⟨rfl, below_out hb⟩
end Go.Proofs.Ytholipfekecloaa
