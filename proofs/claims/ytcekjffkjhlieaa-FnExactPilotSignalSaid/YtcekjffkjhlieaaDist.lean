/- Contracts of offsets and of OffsetDistance. -/
import Derived.Test.YtcekjffkjhlieaaPilot
import Derived.WalkSpells
import Derived.Outline
namespace Go.Proofs.Ytcekjffkjhlieaa
open Go.ChangeShapes Go.WideShapes Go.ChangeAt Go.RowKit
set_option linter.unusedVariables false
set_option linter.unusedSimpArgs false

/-- an offset of a pilot -/
def offOK (s : ByteArray) (n x : Int) : Bool := decide (0 ≤ x) && decide (x < pilotLen s n)
theorem off_neg {s : ByteArray} {n x : Int} (h : ¬ 0 ≤ x) : offOK s n x = false := by simp [offOK, h]
theorem off_pos {s : ByteArray} {n x : Int} (h : 0 ≤ x) : offOK s n x = decide (x < pilotLen s n) := by simp [offOK, h]
theorem off_inv {s : ByteArray} {n x : Int} (h : pilotOK s.data.toList n = false) : offOK s n x = false := by
  simp [offOK, pilotLen_no h]; omega
theorem off_in {s : ByteArray} {n x : Int} (h : pilotOK s.data.toList n = true) : offOK s n x = inB x 0 ((s.size : Int) * n - 1) := by
  simp only [offOK, pilotLen_yes h, inB]
  congr 1
  exact decide_eq_decide.2 (by omega)
theorem off_parts {s : ByteArray} {n x : Int} (h : offOK s n x = true) : pilotOK s.data.toList n = true ∧ 0 ≤ x ∧ x < (s.size : Int) * n := by
  cases hp : pilotOK s.data.toList n
  · rw [off_inv hp] at h; cases h
  · simp only [offOK, pilotLen_yes hp, Bool.and_eq_true, decide_eq_true_eq] at h
    exact ⟨rfl, h.1, h.2⟩
theorem plen_bd (s : ByteArray) (n : Int) : -1 ≤ pilotLen s n ∧ pilotLen s n ≤ 2040 := by
  cases hp : pilotOK s.data.toList n
  · rw [pilotLen_no hp]; omega
  · rw [pilotLen_yes hp]; obtain ⟨_, _, _, _, _, h5, h6⟩ := pilot_parts hp; omega
set_option maxHeartbeats 400000 in
theorem isOff_any (s : ByteArray) (n x : Int) (w : World) (hs : s.size ≤ maxLen) :
    Calls Try.prog 46 #[.agg #[.string s, .int .i64 n], .int .i64 x] w fun e w' => e = .returned (.bool (offOK s n x)) ∧ Below w.heap.size w w' := by
  by_cases h : 0 ≤ x
  · rw [off_pos h]
    go_enter Try.func46, Try.ntmps46
    have hb := Below.refl (w.alloc (.cells #[.string s, .int .i64 n] 28)).heap.size (w.alloc (.cells #[.string s, .int .i64 n] 28))
    go_wp2_with fail
    refine (plenI_any _ _ _ hs).mono ?_
    rintro e w1 ⟨rfl, k⟩
    replace hb := below_next hb k
    clear k
    (try clear hc hf)
    obtain ⟨hc, hf⟩ := bcell hb
    go_wp2
    go_ret
    exact ⟨ret_bool (by simp), below_out hb⟩
  · rw [off_neg h]
    go_enter Try.func46, Try.ntmps46
    go_wp2
    go_ret
    exact ⟨rfl, (Below.refl _ _).alloc (Nat.le_refl _) _⟩
set_option maxHeartbeats 400000 in
theorem l5Off_any (s : ByteArray) (n x : Int) (w : World) (hp : pilotOK s.data.toList n = true) :
    Calls Try.prog 43 #[.agg #[.string s, .int .i64 n], .int .i64 x] w fun e w' => e = .returned (.bool (offOK s n x)) ∧ Below w.heap.size w w' := by
  rw [off_in hp]
  obtain ⟨_, h1, h2, h3, h4, h5, h6⟩ := pilot_parts hp
  go_enter Try.func43, Try.ntmps43
  have hb := Below.refl (w.alloc (.cells #[.string s, .int .i64 n] 28)).heap.size (w.alloc (.cells #[.string s, .int .i64 n] 28))
  go_wp2_with fail
  refine (l5Length_any _ _ _ (by omega) (by omega)).mono ?_
  rintro e w1 ⟨rfl, k⟩
  replace hb := below_next hb k
  clear k
  (try clear hc hf)
  obtain ⟨hc, hf⟩ := bcell hb
  go_wp2_with fail
  refine (l1In_any _ _ _ _).mono ?_
  rintro e w' ⟨rfl, rfl⟩
  go_wp2
  go_ret
  exact ⟨rfl, below_out hb⟩
end Go.Proofs.Ytcekjffkjhlieaa
