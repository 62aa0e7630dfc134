/- Contracts of the functions on pilots that return numbers and tests. -/
import Derived.Test.YtcekjffkjhlieaaBits
namespace Go.Proofs.Ytcekjffkjhlieaa
open Go.ChangeShapes Go.WideShapes Go.ChangeAt Go.RowKit

set_option maxHeartbeats 400000 in
theorem pilotS_any (s : ByteArray) (n : Int) (w : World) (hs : s.size ≤ maxLen) :
    Calls Try.prog 42 #[.agg #[.string s, .int .i64 n]] w fun e w' => e = .returned (.bool (pilotOK s.data.toList n)) ∧ Below w.heap.size w w' := by
  cases hq : seqOK s.data.toList
  · rw [pilotOK_noseq hq]
    go_enter Try.func42, Try.ntmps42
    go_wp2_with (go_at_call 61; refine (seqS_any _ _ hs).mono ?_; rintro e w' ⟨rfl, rfl⟩)
    go_ret
    exact ⟨rfl, (Below.refl _ _).alloc (Nat.le_refl _) _⟩
  · by_cases h1 : 1 ≤ n ∧ n ≤ 8
    · rw [pilotOK_yes hq h1.1 h1.2]
      have hi := inB_yes h1.1 h1.2
      have hp := pilot_parts (pilotOK_yes hq h1.1 h1.2)
      obtain ⟨_, h1, h2, h3, h4, h5, h6⟩ := hp
      go_enter Try.func42, Try.ntmps42
      go_wp2_with (first | (go_at_call 61; refine (seqS_any _ _ hs).mono ?_; rintro e w' ⟨rfl, rfl⟩) | (go_at_call 44; refine (l1In_any _ _ _ _).mono ?_; rintro e w' ⟨rfl, rfl⟩))
      go_ret
      exact ⟨ret_bool (by simp; omega), (Below.refl _ _).alloc (Nat.le_refl _) _⟩
    · rw [pilotOK_noin h1]
      have hi := inB_no h1
      go_enter Try.func42, Try.ntmps42
      go_wp2_with (first | (go_at_call 61; refine (seqS_any _ _ hs).mono ?_; rintro e w' ⟨rfl, rfl⟩) | (go_at_call 44; refine (l1In_any _ _ _ _).mono ?_; rintro e w' ⟨rfl, rfl⟩))
      go_ret
      exact ⟨rfl, (Below.refl _ _).alloc (Nat.le_refl _) _⟩

set_option maxHeartbeats 400000 in
theorem toPilot_any (s : ByteArray) (n : Int) (w : World) :
    Calls Try.prog 16 #[.agg #[.string s, .int .i64 n]] w fun e w' => e = .returned (.agg #[.string s, .int .i64 n]) ∧ Below w.heap.size w w' := by
  go_enter Try.func16, Try.ntmps16
  go_wp2
  exact bodyPost_ret (v := .agg #[.string s, .int .i64 n]) (by simp [results, Try.results16, go_sem]) rfl ⟨rfl, (((Below.refl _ _).alloc (Nat.le_refl _) _).alloc (by simp) _).alloc (by simp; omega) _⟩

theorem szPilot_any (s : ByteArray) (n left : Int) (w : World) (hs : s.size ≤ maxLen) (h0 : 0 ≤ left) (h1 : left ≤ 1048576) :
    Calls Try.prog 14 #[.agg #[.string s, .int .i64 n], .int .i64 left] w fun e w' => e = .returned (.int .i64 (leftOf left s.size)) ∧ Below w.heap.size w w' := by
  unfold maxLen at hs
  by_cases h : left - s.size < 0
  · rw [leftOf_neg h]
    go_enter Try.func14, Try.ntmps14
    go_wp2
    go_ret
    exact ⟨rfl, (Below.refl _ _).alloc (Nat.le_refl _) _⟩
  · rw [leftOf_pos h]
    go_enter Try.func14, Try.ntmps14
    go_wp2
    go_ret
    exact ⟨rfl, (Below.refl _ _).alloc (Nat.le_refl _) _⟩

theorem l5Length_any (s : ByteArray) (n : Int) (w : World) (h0 : 0 ≤ (s.size : Int) * n) (h1 : (s.size : Int) * n ≤ 2040) :
    Calls Try.prog 55 #[.agg #[.string s, .int .i64 n]] w fun e w' => e = .returned (.int .i64 ((s.size : Int) * n)) ∧ Below w.heap.size w w' := by
  go_enter Try.func55, Try.ntmps55
  go_wp2
  go_ret
  exact ⟨rfl, (Below.refl _ _).alloc (Nat.le_refl _) _⟩

/-- the samples of a period, or -1 -/
def pilotLen (s : ByteArray) (n : Int) : Int := if pilotOK s.data.toList n then (s.size : Int) * n else -1
theorem pilotLen_yes {s : ByteArray} {n : Int} (h : pilotOK s.data.toList n = true) : pilotLen s n = (s.size : Int) * n := if_pos h
theorem pilotLen_no {s : ByteArray} {n : Int} (h : pilotOK s.data.toList n = false) : pilotLen s n = -1 := if_neg (by simp [h])
set_option maxHeartbeats 400000 in
theorem plenI_any (s : ByteArray) (n : Int) (w : World) (hs : s.size ≤ maxLen) :
    Calls Try.prog 54 #[.agg #[.string s, .int .i64 n]] w fun e w' => e = .returned (.int .i64 (pilotLen s n)) ∧ Below w.heap.size w w' := by
  cases hq : pilotOK s.data.toList n
  · rw [pilotLen_no hq]
    go_enter Try.func54, Try.ntmps54
    go_wp2_with (go_at_call 58; refine (pilotI_any _ _ _ hs).mono ?_; rintro e w' ⟨rfl, hb⟩)
    go_ret
    exact ⟨rfl, ((Below.refl _ _).alloc (Nat.le_refl _) _).trans (hb.mono (by simp))⟩
  · rw [pilotLen_yes hq]
    obtain ⟨_, h1, h2, h3, h4, h5, h6⟩ := pilot_parts hq
    go_enter Try.func54, Try.ntmps54
    go_wp2_with (go_at_call 58; refine (pilotI_any _ _ _ hs).mono ?_; rintro e w' ⟨rfl, hb⟩; obtain ⟨hc, hf⟩ := bcell hb)
    go_ret
    exact ⟨rfl, ((Below.refl _ _).alloc (Nat.le_refl _) _).trans (hb.mono (by simp))⟩

end Go.Proofs.Ytcekjffkjhlieaa
