/- Contracts of the functions on pilots that return numbers and tests. -/
import Derived.Test.YtholipfekecloaaBits
namespace Go.Proofs.Ytholipfekecloaa
set_option maxRecDepth 20000
open Go.ChangeShapes Go.WideShapes Go.ChangeAt Go.RowKit

set_option maxHeartbeats 400000 in
theorem pilotS_any (s : ByteArray) (n : Int) (w : World) (hs : s.size ≤ maxLen) :
    Calls Try.prog 52 #[.agg #[.string s, .int .i64 n]] w fun e w' => e = .returned (.bool (pilotOK s.data.toList n)) ∧ Below w.heap.size w w' := by
  cases hq : seqOK s.data.toList
  · rw [pilotOK_noseq hq]
    go_enter Try.func52, Try.ntmps52
    go_wp2_with (go_at_call 86; refine (seqS_any _ _ hs).mono ?_; rintro e w' ⟨rfl, rfl⟩)
    go_ret
    exact ⟨rfl, (Below.refl _ _).alloc (Nat.le_refl _) _⟩
  · by_cases h1 : 1 ≤ n ∧ n ≤ 8
    · rw [pilotOK_yes hq h1.1 h1.2]
      have hi := inB_yes h1.1 h1.2
      have hp := pilot_parts (pilotOK_yes hq h1.1 h1.2)
      obtain ⟨_, h1, h2, h3, h4, h5, h6⟩ := hp
      go_enter Try.func52, Try.ntmps52
      go_wp2_with (first | (go_at_call 86; refine (seqS_any _ _ hs).mono ?_; rintro e w' ⟨rfl, rfl⟩) | (go_at_call 58; refine (l1In_any _ _ _ _).mono ?_; rintro e w' ⟨rfl, rfl⟩))
      go_ret
      exact ⟨ret_bool (by simp; omega), (Below.refl _ _).alloc (Nat.le_refl _) _⟩
    · rw [pilotOK_noin h1]
      have hi := inB_no h1
      go_enter Try.func52, Try.ntmps52
      go_wp2_with (first | (go_at_call 86; refine (seqS_any _ _ hs).mono ?_; rintro e w' ⟨rfl, rfl⟩) | (go_at_call 58; refine (l1In_any _ _ _ _).mono ?_; rintro e w' ⟨rfl, rfl⟩))
      go_ret
      exact ⟨rfl, (Below.refl _ _).alloc (Nat.le_refl _) _⟩

theorem l5Length_any (s : ByteArray) (n : Int) (w : World) (h0 : 0 ≤ (s.size : Int) * n) (h1 : (s.size : Int) * n ≤ 2040) :
    Calls Try.prog 54 #[.agg #[.string s, .int .i64 n]] w fun e w' => e = .returned (.int .i64 ((s.size : Int) * n)) ∧ Below w.heap.size w w' := by
  go_enter Try.func54, Try.ntmps54
  go_wp2
  go_ret
  exact ⟨rfl, (Below.refl _ _).alloc (Nat.le_refl _) _⟩

/-- the samples of a period, or -1 -/
def pilotLen (s : ByteArray) (n : Int) : Int := if pilotOK s.data.toList n then (s.size : Int) * n else -1
theorem pilotLen_yes {s : ByteArray} {n : Int} (h : pilotOK s.data.toList n = true) : pilotLen s n = (s.size : Int) * n := if_pos h
theorem pilotLen_no {s : ByteArray} {n : Int} (h : pilotOK s.data.toList n = false) : pilotLen s n = -1 := if_neg (by simp [h])
set_option maxHeartbeats 400000 in
theorem plenI_any (s : ByteArray) (n : Int) (w : World) (hs : s.size ≤ maxLen) :
    Calls Try.prog 13 #[.agg #[.string s, .int .i64 n]] w fun e w' => e = .returned (.int .i64 (pilotLen s n)) ∧ Below w.heap.size w w' := by
  cases hq : pilotOK s.data.toList n
  · rw [pilotLen_no hq]
    go_enter Try.func13, Try.ntmps13
    go_wp2_with (go_at_call 19; refine (pilotI_any _ _ _ hs).mono ?_; rintro e w' ⟨rfl, hb⟩)
    go_ret
    exact ⟨rfl, ((Below.refl _ _).alloc (Nat.le_refl _) _).trans (hb.mono (by simp))⟩
  · rw [pilotLen_yes hq]
    obtain ⟨_, h1, h2, h3, h4, h5, h6⟩ := pilot_parts hq
    go_enter Try.func13, Try.ntmps13
    go_wp2_with (go_at_call 19; refine (pilotI_any _ _ _ hs).mono ?_; rintro e w' ⟨rfl, hb⟩; obtain ⟨hc, hf⟩ := bcell hb)
    go_ret
    exact ⟨rfl, ((Below.refl _ _).alloc (Nat.le_refl _) _).trans (hb.mono (by simp))⟩

set_option maxHeartbeats 400000 in
theorem plenS_any (s : ByteArray) (n : Int) (w : World) (hs : s.size ≤ maxLen) :
    Calls Try.prog 18 #[.agg #[.string s, .int .i64 n]] w fun e w' => e = .returned (.int .i64 (pilotLen s n)) ∧ Below w.heap.size w w' := by
  cases hq : pilotOK s.data.toList n
  · rw [pilotLen_no hq]
    go_enter Try.func18, Try.ntmps18
    go_wp2_with (go_at_call 52; refine (pilotS_any _ _ _ hs).mono ?_; rintro e w' ⟨rfl, hb⟩)
    go_ret
    exact ⟨rfl, ((Below.refl _ _).alloc (Nat.le_refl _) _).trans (hb.mono (by simp))⟩
  · rw [pilotLen_yes hq]
    obtain ⟨_, h1, h2, h3, h4, h5, h6⟩ := pilot_parts hq
    go_enter Try.func18, Try.ntmps18
    go_wp2_with (first
      | (go_at_call 52; refine (pilotS_any _ _ _ hs).mono ?_; rintro e w' ⟨rfl, hb⟩; obtain ⟨hc, hf⟩ := bcell hb)
      | (go_at_call 54; refine (l5Length_any _ _ _ (by omega) (by omega)).mono ?_; rintro e w' ⟨rfl, hb2⟩))
    go_ret
    exact ⟨rfl, (((Below.refl _ _).alloc (Nat.le_refl _) _).trans (hb.mono (by simp))).trans (hb2.mono (by have := hb.size; simp at this; omega))⟩
end Go.Proofs.Ytholipfekecloaa
