/- Contracts of the functions on changes of bits. -/
import Derived.Test.YtmfblphnedoejaaSums
import Derived.WalkSpells
import Derived.IntWalk
namespace Go.Proofs.Ytmfblphnedoejaa
set_option maxRecDepth 20000
open Go.ChangeShapes Go.WideShapes Go.ChangeAt Go.RowKit

set_option maxHeartbeats 400000 in
theorem diffDecI_any (s : ByteArray) (w : World) (hs : s.size ≤ maxLen) :
    Calls Try.prog 23 #[.string s] w fun e w' => e = .returned (strRes (diffDec s.data.toList)) ∧ Below w.heap.size w w' := by
  cases hb : bitsOK s.data.toList
  · rw [diffDec_nb hb]
    go_enter Try.func23, Try.ntmps23
    go_wp2_with (go_at_call 62; refine (isBits_any _ _ hs).mono ?_; rintro e w' ⟨rfl, rfl⟩)
    go_ret2
    exact ⟨rfl, Below.refl _ _⟩
  · by_cases h1 : 1 ≤ s.size
    · rw [diffDec_yes hb h1]
      have h6 := bits_le_size hb
      have hne := isEmpty_no h1
      have HB := Lib.hid (bits_bit hb)
      have HE := Lib.hid (diff_eq s)
      have i1 : (1 : Int) ≤ (s.size : Int) := by omega
      have i2 : 0 ≤ (s.size : Int) - 1 := by omega
      have i3 : (s.size : Int) - 1 ≤ s.size := by omega
      have i4 : IntKind.i64.wrap ((s.size : Int) - 1) = (s.size : Int) - 1 := IntWalk.i64_in _ (by omega)
      have i5 : ((s.size : Int) - 1).toNat = s.size - 1 := by omega
      go_enter Try.func23, Try.ntmps23
      go_wp2_with (go_at_call 62; refine (isBits_any _ _ hs).mono ?_; rintro e w' ⟨rfl, rfl⟩)
      go_still_tail 7, (by kernel_rfl)
      change wpList _ _ _ _ _ w.drew
      clear i4 i5
      go_wp2_with fail
      refine (sumI_any _ _ _ (by rw [ex_size]; omega) (by rw [ex_size, ex_size]; omega) (ex_bit HB.out _ _) (ex_bit HB.out _ _)).mono ?_
      rintro e w' ⟨he, hbl⟩
      rw [HE.out] at he
      subst he
      go_wp2
      go_ret2
      exact ⟨rfl, (Below.refl _ _).drew.trans hbl⟩
    · rw [diffDec_n1 h1]
      have hne := isEmpty_yes h1
      go_enter Try.func23, Try.ntmps23
      go_wp2_with (go_at_call 62; refine (isBits_any _ _ hs).mono ?_; rintro e w' ⟨rfl, rfl⟩)
      go_ret2
      exact ⟨rfl, Below.refl _ _⟩
set_option maxHeartbeats 400000 in
theorem diffDecS_any (s : ByteArray) (w : World) (hs : s.size ≤ maxLen) :
    Calls Try.prog 25 #[.string s] w fun e w' => e = .returned (strRes (diffDec s.data.toList)) ∧ Below w.heap.size w w' := by
  cases hb : bitsOK s.data.toList
  · rw [diffDec_nb hb]
    go_enter Try.func25, Try.ntmps25
    go_wp2_with (go_at_call 68; refine (l1Bits_any _ _ hs).mono ?_; rintro e w' ⟨rfl, rfl⟩)
    go_ret2
    exact ⟨rfl, Below.refl _ _⟩
  · by_cases h1 : 1 ≤ s.size
    · rw [diffDec_yes hb h1]
      have h6 := bits_le_size hb
      have hne := isEmpty_no h1
      have HB := Lib.hid (bits_bit hb)
      have HE := Lib.hid (diff_eq s)
      have i1 : (1 : Int) ≤ (s.size : Int) := by omega
      have i2 : 0 ≤ (s.size : Int) - 1 := by omega
      have i3 : (s.size : Int) - 1 ≤ s.size := by omega
      have i4 : IntKind.i64.wrap ((s.size : Int) - 1) = (s.size : Int) - 1 := IntWalk.i64_in _ (by omega)
      have i5 : ((s.size : Int) - 1).toNat = s.size - 1 := by omega
      go_enter Try.func25, Try.ntmps25
      go_wp2_with (go_at_call 68; refine (l1Bits_any _ _ hs).mono ?_; rintro e w' ⟨rfl, rfl⟩)
      go_still_tail 7, (by kernel_rfl)
      change wpList _ _ _ _ _ w.drew
      clear i4 i5
      go_wp2_with fail
      refine (sumS_any _ _ _ (by rw [ex_size]; omega) (by rw [ex_size, ex_size]; omega) (ex_bit HB.out _ _) (ex_bit HB.out _ _)).mono ?_
      rintro e w' ⟨he, hbl⟩
      rw [HE.out] at he
      subst he
      go_wp2
      go_ret2
      exact ⟨rfl, (Below.refl _ _).drew.trans hbl⟩
    · rw [diffDec_n1 h1]
      have hne := isEmpty_yes h1
      go_enter Try.func25, Try.ntmps25
      go_wp2_with (go_at_call 68; refine (l1Bits_any _ _ hs).mono ?_; rintro e w' ⟨rfl, rfl⟩)
      go_ret2
      exact ⟨rfl, Below.refl _ _⟩
end Go.Proofs.Ytmfblphnedoejaa
