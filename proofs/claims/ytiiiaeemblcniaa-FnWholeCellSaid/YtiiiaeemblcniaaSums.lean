/- Contracts of the functions that add strings of bits. -/
import Derived.Test.YtiiiaeemblcniaaBits
import Derived.Test.YtiiiaeemblcniaaPlain3
import Derived.StillTailTactics
namespace Go.Proofs.Ytiiiaeemblcniaa
set_option maxRecDepth 20000
open Go.ChangeShapes Go.WideShapes Go.ChangeAt Go.RowKit

theorem info_u8 : (Try.prog.info? 5).map (fun i => (i.zero, i.size, i.bytes)) = some (some (.int .u8 0), 1, 1) := by kernel_rfl

theorem bitS_xor {c d : UInt8} (hc : bit c) (hd : bit d) : bits .xor .u8 ((48 + ((c.toNat : Int) - 48)) % 256) (((d.toNat : Int) - 48) % 256) = ((if c = d then 48 else 49 : UInt8).toNat : Int) := by
  rcases hc with rfl | rfl <;> rcases hd with rfl | rfl <;> decide +kernel
set_option maxHeartbeats 400000 in
theorem sumS_any (s t : ByteArray) (w : World) (hs : s.size ≤ 1048576) (ht : t.size = s.size) (hsb : ∀ k (h : k < s.size), bit s[k]) (htb : ∀ k (h : k < t.size), bit t[k]) :
    Calls Try.prog 82 #[.string s, .string t] w fun e w' => e = .returned (.string ⟨(sumL s.data.toList t.data.toList).toArray⟩) ∧ Below w.heap.size w w' := by
  have hmk := fun u => run_make_row' (P := Try.prog) 22 5 (.int .u8 0) 1 Try.underlying22 info_u8 rfl .i64 .i64 s.size (by omega) (by omega) u
  have HT := Lib.hid ht
  have HSB := Lib.hid hsb
  have HTB := Lib.hid htb
  clear ht hsb htb
  go_enter Try.func82, Try.ntmps82
  go_wp2
  go_loopw [6] (fun i wr => ∃ k : Nat, k ≤ s.size ∧ i = .int .i64 k ∧ wr.rowIs w.heap.size 5 s.size (fun j => if j < k then .int .u8 (sumAt s.data.toList t.data.toList j).toNat else .int .u8 0) ∧ Below w.heap.size w wr) (fun i _ => s.size - (intOf i).toNat)
  case atStart => exact ⟨0, Nat.zero_le _, rfl, (World.rowIs_made w _ _ _).congr (fun _ _ => rfl), (Below.refl _ _).alloc (Nat.le_refl _) _⟩
  case round =>
    obtain ⟨k, hk, rfl, hrow, hb⟩ := hrel
    by_cases hlt : k < s.size
    · have hlt2 : k < t.size := by have := HT.out; omega
      have hc := hrow.cell hlt
      have hf := hrow.frozen k
      go_wp2
      go_still_tail 13, (by kernel_rfl)
      change wpList _ _ _ _ _ wr.drew
      go_wp2
      go_roundw
      case rel => exact ⟨k + 1, by omega, by go_num, row_next hrow.drew (by rw [sumAt_get hlt hlt2, bitS_xor (HSB.out k hlt) (HTB.out k hlt2)]), hb.drew.setCell (Nat.le_refl _) _⟩
      case measure => simp [intOf]; omega
    · obtain rfl : k = s.size := by omega
      have hconv := conv_row (P := Try.prog) (src := 22) (dst := 9) (sumL s.data.toList t.data.toList) (n := s.size) (by rw [sumL_len, data_length]) (Nat.le_refl _) hrow (fun j hj => by rw [if_pos hj, sumL_getD _ _ _ (by rw [data_length]; exact hj)]) Try.underlying22 Try.underlying5 Try.underlying9
      clear hrow
      go_wp2
      go_ret
      exact ⟨rfl, hb⟩
end Go.Proofs.Ytiiiaeemblcniaa
