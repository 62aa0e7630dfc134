/- Contracts of the parts of what users send: chips, gains. -/
import Derived.Test.YtiiiaeemblcniaaDrawL
import Derived.Test.YtiiiaeemblcniaaRecv
namespace Go.Proofs.Ytiiiaeemblcniaa
set_option maxRecDepth 20000
open Go.ChangeShapes Go.WideShapes Go.ChangeAt Go.RowKit
set_option linter.unusedVariables false
set_option linter.unusedSimpArgs false

def scaleW (z : List Int) (g : Int) : List Int := (List.range z.length).map fun j => wrap64 (z.getD j 0 * g)
theorem scaleW_len (z : List Int) (g : Int) : (scaleW z g).length = z.length := by simp [scaleW]
set_option maxHeartbeats 1000000 in
theorem scaleS_any (A : Option Addr) (c : Nat) (z : List Int) (g : Int) (w : World) (hr : Reads w w.heap.size A z) (hl : z.length ≤ 1048576) :
    Calls Try.prog 74 #[.slice A z.length c, .int .i64 g] w (RetL (scaleW z g) w) := by
  obtain ⟨n, hn⟩ : ∃ n, n = z.length := ⟨_, rfl⟩
  have HN := Lib.hid hn
  have HR := Lib.hid hr
  unfold scaleW
  rw [← hn] at hl ⊢
  have hmk := fun u => run_make_row' (P := Try.prog) 23 3 (.int .i64 0) 8 Try.underlying23 info_int rfl .i64 .i64 n (by omega) (by omega) u
  clear hr hn
  go_enter Try.func74, Try.ntmps74
  go_wp2
  go_loopw [6] (fun i wr => ∃ k : Nat, k ≤ n ∧ i = .int .i64 k ∧ wr.rowIs w.heap.size 3 n (fun j => if j < k then intV (wrap64 (z.getD j 0 * g)) else .int .i64 0) ∧ Below w.heap.size w wr) (fun i _ => n - (intOf i).toNat)
  case atStart => exact ⟨0, Nat.zero_le _, rfl, (World.rowIs_made w _ _ _).congr (fun _ _ => rfl), (Below.refl _ _).alloc (Nat.le_refl _) _⟩
  case round =>
    clear hmk
    obtain ⟨k, hk, rfl, hrow, hb⟩ := hrel
    by_cases hlt : k < n
    · obtain ⟨ad, rfl, hbk, hcell⟩ := HR.out.at_ (k := k) (by rw [← HN.out]; exact hlt)
      obtain ⟨x, hx⟩ : ∃ x, x = z.getD k 0 := ⟨_, rfl⟩
      have HX := Lib.hid hx
      rw [← hx] at hcell
      have hc1 : wr.cell? (ad.add k) = some (.int .i64 x) := by rw [hb.cell (by rw [add_block]; exact hbk)]; exact hcell
      have hc := hrow.cell hlt
      have hf := hrow.frozen k
      simp only [Nat.lt_irrefl, if_false] at hc
      have HW := Lib.hid hrow
      clear hx hrow hcell
      go_wp2
      go_roundw
      case rel => exact ⟨k + 1, by omega, by go_num, row_next HW.out (by rw [HX.out]; rfl), hb.setCell (by simp) _⟩
      case measure => simp [intOf]; omega
    · obtain rfl : k = n := by omega
      have HSL : Hid (Sl wr w.heap.size wr.heap.size (.slice (some ⟨w.heap.size, 0, none⟩) k k) ((List.range k).map fun j => wrap64 (z.getD j 0 * g))) := sl_of_row hrow (Nat.le_refl _) (by omega)
      clear hrow
      go_wp2
      go_ret
      exact RetL.mk HSL.out hb
set_option maxHeartbeats 1000000 in
theorem chipsS_any (s : ByteArray) (w : World) (hl : s.size ≤ 1048576) (hbits : ∀ c ∈ s.data.toList, bit c) :
    Calls Try.prog 85 #[.string s] w (RetL (s.data.toList.map chip) w) := by
  have HV : Hid (∀ j (h : j < s.size), (s.data.toList.map chip).getD j 0 = chip s[j]) := fun j h => by
    have hl : j < s.data.toList.length := by rw [data_length]; exact h
    rw [← getD_at s _ h]
    simp [List.getD_eq_getElem?_getD, List.getElem?_eq_getElem hl]
  have HB := Lib.hid hbits
  have hmk := fun u => run_make_row' (P := Try.prog) 23 3 (.int .i64 0) 8 Try.underlying23 info_int rfl .i64 .i64 s.size (by omega) (by omega) u
  obtain ⟨F, hF⟩ : ∃ F, F = s.data.toList.map chip := ⟨_, rfl⟩
  have hFl : F.length = s.size := by rw [hF, List.length_map, data_length]
  have HFL := Lib.hid hFl
  rw [← hF] at HV ⊢
  clear hbits hF hFl
  go_enter Try.func85, Try.ntmps85
  go_wp2
  go_loopw [4] (fun i wr => ∃ k : Nat, k ≤ s.size ∧ i = .int .i64 k ∧ wr.rowIs w.heap.size 3 s.size (fun j => if j < k then intV (F.getD j 0) else .int .i64 0) ∧ Below w.heap.size w wr) (fun i _ => s.size - (intOf i).toNat)
  case atStart => exact ⟨0, Nat.zero_le _, rfl, (World.rowIs_made w _ _ _).congr (fun _ _ => rfl), (Below.refl _ _).alloc (Nat.le_refl _) _⟩
  case round =>
    clear hmk
    obtain ⟨k, hk, rfl, hrow, hb⟩ := hrel
    by_cases hlt : k < s.size
    · obtain ⟨v, hv2, hcv, hch⟩ := chip_bit4 (c := s[k]) (by
        rw [← getD_at s _ hlt]
        have hl : k < s.data.toList.length := by rw [data_length]; exact hlt
        rw [List.getD_eq_getElem?_getD, List.getElem?_eq_getElem hl]
        exact HB.out _ (List.getElem_mem hl))
      have HX : Hid (F.getD k 0 = 1 - 2 * (v - 48)) := Lib.hid (by rw [HV.out k hlt, hch])
      have hc := hrow.cell hlt
      have hf := hrow.frozen k
      simp only [Nat.lt_irrefl, if_false] at hc
      have HW := Lib.hid hrow
      clear hrow hch
      go_wp2
      go_roundw
      case rel => exact ⟨k + 1, by omega, by go_num, row_next HW.out (by rw [HX.out]; rfl), hb.setCell (by simp) _⟩
      case measure => simp [intOf]; omega
    · have hks : k = s.size := by omega
      have hsl := sl_of_row (lo := w.heap.size) (f := fun j => F.getD j 0) (hrow.congr (g := fun j => if j < s.size then intV (F.getD j 0) else .int .i64 0) (fun j hj => by rw [if_pos (by omega), if_pos hj])) (Nat.le_refl _) (by omega)
      have hml : ((List.range s.size).map fun j => F.getD j 0) = F := by
        apply List.ext_getElem
        · simp [HFL.out]
        · intro j h1 h2
          simp [List.getD_eq_getElem?_getD, h2]
      rw [hml] at hsl
      have HSL := Lib.hid hsl
      clear hsl hrow hml
      go_wp2
      go_ret
      exact RetL.mk HSL.out hb
end Go.Proofs.Ytiiiaeemblcniaa
