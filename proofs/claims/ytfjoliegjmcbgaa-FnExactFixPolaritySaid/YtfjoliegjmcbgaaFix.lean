/- Contracts of FixPolarity on both sides. -/
import Derived.Test.YtfjoliegjmcbgaaFind
import Derived.Test.YtfjoliegjmcbgaaHamD
namespace Go.Proofs.Ytfjoliegjmcbgaa
open Go.ChangeShapes Go.WideShapes Go.ChangeAt Go.RowKit
set_option linter.unusedVariables false
set_option linter.unusedSimpArgs false

def invL (l : List UInt8) : List UInt8 := l.map inv1
theorem invL_len (l : List UInt8) : (invL l).length = l.length := by simp [invL]
theorem invL_getD (l : List UInt8) (j : Nat) (h : j < l.length) : (invL l).getD j 0 = inv1 (l.getD j 0) := by
  simp [invL, List.getD_eq_getElem?_getD, List.getElem?_eq_getElem h]
theorem inv1_sub {c : UInt8} (h : bit c) : ((inv1 c).toNat : Int) = 97 - (c.toNat : Int) := by rcases h with h | h <;> rw [h] <;> rfl
theorem bits_mem {l : List UInt8} (h : bitsOK l = true) : ∀ c ∈ l, bit c := fun c hc => by
  have h1 := bits_all h
  rw [List.all_eq_true] at h1
  have := h1 c hc
  simpa [bit1, bit] using this
theorem invL_bits {l : List UInt8} (h : bitsOK l = true) : bitsOK (invL l) = true := bitsOK_mk (by rw [invL_len]; exact bits_le h) (fun c hc => by
  simp only [invL, List.mem_map] at hc
  obtain ⟨d, hd, rfl⟩ := hc
  have := inv1_bit (bits_mem h d hd)
  rcases this with h | h <;> rw [h] <;> rfl)
set_option maxHeartbeats 400000 in
theorem invI_any (l : List UInt8) (w : World) (hb : bitsOK l = true) :
    Calls Try.prog 49 #[.string (str l)] w fun e w' => e = .returned (.string (str (invL l))) ∧ Below w.heap.size w w' := by
  have z0 := str_size l
  have h6 := bits_le hb
  have hmk := fun u => run_make_row' (P := Try.prog) 50 5 (.int .u8 0) 1 Try.underlying50 info_u8 rfl .i64 .i64 l.length (by omega) (by omega) u
  go_enter Try.func49, Try.ntmps49
  go_wp2
  go_loopw [4, 10] (fun _ i wr => ∃ k : Nat, k ≤ l.length ∧ i = .int .i64 k ∧ wr.rowIs w.heap.size 5 l.length (fun j => if j < k then .int .u8 ((invL l).getD j 0).toNat else .int .u8 0) ∧ Below w.heap.size w wr) (fun _ i _ => l.length - (intOf i).toNat)
  case atStart => exact ⟨0, Nat.zero_le _, rfl, (World.rowIs_made w _ _ _).congr (fun _ _ => rfl), (Below.refl _ _).alloc (Nat.le_refl _) _⟩
  case round =>
    obtain ⟨k, hk, rfl, hrow, hbl⟩ := hrel
    clear hmk
    by_cases hlt : k < l.length
    · have hc := hrow.cell hlt
      have hf := hrow.frozen k
      have hg := str_get l k (by rw [z0]; exact hlt)
      have HV := Lib.hid (inv1_sub (bits_get hb k hlt))
      have HG := Lib.hid (invL_getD l k hlt)
      have hbit := bits_get hb k hlt
      have hr : 48 ≤ ((l.getD k 0).toNat : Int) ∧ ((l.getD k 0).toNat : Int) ≤ 49 := by rcases hbit with h | h <;> rw [h] <;> decide
      obtain ⟨hr1, hr2⟩ := hr
      clear hbit
      generalize l.getD k 0 = c at *
      go_wp2
      go_roundw
      case rel => exact ⟨k + 1, by omega, by go_num, row_next hrow (by rw [HG.out, HV.out]), hbl.setCell (Nat.le_refl _) _⟩
      case measure => simp [intOf]; omega
    · obtain rfl : k = l.length := by omega
      have hconv := conv_row (P := Try.prog) (src := 50) (dst := 9) (invL l) (n := l.length) (invL_len l) (Nat.le_refl _) hrow (fun j hj => by rw [if_pos hj]) Try.underlying50 Try.underlying5 Try.underlying9
      clear hrow
      go_wp2
      go_ret
      exact ⟨rfl, hbl⟩
def fixP (l : List UInt8) : Option (List UInt8) := if 0 ≤ find l 0 then some l else if bitsOK l = true ∧ 0 ≤ find (invL l) 0 then some (invL l) else none
theorem fixP_1 {l : List UInt8} (h : 0 ≤ find l 0) : fixP l = some l := if_pos h
theorem fixP_2 {l : List UInt8} (h : ¬ 0 ≤ find l 0) (hb : bitsOK l = true) (h' : 0 ≤ find (invL l) 0) : fixP l = some (invL l) := by unfold fixP; rw [if_neg h, if_pos ⟨hb, h'⟩]
theorem fixP_3 {l : List UInt8} (h : ¬ 0 ≤ find l 0) (h' : ¬ (bitsOK l = true ∧ 0 ≤ find (invL l) 0)) : fixP l = none := by unfold fixP; rw [if_neg h, if_neg h']
theorem find_hi (l : List UInt8) (h : bitsOK l = false) : ¬ 0 ≤ find l 0 := by rw [find_no (by rw [h]; simp)]; omega
set_option maxHeartbeats 400000 in
theorem fixI_any (l : List UInt8) (w : World) (hl : l.length ≤ 2000000) :
    Calls Try.prog 22 #[.string (str l)] w fun e w' => e = .returned (strRes (fixP l)) ∧ Below w.heap.size w w' := by
  have z0 := str_size l
  have hm : (str l).size ≤ maxLen := by rw [str_size]; unfold maxLen; omega
  have HL := Lib.hid (fun u : World => (isBits_any (str l) u hm : Calls Try.prog 37 #[.string (str l)] u fun e w' => e = .returned (.bool (bitsOK (str l).data.toList)) ∧ u = w'))
  rw [str_list] at HL
  cases hb : bitsOK l
  · rw [fixP_3 (find_hi l hb) (by rw [hb]; simp)]
    rw [hb] at HL
    go_enter Try.func22, Try.ntmps22
    go_wp2_with fail
    refine (HL.out _).mono ?_
    rintro e w' ⟨rfl, rfl⟩
    go_wp2
    go_ret2
    exact ⟨rfl, Below.refl _ _⟩
  · rw [hb] at HL
    have HF := Lib.hid (fun u : World => findI_any l 0 u hl (by omega) (by omega))
    have HG := Lib.hid (fun u : World => findI_any (invL l) 0 u (by rw [invL_len]; exact hl) (by omega) (by omega))
    have HV := Lib.hid (fun u : World => invI_any l u hb)
    by_cases h1 : 0 ≤ find l 0
    · rw [fixP_1 h1]
      have d1 : decide (0 ≤ find l 0) = true := decide_eq_true h1
      generalize find l 0 = f at *
      go_enter Try.func22, Try.ntmps22
      go_wp2_with fail
      refine (HL.out _).mono ?_
      rintro e w' ⟨rfl, rfl⟩
      go_wp2_with fail
      refine (HF.out _).mono ?_
      rintro e w1 ⟨rfl, k1⟩
      go_wp2
      go_ret2
      exact ⟨rfl, k1⟩
    · by_cases h2 : 0 ≤ find (invL l) 0
      · rw [fixP_2 h1 hb h2]
        generalize find l 0 = f at *
        generalize find (invL l) 0 = g at *
        go_enter Try.func22, Try.ntmps22
        go_wp2_with fail
        refine (HL.out _).mono ?_
        rintro e w' ⟨rfl, rfl⟩
        go_wp2_with fail
        refine (HF.out _).mono ?_
        rintro e w1 ⟨rfl, k1⟩
        go_wp2_with fail
        refine (HV.out _).mono ?_
        rintro e w2 ⟨rfl, k2⟩
        replace k1 := below_next k1 k2
        clear k2
        go_wp2_with fail
        refine (HG.out _).mono ?_
        rintro e w3 ⟨rfl, k2⟩
        replace k1 := below_next k1 k2
        clear k2
        go_wp2
        go_ret2
        exact ⟨rfl, k1⟩
      · rw [fixP_3 h1 (by rw [hb]; simpa using h2)]
        generalize find l 0 = f at *
        generalize find (invL l) 0 = g at *
        go_enter Try.func22, Try.ntmps22
        go_wp2_with fail
        refine (HL.out _).mono ?_
        rintro e w' ⟨rfl, rfl⟩
        go_wp2_with fail
        refine (HF.out _).mono ?_
        rintro e w1 ⟨rfl, k1⟩
        go_wp2_with fail
        refine (HV.out _).mono ?_
        rintro e w2 ⟨rfl, k2⟩
        replace k1 := below_next k1 k2
        clear k2
        go_wp2_with fail
        refine (HG.out _).mono ?_
        rintro e w3 ⟨rfl, k2⟩
        replace k1 := below_next k1 k2
        clear k2
        go_wp2
        go_ret2
        exact ⟨rfl, k1⟩
theorem fixI_arr (s : ByteArray) (w : World) (hl : s.size ≤ 2000000) : Calls Try.prog 22 #[.string s] w fun e w' => e = .returned (strRes (fixP s.data.toList)) ∧ Below w.heap.size w w' := by
  have := fixI_any s.data.toList w (by rw [data_length]; exact hl)
  rw [str_of] at this
  exact this
set_option maxHeartbeats 400000 in
theorem fixS_any (l : List UInt8) (w : World) (hl : l.length ≤ 2000000) :
    Calls Try.prog 21 #[.string (str l)] w fun e w' => e = .returned (strRes (fixP l)) ∧ Below w.heap.size w w' := by
  have z0 := str_size l
  have hm : (str l).size ≤ maxLen := by rw [str_size]; unfold maxLen; omega
  have HL := Lib.hid (fun u : World => (l1Bits_any (str l) u hm : Calls Try.prog 33 #[.string (str l)] u fun e w' => e = .returned (.bool (bitsOK (str l).data.toList)) ∧ u = w'))
  rw [str_list] at HL
  have HF := Lib.hid (fun u : World => findS_any l 0 u hl (by omega) (by omega))
  by_cases h1 : 0 ≤ find l 0
  · rw [fixP_1 h1]
    generalize find l 0 = f at *
    go_enter Try.func21, Try.ntmps21
    go_wp2_with fail
    refine (HF.out _).mono ?_
    rintro e w1 ⟨rfl, k1⟩
    go_wp2
    go_ret2
    exact ⟨rfl, k1⟩
  · cases hb : bitsOK l
    · rw [fixP_3 h1 (by rw [hb]; simp)]
      rw [hb] at HL
      generalize find l 0 = f at *
      go_enter Try.func21, Try.ntmps21
      go_wp2_with fail
      refine (HF.out _).mono ?_
      rintro e w1 ⟨rfl, k1⟩
      go_wp2_with fail
      refine (HL.out _).mono ?_
      rintro e w' ⟨rfl, rfl⟩
      go_wp2
      go_ret2
      exact ⟨rfl, k1⟩
    · rw [hb] at HL
      have h6 := bits_le hb
      have HG := Lib.hid (fun u : World => findS_any (invL l) 0 u (by rw [invL_len]; exact hl) (by omega) (by omega))
      have HV := Lib.hid (fun u : World => (invS_any l u (by omega) (bits_mem hb) : Calls Try.prog 48 #[.string (str l)] u fun e w' => e = .returned (.string (str (invL l))) ∧ Below u.heap.size u w'))
      by_cases h2 : 0 ≤ find (invL l) 0
      · rw [fixP_2 h1 hb h2]
        generalize find l 0 = f at *
        generalize find (invL l) 0 = g at *
        go_enter Try.func21, Try.ntmps21
        go_wp2_with fail
        refine (HF.out _).mono ?_
        rintro e w1 ⟨rfl, k1⟩
        go_wp2_with fail
        refine (HL.out _).mono ?_
        rintro e w' ⟨rfl, rfl⟩
        go_wp2_with fail
        refine (HV.out _).mono ?_
        rintro e w2 ⟨rfl, k2⟩
        replace k1 := below_next k1 k2
        clear k2
        go_wp2_with fail
        refine (HG.out _).mono ?_
        rintro e w3 ⟨rfl, k2⟩
        replace k1 := below_next k1 k2
        clear k2
        go_wp2_with fail
        refine (HV.out _).mono ?_
        rintro e w4 ⟨rfl, k2⟩
        replace k1 := below_next k1 k2
        clear k2
        go_wp2
        go_ret2
        exact ⟨rfl, k1⟩
      · rw [fixP_3 h1 (by rw [hb]; simpa using h2)]
        generalize find l 0 = f at *
        generalize find (invL l) 0 = g at *
        go_enter Try.func21, Try.ntmps21
        go_wp2_with fail
        refine (HF.out _).mono ?_
        rintro e w1 ⟨rfl, k1⟩
        go_wp2_with fail
        refine (HL.out _).mono ?_
        rintro e w' ⟨rfl, rfl⟩
        go_wp2_with fail
        refine (HV.out _).mono ?_
        rintro e w2 ⟨rfl, k2⟩
        replace k1 := below_next k1 k2
        clear k2
        go_wp2_with fail
        refine (HG.out _).mono ?_
        rintro e w3 ⟨rfl, k2⟩
        replace k1 := below_next k1 k2
        clear k2
        go_wp2
        go_ret2
        exact ⟨rfl, k1⟩
theorem fixS_arr (s : ByteArray) (w : World) (hl : s.size ≤ 2000000) : Calls Try.prog 21 #[.string s] w fun e w' => e = .returned (strRes (fixP s.data.toList)) ∧ Below w.heap.size w w' := by
  have := fixS_any s.data.toList w (by rw [data_length]; exact hl)
  rw [str_of] at this
  exact this
end Go.Proofs.Ytfjoliegjmcbgaa
