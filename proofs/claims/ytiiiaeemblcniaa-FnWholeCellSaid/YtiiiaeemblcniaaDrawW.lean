/- Weak contracts of the functions that draw codes. -/
import Derived.Test.YtiiiaeemblcniaaDrawQ
import Derived.Test.YtiiiaeemblcniaaDrawA
import Derived.Test.YtiiiaeemblcniaaSums
import Derived.Test.YtiiiaeemblcniaaScore
namespace Go.Proofs.Ytiiiaeemblcniaa
set_option maxRecDepth 20000
open Go.ChangeShapes Go.WideShapes Go.ChangeAt Go.RowKit
set_option linter.unusedVariables false
set_option linter.unusedSimpArgs false

theorem parB_two (n : Nat) : par n = 0 ∨ par n = 1 := by have := par_lt n; omega
/-- the bits of a Walsh code -/
def walshL (P i : Nat) : List UInt8 := (List.range P).map fun k => if par (i &&& k) = 0 then 48 else 49
theorem walshL_len (P i : Nat) : (walshL P i).length = P := by simp [walshL]
theorem walshL_getD (P i : Nat) {k : Nat} (h : k < P) : (walshL P i).getD k 0 = if par (i &&& k) = 0 then 48 else 49 := by simp [walshL, List.getD_eq_getElem?_getD, h]
theorem walshL_bit (P i : Nat) : ∀ c ∈ walshL P i, bit c := fun c hc => by
  unfold walshL at hc
  rw [List.mem_map] at hc
  obtain ⟨k, _, rfl⟩ := hc
  split
  · exact .inl rfl
  · exact .inr rfl
set_option maxHeartbeats 1000000 in
theorem walsh_any (n P i : Nat) (w : World) (hP : P = 2 ^ n) (h8 : n ≤ 8) (hi : i < 256) :
    Calls Try.prog 68 #[.int .i64 (n : Int), .int .i64 (i : Int)] w fun e w' => e = .returned (.string (str (walshL P i))) ∧ Below w.heap.size w w' := by
  have hP2 : P ≤ 256 := pow_le hP h8
  have H2 : Hid (∀ u : World, Calls Try.prog 79 #[.int .i64 (n : Int)] u fun e w' => e = .returned (.int .i64 (P : Int)) ∧ u = w') := Lib.hid fun u => by rw [hP]; exact two_any n u h8
  have hmk := fun u => run_make_row' (P := Try.prog) 22 5 (.int .u8 0) 1 Try.underlying22 info_u8 rfl .i64 .i64 P (by omega) (by omega) u
  clear hP
  go_enter Try.func68, Try.ntmps68
  go_wp2_with fail
  refine (H2.out _).mono ?_
  rintro e w' ⟨rfl, rfl⟩
  go_wp2
  go_loopw [6] (fun i' wr => ∃ k : Nat, k ≤ P ∧ i' = .int .i64 k ∧ wr.rowIs w.heap.size 5 P (fun j => if j < k then .int .u8 (((if par (i &&& j) = 0 then 48 else 49 : UInt8)).toNat : Int) else .int .u8 0) ∧ Below w.heap.size w wr) (fun i' _ => P - (intOf i').toNat)
  case atStart => exact ⟨0, Nat.zero_le _, rfl, (World.rowIs_made w _ _ _).congr (fun _ _ => rfl), (Below.refl _ _).alloc (Nat.le_refl _) _⟩
  case round =>
    clear hmk
    obtain ⟨k, hk, rfl, hrow, hb⟩ := hrel
    by_cases hlt : k < P
    · have hand : i &&& k < 256 := Nat.lt_of_le_of_lt Nat.and_le_left hi
      have hbits : bits .and .i64 (i : Int) (k : Int) = ((i &&& k : Nat) : Int) := i64_and_nat _ _ (by omega) (by omega)
      obtain ⟨q, hq⟩ : ∃ q, q = i &&& k := ⟨_, rfl⟩
      rw [← hq] at hand hbits
      have HPQ := Lib.hid (parS_any q wr hand)
      have hc := hrow.cell hlt
      have hf := hrow.frozen k
      simp only [Nat.lt_irrefl, if_false] at hc
      have HW := Lib.hid hrow
      have HQ := Lib.hid hq
      clear hq hrow
      have hp2 := parB_two q
      obtain ⟨p, hp⟩ : ∃ p, p = par q := ⟨_, rfl⟩
      rw [← hp] at HPQ hp2
      have HPE := Lib.hid hp
      clear hp
      rcases hp2 with rfl | rfl
      · go_wp2_with fail
        refine (HPQ.out).mono ?_
        rintro e w' ⟨rfl, rfl⟩
        go_wp2
        go_roundw
        case rel => exact ⟨k + 1, by omega, by go_num, row_next HW.out (by rw [← HQ.out, ← HPE.out]; rfl), hb.setCell (by simp) _⟩
        case measure => simp [intOf]; omega
      · go_wp2_with fail
        refine (HPQ.out).mono ?_
        rintro e w' ⟨rfl, rfl⟩
        go_wp2
        go_roundw
        case rel => exact ⟨k + 1, by omega, by go_num, row_next HW.out (by rw [← HQ.out, ← HPE.out]; rfl), hb.setCell (by simp) _⟩
        case measure => simp [intOf]; omega
    · obtain rfl : k = P := by omega
      have hconv := conv_row (P := Try.prog) (src := 22) (dst := 9) (walshL k i) (n := k) (walshL_len _ _) (Nat.le_refl _) hrow (fun j hj => by rw [if_pos hj, walshL_getD _ _ hj]) Try.underlying22 Try.underlying5 Try.underlying9
      clear hrow
      go_wp2
      go_ret
      exact ⟨rfl, hb⟩
theorem sumL_bit (a b : List UInt8) : ∀ c ∈ sumL a b, bit c := fun c hc => by
  unfold sumL at hc
  rw [List.mem_map] at hc
  obtain ⟨j, _, rfl⟩ := hc
  unfold sumAt
  split
  · exact .inl rfl
  · exact .inr rfl
theorem turn_list (s : ByteArray) (q : Nat) (hq : q ≤ s.size) : (s.extract q s.size ++ s.extract 0 q).data.toList = s.data.toList.drop q ++ s.data.toList.take q := by
  have h : s.data.toList.length = s.size := data_length s
  simp [ByteArray.data_append, ByteArray.data_extract, Array.toList_extract, List.extract]
  rw [List.take_of_length_le (by rw [List.length_drop, h]; exact Nat.le_refl _)]
theorem bits_of_list {t : ByteArray} (h : ∀ c ∈ t.data.toList, bit c) : ∀ j (hj : j < t.size), bit t[j] := fun j hj => by
  rw [← getD_at t _ hj]
  have hl : j < t.data.toList.length := by rw [data_length]; exact hj
  rw [List.getD_eq_getElem?_getD, List.getElem?_eq_getElem hl]
  exact h _ (List.getElem_mem hl)
theorem list_of_bits {t : ByteArray} (h : ∀ j (hj : j < t.size), bit t[j]) : ∀ c ∈ t.data.toList, bit c := fun c hc => by
  obtain ⟨j, hj, rfl⟩ := List.getElem_of_mem hc
  have hj2 : j < t.size := by rw [← data_length]; exact hj
  have := h j hj2
  rw [← getD_at t _ hj2, List.getD_eq_getElem?_getD, List.getElem?_eq_getElem hj] at this
  exact this
set_option maxHeartbeats 1000000 in
theorem shift_any (s : ByteArray) (k : Int) (w : World) (h1 : 1 ≤ s.size) (h2 : s.size ≤ 1000) (hb : ∀ j (h : j < s.size), bit s[j]) :
    Calls Try.prog 83 #[.string s, .int .i64 k] w fun e w' => ∃ t : ByteArray, e = .returned (.string t) ∧ t.size = s.size ∧ (∀ j (h : j < t.size), bit t[j]) ∧ Below w.heap.size w w' := by
  have HM := Lib.hid (modS_any k (s.size : Int) w (by omega) (by omega))
  have hm1 := Int.emod_nonneg k (show (s.size : Int) ≠ 0 by omega)
  have hm2 := Int.emod_lt_of_pos k (show 0 < (s.size : Int) by omega)
  obtain ⟨q, hq⟩ : ∃ q : Nat, k % (s.size : Int) = (q : Int) := ⟨(k % (s.size : Int)).toNat, by omega⟩
  rw [hq] at HM hm1 hm2
  have hqs : q < s.size := by omega
  have HB := Lib.hid hb
  clear hq hb
  go_enter Try.func83, Try.ntmps83
  go_wp2_with fail
  refine (HM.out).mono ?_
  rintro e w' ⟨rfl, rfl⟩
  go_wp2
  refine wp_region_still_lit (by kernel_rfl) (by kernel_rfl) ?_
  repeat (refine wpStill_step (fun K hK => ?_); (try go_simp); (try simp only [IntWalk.iteOmega]); (try go_ints); (try simp (disch := omega) only [dif_pos]); (try go_simp); refine hK _ ?_; clear hK K)
  refine wpStill_nil ?_
  go_wp2
  go_ret
  have e := turn_list s q (by omega)
  refine ⟨_, rfl, ?_, ?_, Below.drew (Below.refl _ _)⟩
  · rw [← data_length, e, List.length_append, List.length_drop, List.length_take, data_length]; omega
  · refine bits_of_list (fun c hc => ?_)
    rw [e, List.mem_append] at hc
    rcases hc with hc | hc
    · exact list_of_bits HB.out c (List.mem_of_mem_drop hc)
    · exact list_of_bits HB.out c (List.mem_of_mem_take hc)
set_option maxHeartbeats 1000000 in
theorem gold_any (k : Int) (w : World) (hk1 : -2 ≤ k) (hk2 : k ≤ 100) :
    Calls Try.prog 69 #[.int .i64 3, .int .i64 3, .int .i64 5, .int .i64 k] w fun e w' => ∃ t : ByteArray, e = .returned (.string t) ∧ t.size = 7 ∧ (∀ c ∈ t.data.toList, bit c) ∧ Below w.heap.size w w' := by
  have H3 : Hid (∀ u : World, Calls Try.prog 81 #[.int .i64 3, .int .i64 3] u fun e w' => e = .returned (.string (str (runL 3 3 1 7))) ∧ Below u.heap.size u w') := Lib.hid fun u => seqS3_any 3 3 8 u rfl (by omega) (by omega) (by omega)
  have H5 : Hid (∀ u : World, Calls Try.prog 81 #[.int .i64 3, .int .i64 5] u fun e w' => e = .returned (.string (str (runL 3 5 1 7))) ∧ Below u.heap.size u w') := Lib.hid fun u => seqS3_any 3 5 8 u rfl (by omega) (by omega) (by omega)
  have hbt : ∀ T : Nat, ∀ c ∈ runL 3 T 1 7, bit c := fun T c hc => by
    unfold runL at hc
    rw [List.mem_map] at hc
    obtain ⟨j, _, rfl⟩ := hc
    unfold outB; split; exact .inl rfl; exact .inr rfl
  have hsz : ∀ T : Nat, (str (runL 3 T 1 7)).size = 7 := fun T => by rw [str_size, runL_len]
  have hb5 : ∀ j (h : j < (str (runL 3 5 1 7)).size), bit (str (runL 3 5 1 7))[j] := bits_of_list (by rw [str_list]; exact hbt 5)
  have hb3 : ∀ j (h : j < (str (runL 3 3 1 7)).size), bit (str (runL 3 3 1 7))[j] := bits_of_list (by rw [str_list]; exact hbt 3)
  by_cases c1 : k = -2
  · subst c1
    have HF : Hid ((str (runL 3 3 1 7)).size = 7 ∧ ∀ c ∈ (str (runL 3 3 1 7)).data.toList, bit c) := ⟨hsz 3, by rw [str_list]; exact hbt 3⟩
    clear hbt hsz hb5 hb3
    go_enter Try.func69, Try.ntmps69
    go_wp2_with fail
    refine (H3.out _).mono ?_
    rintro e w1 ⟨rfl, k1⟩
    go_wp2
    go_ret
    exact ⟨_, rfl, HF.out.1, HF.out.2, k1⟩
  · by_cases c2 : k = -1
    · subst c2
      have HF : Hid ((str (runL 3 5 1 7)).size = 7 ∧ ∀ c ∈ (str (runL 3 5 1 7)).data.toList, bit c) := ⟨hsz 5, by rw [str_list]; exact hbt 5⟩
      clear hbt hsz hb5 hb3
      go_enter Try.func69, Try.ntmps69
      go_wp2_with fail
      refine (H5.out _).mono ?_
      rintro e w1 ⟨rfl, k1⟩
      go_wp2
      go_ret
      exact ⟨_, rfl, HF.out.1, HF.out.2, k1⟩
    · have b1 : (k == -2) = false := by rw [beq_eq_false_iff_ne]; exact c1
      have b2 : (k == -1) = false := by rw [beq_eq_false_iff_ne]; exact c2
      have HSF := Lib.hid (fun u : World => shift_any (str (runL 3 5 1 7)) k u (by rw [hsz]; omega) (by rw [hsz]; omega) hb5)
      have HAD : Hid (∀ (t : ByteArray) (u : World), t.size = 7 → (∀ j (h : j < t.size), bit t[j]) → Calls Try.prog 82 #[.string (str (runL 3 3 1 7)), .string t] u fun e w' => ∃ t' : ByteArray, e = .returned (.string t') ∧ t'.size = 7 ∧ (∀ c ∈ t'.data.toList, bit c) ∧ Below u.heap.size u w') := fun t u ht hb => (sumS_any (str (runL 3 3 1 7)) t u (by rw [hsz]; omega) (by rw [hsz]; exact ht) hb3 hb).mono fun e w' ⟨he, hw⟩ => by
        refine ⟨_, he, ?_, ?_, hw⟩
        · show (sumL _ _).toArray.size = 7
          rw [List.size_toArray, sumL_len, data_length, hsz]
        · intro c hc
          have hc2 : c ∈ sumL (str (runL 3 3 1 7)).data.toList t.data.toList := hc
          exact sumL_bit _ _ c hc2
      have HZ := Lib.hid (hsz 5)
      clear c1 c2 hbt hb5 hb3 hsz
      go_enter Try.func69, Try.ntmps69
      go_wp2_with fail
      refine (H3.out _).mono ?_
      rintro e w1 ⟨rfl, k1⟩
      go_wp2_with fail
      refine (H5.out _).mono ?_
      rintro e w2 ⟨rfl, k2⟩
      go_wp2_with fail
      refine (HSF.out _).mono ?_
      rintro e w3 ⟨t, rfl, ht, htb, k3⟩
      have hA := Lib.hid (HAD.out t w3 (by rw [ht]; exact HZ.out) htb)
      have hB := (k1.trans (k2.mono k1.size)).trans (k3.mono (Nat.le_trans k1.size k2.size))
      clear ht htb
      go_wp2_with fail
      refine hA.out.mono ?_
      rintro e w4 ⟨t', rfl, h1, h2, k4⟩
      have HF := Lib.hid (And.intro h1 h2)
      have hBF := hB.trans (k4.mono hB.size)
      clear h1 h2
      go_wp2
      go_ret
      exact ⟨_, rfl, HF.out.1, HF.out.2, hBF⟩
end Go.Proofs.Ytiiiaeemblcniaa
