/- Contracts of RepeatBits and of the reference's l9Many. -/
import Derived.Test.YtmfblphnedoejaaDiffE
namespace Go.Proofs.Ytmfblphnedoejaa
set_option maxRecDepth 20000
open Go.ChangeShapes Go.WideShapes Go.ChangeAt Go.RowKit
set_option linter.unusedVariables false
set_option linter.unusedSimpArgs false

/-- a list n times -/
def manyL (l : List UInt8) (n : Nat) : List UInt8 := (List.replicate n l).flatten
theorem manyL_zero (l : List UInt8) : manyL l 0 = [] := rfl
theorem manyL_succ (l : List UInt8) (n : Nat) : manyL l (n + 1) = l ++ manyL l n := by simp [manyL, List.replicate_succ]
theorem manyL_len (l : List UInt8) (n : Nat) : (manyL l n).length = n * l.length := by
  induction n with
  | zero => simp [manyL]
  | succ n ih => rw [manyL_succ, List.length_append, ih, Nat.succ_mul]; omega
theorem manyL_two (l : List UInt8) (n : Nat) : manyL (l ++ l) n = manyL l (2 * n) := by
  induction n with
  | zero => rfl
  | succ n ih =>
    rw [show 2 * (n + 1) = 2 * n + 1 + 1 by omega, manyL_succ, manyL_succ, manyL_succ, ih, List.append_assoc]
theorem manyL_one (c : UInt8) (n : Nat) : manyL [c] n = List.replicate n c := by
  induction n with
  | zero => rfl
  | succ n ih => rw [manyL_succ, ih]; rfl
theorem many_odd {l0 l o : List UInt8} {n0 k : Nat} (h : o ++ manyL l k = manyL l0 n0) (hk : k % 2 = 1) : o ++ l ++ manyL (l ++ l) (k / 2) = manyL l0 n0 := by
  rw [manyL_two, ← h, show k = 2 * (k / 2) + 1 by omega, manyL_succ, List.append_assoc, show (2 * (k / 2) + 1) / 2 = k / 2 by omega]
theorem many_even {l0 l o : List UInt8} {n0 k : Nat} (h : o ++ manyL l k = manyL l0 n0) (hk : k % 2 = 0) : o ++ manyL (l ++ l) (k / 2) = manyL l0 n0 := by
  rw [manyL_two, ← h, show 2 * (k / 2) = k by omega]
theorem many_len {l0 l o : List UInt8} {n0 k M : Nat} (h : o ++ manyL l k = manyL l0 n0) (hM : n0 * l0.length ≤ M) (hk : 1 ≤ k) : o.length + l.length ≤ M ∧ l.length ≤ M := by
  have e : (o ++ manyL l k).length = n0 * l0.length := by rw [h, manyL_len]
  rw [List.length_append, manyL_len] at e
  have : 1 * l.length ≤ k * l.length := Nat.mul_le_mul_right _ hk
  omega
set_option maxHeartbeats 400000 in
theorem many_any (s : ByteArray) (n : Int) (w : World) (hM : n.toNat * s.size ≤ 1000000) (hn : n ≤ 1000000) :
    Calls Try.prog 77 #[.string s, .int .i64 n] w fun e w' => e = .returned (.string (str (manyL s.data.toList n.toNat))) ∧ w = w' := by
  obtain ⟨l0, rfl⟩ : ∃ l, s = str l := ⟨_, (str_of s).symm⟩
  rw [str_size] at hM
  rw [str_list]
  go_enter Try.func77, Try.ntmps77
  go_wp2
  go_loop [0, 1, 5] (fun a i v => ∃ (l o : List UInt8) (m : Int), a = .string (str l) ∧ v = .string (str o) ∧ i = .int .i64 m ∧ m ≤ 1000000 ∧ o ++ manyL l m.toNat = manyL l0 n.toNat) (fun _ i _ => (intOf i).toNat)
  case atStart => exact ⟨l0, [], n, rfl, rfl, rfl, hn, rfl⟩
  case round =>
    obtain ⟨l, o, m, rfl, rfl, rfl, hm, hinv⟩ := hrel
    by_cases hlt : 0 < m
    · obtain ⟨z1, z2⟩ := many_len hinv hM (by omega)
      have z3 : (str l).size ≤ 1000000 := by rw [str_size]; exact z2
      have z4 : (str o).size ≤ 1000000 := by rw [str_size]; omega
      by_cases h2 : m % 2 = 1
      · have HI := Lib.hid (many_odd hinv (by omega))
        have b1 : (m % 2 == 1) = true := by simpa using h2
        clear hinv h2 hM z1 z2
        go_wp2
        go_round
        case rel => exact ⟨l ++ l, o ++ l, m / 2, by rw [str_add], by rw [str_add], rfl, by omega, by rw [← HI.out]; congr 2; omega⟩
        case measure => simp [intOf]; omega
      · have HI := Lib.hid (many_even hinv (by omega))
        have b1 : (m % 2 == 1) = false := by simpa using h2
        clear hinv h2 hM z1 z2
        go_wp2
        go_round
        case rel => exact ⟨l ++ l, o, m / 2, by rw [str_add], rfl, rfl, by omega, by rw [← HI.out]; congr 2; omega⟩
        case measure => simp [intOf]; omega
    · have HI := Lib.hid hinv
      clear hinv hM
      go_wp2
      go_ret
      exact ⟨by rw [← HI.out, show m.toNat = 0 by omega, manyL_zero, List.append_nil]; rfl, rfl⟩
/-- a number of repetitions -/
def oddOK (n : Int) : Bool := inB n 1 9 && (n % 2 == 1)
theorem odd_no {n : Int} (h : ¬ (1 ≤ n ∧ n ≤ 9)) : oddOK n = false := by rw [oddOK, inB_no h]; rfl
theorem odd_in {n : Int} (h : 1 ≤ n) (h' : n ≤ 9) : oddOK n = (n % 2 == 1) := by rw [oddOK, inB_yes h h']; rfl
theorem odd_parts {n : Int} (h : oddOK n = true) : 1 ≤ n ∧ n ≤ 9 := by
  simp only [oddOK, inB, Bool.and_eq_true, decide_eq_true_eq] at h; exact h.1
theorem oddI_any (n : Int) (w : World) : Calls Try.prog 90 #[.int .i64 n] w fun e w' => e = .returned (.bool (oddOK n)) ∧ w = w' := by
  by_cases h : 1 ≤ n
  · by_cases h' : n ≤ 9
    · rw [odd_in h h']
      go_enter Try.func90, Try.ntmps90
      go_wp2
      go_ret
      exact ⟨rfl, rfl⟩
    · rw [odd_no (by omega)]
      go_enter Try.func90, Try.ntmps90
      go_wp2
      go_ret
      exact ⟨rfl, rfl⟩
  · rw [odd_no (by omega)]
    go_enter Try.func90, Try.ntmps90
    go_wp2
    go_ret
    exact ⟨rfl, rfl⟩
theorem oddS_any (n : Int) (w : World) : Calls Try.prog 91 #[.int .i64 n] w fun e w' => e = .returned (.bool (oddOK n)) ∧ w = w' := by
  by_cases h : 1 ≤ n ∧ n ≤ 9
  · obtain ⟨h, h'⟩ := h
    rw [odd_in h h']
    have hi := inB_yes h h'
    go_enter Try.func91, Try.ntmps91
    go_wp2_with fail
    refine (l1In_any _ _ _ _).mono ?_
    rintro e w' ⟨rfl, rfl⟩
    go_wp2
    go_ret
    exact ⟨rfl, rfl⟩
  · rw [odd_no h]
    have hi := inB_no h
    clear h
    go_enter Try.func91, Try.ntmps91
    go_wp2_with fail
    refine (l1In_any _ _ _ _).mono ?_
    rintro e w' ⟨rfl, rfl⟩
    go_wp2
    go_ret
    exact ⟨rfl, rfl⟩
/-- each bit n times: the first m of them -/
def repTo (l : List UInt8) (n m : Nat) : List UInt8 := (List.range m).map fun i => l.getD (i / n) 0
theorem repTo_len (l : List UInt8) (n m : Nat) : (repTo l n m).length = m := by simp [repTo]
theorem repTo_getD (l : List UInt8) (n m j : Nat) (h : j < m) : (repTo l n m).getD j 0 = l.getD (j / n) 0 := by simp [repTo, List.getD_eq_getElem?_getD, h]
theorem getD_bit {l : List UInt8} (h : bitsOK l = true) {k : Nat} (hk : k < l.length) : bit1 (l.getD k 0) = true := by
  unfold bitsOK at h
  simp only [Bool.and_eq_true, List.all_eq_true] at h
  rw [List.getD_eq_getElem?_getD, List.getElem?_eq_getElem hk]
  exact h.2 _ (List.getElem_mem hk)
theorem repTo_bits {l : List UInt8} {n : Nat} (h : bitsOK l = true) (hn : 0 < n) (h6 : l.length * n ≤ 600) : bitsOK (repTo l n (l.length * n)) = true :=
  bitsOK_mk (by rw [repTo_len]; exact h6) (by
    intro c hc
    simp only [repTo, List.mem_map, List.mem_range] at hc
    obtain ⟨j, hj, rfl⟩ := hc
    exact getD_bit h ((Nat.div_lt_iff_lt_mul hn).2 hj))
/-- what RepeatBits returns -/
def repBits (l : List UInt8) (n : Int) : Option (List UInt8) := if bitsOK l && oddOK n && decide (l.length * n.toNat ≤ 600) then some (repTo l n.toNat (l.length * n.toNat)) else none
theorem rep_nb {s : ByteArray} {n : Int} (h : bitsOK s.data.toList = false) : repBits s.data.toList n = none := by simp [repBits, h]
theorem rep_no {s : ByteArray} {n : Int} (h : oddOK n = false) : repBits s.data.toList n = none := by simp [repBits, h]
theorem rep_n6 {s : ByteArray} {n : Int} (h : ¬ s.size * n.toNat ≤ 600) : repBits s.data.toList n = none := by unfold repBits; rw [data_length, decide_eq_false h, Bool.and_false]; rfl
theorem rep_yes {s : ByteArray} {n : Int} (h : bitsOK s.data.toList = true) (h1 : oddOK n = true) (h2 : s.size * n.toNat ≤ 600) : repBits s.data.toList n = some (repTo s.data.toList n.toNat (s.size * n.toNat)) := by
  unfold repBits; rw [data_length, decide_eq_true h2, h, h1]; rfl
set_option maxHeartbeats 400000 in
theorem repI_row (s : ByteArray) (n : Nat) (w : World) (hs : s.size ≤ maxLen) (hb : bitsOK s.data.toList = true) (ho : oddOK (n : Int) = true) (o1 : ByteArray) (o2 : Bool)
    (hor : ∀ w' : World, Calls Try.prog 67 #[.string ⟨(repTo s.data.toList n (s.size * n)).toArray⟩] w' fun e w'' => e = .returned (.tuple #[.string o1, .bool o2]) ∧ w' = w'') :
    Calls Try.prog 50 #[.string s, .int .i64 n] w fun e w' => e = .returned (.tuple #[.string o1, .bool o2]) ∧ Below w.heap.size w w' := by
  have h6 := bits_le_size hb
  obtain ⟨n1, n9⟩ := odd_parts ho
  have HO := Lib.hid hor
  clear hor
  have hmul : s.size * n ≤ 600 * 9 := Nat.mul_le_mul h6 (by omega)
  obtain ⟨N, HN⟩ : ∃ N, N = s.size * n := ⟨_, rfl⟩
  have hN : N ≤ 5400 := by omega
  have eN : (s.size : Int) * (n : Int) = (N : Int) := by rw [HN, Int.natCast_mul]
  have HN' := Lib.hid HN
  rw [← HN] at HO
  have hmk := fun u => run_make_row' (P := Try.prog) 22 5 (.int .u8 0) 1 Try.underlying22 info_u8 rfl .i64 .i64 N (by omega) (by omega) u
  clear HN hmul
  go_enter Try.func50, Try.ntmps50
  go_wp2_with fail
  refine (isBits_any _ _ hs).mono ?_
  rintro e w' ⟨rfl, rfl⟩
  go_wp2_with fail
  refine (oddI_any _ _).mono ?_
  rintro e w' ⟨rfl, rfl⟩
  go_wp2
  go_loopw [7, 23] (fun _ i wr => ∃ k : Nat, k ≤ N ∧ i = .int .i64 k ∧ wr.rowIs w.heap.size 5 N (fun j => if j < k then .int .u8 (s.data.toList.getD (j / n) 0).toNat else .int .u8 0) ∧ Below w.heap.size w wr) (fun _ i _ => N - (intOf i).toNat)
  case atStart => exact ⟨0, Nat.zero_le _, rfl, (World.rowIs_made w _ _ _).congr (fun _ _ => rfl), (Below.refl _ _).alloc (Nat.le_refl _) _⟩
  case round =>
    obtain ⟨k, hk, rfl, hrow, hb⟩ := hrel
    clear hmk eN
    by_cases hlt : k < N
    · have f1 : k / n < s.size := (Nat.div_lt_iff_lt_mul (by omega)).2 (by have := HN'.out; omega)
      have f2 : (k : Int) / (n : Int) < (s.size : Int) := by have : (k : Int) / (n : Int) = ((k / n : Nat) : Int) := by simp
                                                             rw [this]; omega
      have f3 : 0 ≤ (k : Int) / (n : Int) := Int.ediv_nonneg (by omega) (by omega)
      have hc := hrow.cell hlt
      have hf := hrow.frozen k
      go_wp2
      go_roundw
      case rel => exact ⟨k + 1, by omega, by go_num, row_next hrow (by rw [← getD_at s _ f1]), hb.setCell (Nat.le_refl _) _⟩
      case measure => simp [intOf]; omega
    · obtain rfl : k = N := by omega
      have hconv := conv_row (P := Try.prog) (src := 22) (dst := 9) (repTo s.data.toList n k) (n := k) (by rw [repTo_len]) (Nat.le_refl _) hrow (fun j hj => by rw [if_pos hj, repTo_getD _ _ _ _ hj]) Try.underlying22 Try.underlying5 Try.underlying9
      clear hrow
      go_wp2_with fail
      refine (HO.out _).mono ?_
      rintro e w' ⟨rfl, rfl⟩
      go_wp2
      go_ret2
      exact ⟨rfl, hb⟩
theorem repI_any (s : ByteArray) (n : Int) (w : World) (hs : s.size ≤ maxLen) :
    Calls Try.prog 50 #[.string s, .int .i64 n] w fun e w' => e = .returned (strRes (repBits s.data.toList n)) ∧ Below w.heap.size w w' := by
  cases hb : bitsOK s.data.toList
  · rw [rep_nb hb]
    go_enter Try.func50, Try.ntmps50
    go_wp2_with fail
    refine (isBits_any _ _ hs).mono ?_
    rintro e w' ⟨rfl, rfl⟩
    go_wp2
    go_ret2
    exact ⟨rfl, Below.refl _ _⟩
  · cases ho : oddOK n
    · rw [rep_no ho]
      go_enter Try.func50, Try.ntmps50
      go_wp2_with fail
      refine (isBits_any _ _ hs).mono ?_
      rintro e w' ⟨rfl, rfl⟩
      go_wp2_with fail
      refine (oddI_any _ _).mono ?_
      rintro e w' ⟨rfl, rfl⟩
      go_wp2
      go_ret2
      exact ⟨rfl, Below.refl _ _⟩
    · obtain ⟨n1, n9⟩ := odd_parts ho
      obtain ⟨m, rfl⟩ : ∃ m : Nat, n = m := ⟨n.toNat, by omega⟩
      by_cases h6 : s.size * m ≤ 600
      · rw [rep_yes hb ho (by simpa using h6)]
        rw [Int.toNat_natCast]
        refine repI_row s m w hs hb ho _ _ fun w' => bitsOr_yes _ w' ?_
        have := repTo_bits (n := m) hb (by omega) (by rw [data_length]; exact h6)
        rwa [data_length] at this
      · rw [rep_n6 (by simpa using h6)]
        have := bits_le_size hb
        have hmul : s.size * m ≤ 600 * 9 := Nat.mul_le_mul this (by omega)
        exact repI_row s m w hs hb ho _ _ fun w' => bitsOr_no _ w' (by rw [repTo_len]; omega) (bitsOK_long (by rw [repTo_len]; exact h6))
theorem repTo_next {s : ByteArray} {k n : Nat} (h : k < s.size) (hn : 0 < n) : str (repTo s.data.toList n (k * n)) ++ str (manyL [s[k]] n) = str (repTo s.data.toList n ((k + 1) * n)) := by
  rw [str_add, manyL_one, Nat.succ_mul, repTo, repTo, List.range_add, List.map_append]
  congr 2
  rw [List.map_map]
  apply List.ext_getElem
  · simp
  · intro i h1 h2
    simp only [List.length_replicate] at h1
    simp only [List.getElem_replicate, List.getElem_map, List.getElem_range, Function.comp]
    rw [Nat.mul_comm k n, Nat.mul_add_div hn, Nat.div_eq_of_lt h1, Nat.add_zero, getD_at s k h]
theorem manyOne_call (s : ByteArray) (k n : Nat) (w : World) (h : k < s.size) (hn : n ≤ 9) :
    Calls Try.prog 77 #[.string (s.extract k (k + 1)), .int .i64 n] w fun e w' => e = .returned (.string (str (manyL [s[k]] n))) ∧ w = w' := by
  rw [ex_one s k h]
  refine (many_any _ _ w (by rw [str_size]; simp; omega) (by omega)).mono fun e w' ⟨he, hb⟩ => ⟨by rw [he, str_list, Int.toNat_natCast], hb⟩
set_option maxHeartbeats 400000 in
theorem repS_any (s : ByteArray) (n : Int) (w : World) (hs : s.size ≤ maxLen) :
    Calls Try.prog 51 #[.string s, .int .i64 n] w fun e w' => e = .returned (strRes (repBits s.data.toList n)) ∧ w = w' := by
  cases hb : bitsOK s.data.toList
  · rw [rep_nb hb]
    go_enter Try.func51, Try.ntmps51
    go_wp2_with fail
    refine (l1Bits_any _ _ hs).mono ?_
    rintro e w' ⟨rfl, rfl⟩
    go_wp2
    go_ret2
    exact ⟨rfl, rfl⟩
  · cases ho : oddOK n
    · rw [rep_no ho]
      go_enter Try.func51, Try.ntmps51
      go_wp2_with fail
      refine (l1Bits_any _ _ hs).mono ?_
      rintro e w' ⟨rfl, rfl⟩
      go_wp2_with fail
      refine (oddS_any _ _).mono ?_
      rintro e w' ⟨rfl, rfl⟩
      go_wp2
      go_ret2
      exact ⟨rfl, rfl⟩
    · obtain ⟨n1, n9⟩ := odd_parts ho
      obtain ⟨m, rfl⟩ : ∃ m : Nat, n = m := ⟨n.toNat, by omega⟩
      have h6 := bits_le_size hb
      have hmul : s.size * m ≤ 600 * 9 := Nat.mul_le_mul h6 (by omega)
      have e1 : (s.size : Int) * (m : Int) = ((s.size * m : Nat) : Int) := by simp
      have q0 : 0 ≤ (s.size : Int) * (m : Int) := by rw [e1]; omega
      have q1 : (s.size : Int) * (m : Int) ≤ 5400 := by rw [e1]; omega
      by_cases h66 : s.size * m ≤ 600
      · rw [rep_yes hb ho (by simpa using h66)]
        rw [Int.toNat_natCast]
        have d1 : decide ((600 : Int) < (s.size : Int) * (m : Int)) = false := by rw [e1]; simp only [decide_eq_false_iff_not]; omega
        clear e1 hmul h66
        go_enter Try.func51, Try.ntmps51
        go_wp2_with fail
        refine (l1Bits_any _ _ hs).mono ?_
        rintro e w' ⟨rfl, rfl⟩
        go_wp2_with fail
        refine (oddS_any _ _).mono ?_
        rintro e w' ⟨rfl, rfl⟩
        go_wp2
        go_loop [6, 7] (fun v i => ∃ k : Nat, k ≤ s.size ∧ i = .int .i64 k ∧ v = .string (str (repTo s.data.toList m (k * m)))) (fun _ i => s.size - (intOf i).toNat)
        case atStart => exact ⟨0, Nat.zero_le _, rfl, by rw [Nat.zero_mul]; rfl⟩
        case round =>
          obtain ⟨k, hk, rfl, rfl⟩ := hrel
          by_cases hlt : k < s.size
          · have HX := Lib.hid (repTo_next (n := m) hlt (by omega))
            have z1 : (str (repTo s.data.toList m (k * m))).size ≤ 5400 := by
              rw [str_size, repTo_len]
              have : k * m ≤ 600 * 9 := Nat.mul_le_mul (by omega) (by omega)
              omega
            have z2 : (str (manyL [s[k]] m)).size ≤ 9 := by rw [str_size, manyL_len]; simp; omega
            go_wp2_with fail
            refine (manyOne_call s k m _ hlt (by omega)).mono ?_
            rintro e w' ⟨rfl, rfl⟩
            go_wp2
            go_round
            case rel => exact ⟨k + 1, by omega, by go_num, by rw [← HX.out]⟩
            case measure => simp [intOf]; omega
          · obtain rfl : k = s.size := by omega
            go_wp2
            go_ret2
            exact ⟨rfl, rfl⟩
      · rw [rep_n6 (by simpa using h66)]
        have d1 : decide ((600 : Int) < (s.size : Int) * (m : Int)) = true := by rw [e1]; simp only [decide_eq_true_eq]; omega
        clear e1 hmul h66
        go_enter Try.func51, Try.ntmps51
        go_wp2_with fail
        refine (l1Bits_any _ _ hs).mono ?_
        rintro e w' ⟨rfl, rfl⟩
        go_wp2_with fail
        refine (oddS_any _ _).mono ?_
        rintro e w' ⟨rfl, rfl⟩
        go_wp2
        go_ret2
        exact ⟨rfl, rfl⟩
end Go.Proofs.Ytmfblphnedoejaa
