/- Contracts of InterleaveBits and DeinterleaveBits. -/
import Derived.Test.YtmfblphnedoejaaSums
import Derived.WalkSpells
import Derived.IntWalk
namespace Go.Proofs.Ytmfblphnedoejaa
set_option maxRecDepth 20000
open Go.ChangeShapes Go.WideShapes Go.ChangeAt Go.RowKit
set_option linter.unusedVariables false
set_option linter.unusedSimpArgs false

/-- where the bit with index k goes: r rows of c bits, read in columns -/
def pAt (r c k : Nat) : Nat := k % r * c + k / r
theorem pAt_lt {r c k : Nat} (hr : 0 < r) (hk : k < r * c) : pAt r c k < r * c := by
  unfold pAt
  have h1 : k % r < r := Nat.mod_lt _ hr
  have h2 : k / r < c := (Nat.div_lt_iff_lt_mul hr).2 (by rw [Nat.mul_comm]; exact hk)
  have h3 : k % r * c + c ≤ r * c := by
    have : (k % r + 1) * c ≤ r * c := Nat.mul_le_mul_right c h1
    rwa [Nat.succ_mul] at this
  omega
theorem pAt_inv {r c k : Nat} (hr : 0 < r) (hk : k < r * c) : pAt c r (pAt r c k) = k := by
  unfold pAt
  have h2 : k / r < c := (Nat.div_lt_iff_lt_mul hr).2 (by rw [Nat.mul_comm]; exact hk)
  have hc : 0 < c := Nat.lt_of_le_of_lt (Nat.zero_le _) h2
  have e1 : (k % r * c + k / r) % c = k / r := by
    rw [Nat.add_comm, Nat.add_mul_mod_self_right, Nat.mod_eq_of_lt h2]
  have e2 : (k % r * c + k / r) / c = k % r := by
    rw [Nat.add_comm, Nat.add_mul_div_right _ _ hc, Nat.div_eq_of_lt h2, Nat.zero_add]
  rw [e1, e2, Nat.add_comm, Nat.mod_add_div' k r]
theorem pAt_iff {r c j k : Nat} (hr : 0 < r) (hc : 0 < c) (hj : j < r * c) (hk : k < r * c) : j = pAt r c k ↔ pAt c r j = k := by
  constructor
  · rintro rfl; exact pAt_inv hr hk
  · rintro rfl; exact (pAt_inv hc (by rwa [Nat.mul_comm])).symm
/-- bits in the order of the places -/
def permL (r c : Nat) (l : List UInt8) : List UInt8 := (List.range l.length).map fun j => l.getD (pAt r c j) 0
theorem permL_len (r c : Nat) (l : List UInt8) : (permL r c l).length = l.length := by simp [permL]
theorem permL_getD (r c : Nat) (l : List UInt8) (j : Nat) (h : j < l.length) : (permL r c l).getD j 0 = l.getD (pAt r c j) 0 := by
  simp [permL, List.getD_eq_getElem?_getD, h]
/-- bits that can be written in rows -/
def rowsOK (l : List UInt8) (n : Int) : Bool := bitsOK l && inB n 1 40 && decide ((l.length : Int) % n = 0)
def interL (l : List UInt8) (n : Int) : Option (List UInt8) := if rowsOK l n then some (permL n.toNat (l.length / n.toNat) l) else none
def deinterL (l : List UInt8) (n : Int) : Option (List UInt8) := if rowsOK l n then some (permL (l.length / n.toNat) n.toNat l) else none
theorem inter_no {l : List UInt8} {n : Int} (h : rowsOK l n = false) : interL l n = none := if_neg (by simp [h])
theorem deinter_no {l : List UInt8} {n : Int} (h : rowsOK l n = false) : deinterL l n = none := if_neg (by simp [h])
theorem inter_yes {l : List UInt8} {n : Int} (h : rowsOK l n = true) : interL l n = some (permL n.toNat (l.length / n.toNat) l) := if_pos h
theorem deinter_yes {l : List UInt8} {n : Int} (h : rowsOK l n = true) : deinterL l n = some (permL (l.length / n.toNat) n.toNat l) := if_pos h
theorem rows_nb {s : ByteArray} {n : Int} (h : bitsOK s.data.toList = false) : rowsOK s.data.toList n = false := by simp [rowsOK, h]
theorem rows_ni {s : ByteArray} {n : Int} (h : inB n 1 40 = false) : rowsOK s.data.toList n = false := by simp [rowsOK, h]
theorem rows_nd {s : ByteArray} {n : Int} (h : ¬ (s.size : Int) % n = 0) : rowsOK s.data.toList n = false := by simp [rowsOK, data_length, h]
theorem rows_yes {s : ByteArray} {n : Int} (h : bitsOK s.data.toList = true) (h1 : inB n 1 40 = true) (h2 : (s.size : Int) % n = 0) : rowsOK s.data.toList n = true := by simp [rowsOK, data_length, h, h1, h2]
/-- the numbers at a round -/
theorem pAt_facts {r c k n : Nat} (hr : 1 ≤ r) (hn : n = r * c) (hk : k < n) (hn6 : n ≤ 600) :
    0 ≤ (k : Int) % (r : Int) * (c : Int) ∧ 0 ≤ (k : Int) / (r : Int) ∧ (k : Int) % (r : Int) * (c : Int) + (k : Int) / (r : Int) < (n : Int) ∧ k % r * c + k / r < n ∧ (k : Int) % (r : Int) * (c : Int) ≤ 600 ∧ (k : Int) / (r : Int) ≤ 600 ∧ 0 ≤ (k : Int) % (r : Int) * (c : Int) + (k : Int) / (r : Int) := by
  have h := pAt_lt (r := r) (c := c) (k := k) hr (by omega)
  rw [← hn] at h
  unfold pAt at h
  have e1 : (k : Int) % (r : Int) * (c : Int) = ((k % r * c : Nat) : Int) := by simp
  have e2 : (k : Int) / (r : Int) = ((k / r : Nat) : Int) := by simp
  rw [e1, e2]
  clear e1 e2
  generalize k % r * c = a at h ⊢
  generalize k / r = b at h ⊢
  omega
theorem pos_of {r c n j : Nat} (h : n = r * c) (hj : j < n) : 0 < c := by
  rcases Nat.eq_zero_or_pos c with h0 | h0
  · subst h0; simp at h; omega
  · exact h0
/-- one more bit is at its place -/
theorem row_perm {w : World} {b : Nat} {e : TypeId} {r c n k : Nat} {f : Nat → Value} {z : Value} (hr : 1 ≤ r) (hn : n = r * c) (hk : k < n)
    (h : w.rowIs b e n (fun j => if pAt c r j < k then f (pAt c r j) else z)) {v : Value} (hv : v = f k) :
    (w.setCell ⟨b, k % r * c + k / r, none⟩ v).rowIs b e n (fun j => if pAt c r j < k + 1 then f (pAt c r j) else z) := by
  refine (h.set (k % r * c + k / r) v).congr fun j hj => ?_
  have hc := pos_of hn hk
  have hi := pAt_iff (r := r) (c := c) (j := j) (k := k) hr hc (by omega) (by omega)
  unfold pAt at hi
  by_cases hjk : j = k % r * c + k / r
  · rw [if_pos hjk]
    have h2 : pAt c r j = k := hi.1 hjk
    rw [h2, if_pos (by omega), hv]
  · rw [if_neg hjk]
    have h2 : pAt c r j ≠ k := fun e => hjk (hi.2 e)
    by_cases h3 : pAt c r j < k
    · rw [if_pos h3, if_pos (by omega)]
    · rw [if_neg h3, if_neg (by omega)]

theorem inB_nat {n a b : Int} (h : inB n a b = true) (h0 : 0 ≤ a := by omega) : ∃ r : Nat, n = r ∧ a ≤ r ∧ (r : Int) ≤ b := by
  simp only [inB, Bool.and_eq_true, decide_eq_true_eq] at h
  exact ⟨n.toNat, by omega, by omega, by omega⟩
theorem rowsI_any (n : Int) (w : World) : Calls Try.prog 63 #[.int .i64 n] w fun e w' => e = .returned (.bool (inB n 1 40)) ∧ w = w' := by
  by_cases h : 1 ≤ n
  · by_cases h' : n ≤ 40
    · rw [inB_yes h h']
      go_enter Try.func63, Try.ntmps63
      go_wp2
      go_ret
      exact ⟨rfl, rfl⟩
    · rw [inB_no (by omega)]
      go_enter Try.func63, Try.ntmps63
      go_wp2
      go_ret
      exact ⟨rfl, rfl⟩
  · rw [inB_no (by omega)]
    go_enter Try.func63, Try.ntmps63
    go_wp2
    go_ret
    exact ⟨rfl, rfl⟩
set_option maxHeartbeats 400000 in
theorem deI_yes (s : ByteArray) (r c : Nat) (w : World) (hs : s.size ≤ maxLen) (hb : bitsOK s.data.toList = true) (h1 : 1 ≤ r) (h4 : r ≤ 40) (hc : s.size = r * c) :
    Calls Try.prog 18 #[.string s, .int .i64 r] w fun e w' => e = .returned (.tuple #[.string ⟨(permL c r s.data.toList).toArray⟩, .bool true]) ∧ Below w.heap.size w w' := by
  have h6 := bits_le_size hb
  have hi := inB_yes (a := (r : Int)) (b := 1) (c := 40) (by omega) (by omega)
  have hmk := fun u => run_make_row' (P := Try.prog) 22 5 (.int .u8 0) 1 Try.underlying22 info_u8 rfl .i64 .i64 s.size (by omega) (by omega) u
  have HC := Lib.hid hc
  have hq : (s.size : Int) / (r : Int) = (c : Int) := by rw [hc]; rw [Int.natCast_mul, Int.mul_ediv_cancel_left _ (by omega)]
  have d1 : ((s.size : Int) % (r : Int) != 0) = false := by rw [hc]; simp
  have hcb : c ≤ 600 := by have : 1 * c ≤ r * c := Nat.mul_le_mul_right c h1; omega
  clear hc
  go_enter Try.func18, Try.ntmps18
  go_wp2_with (first | (go_at_call 62; refine (isBits_any _ _ hs).mono ?_; rintro e w' ⟨rfl, rfl⟩) | (go_at_call 63; refine (rowsI_any _ _).mono ?_; rintro e w' ⟨rfl, rfl⟩))
  go_loopw [8, 33] (fun _ i wr => ∃ k : Nat, k ≤ s.size ∧ i = .int .i64 k ∧ wr.rowIs w.heap.size 5 s.size (fun j => if pAt c r j < k then .int .u8 (s.data.toList.getD (pAt c r j) 0).toNat else .int .u8 0) ∧ Below w.heap.size w wr) (fun _ i _ => s.size - (intOf i).toNat)
  case atStart => exact ⟨0, Nat.zero_le _, rfl, (World.rowIs_made w _ _ _).congr (fun _ _ => rfl), (Below.refl _ _).alloc (Nat.le_refl _) _⟩
  case round =>
    obtain ⟨k, hk, rfl, hrow, hb⟩ := hrel
    by_cases hlt : k < s.size
    · obtain ⟨f1, f2, f3, f4, f5, f6, f7⟩ := pAt_facts h1 HC.out hlt h6
      have hc := hrow.cell f4
      have hf := hrow.frozen (k % r * c + k / r)
      clear hmk
      go_wp2
      refine wp_region_still_tail 14 (by kernel_rfl) (by kernel_rfl) ?_
      simp only [List.take_succ_cons, List.take_zero, List.drop_succ_cons, List.drop_zero]
      repeat (refine wpStill_step (fun K hK => ?_); (try go_simp); (try simp only [IntWalk.iteOmega]); (try go_ints); (try simp (disch := omega) only [dif_pos]); (try go_simp); refine hK _ ?_; clear hK K)
      refine wpStill_nil ?_
      change wpList _ _ _ _ _ wr.drew
      go_wp2
      go_roundw
      case rel => exact ⟨k + 1, by omega, by go_num, row_perm (f := fun j => .int .u8 (s.data.toList.getD j 0).toNat) h1 HC.out hlt hrow.drew (by rw [getD_at s k hlt]), hb.drew.setCell (Nat.le_refl _) _⟩
      case measure => simp [intOf]; omega
    · obtain rfl : k = s.size := by omega
      have hlen : s.data.toList.length = r * c := by rw [data_length]; exact HC.out
      have hconv := conv_row (P := Try.prog) (src := 22) (dst := 9) (permL c r s.data.toList) (n := s.size) (by rw [permL_len, data_length]) (Nat.le_refl _) hrow (fun j hj => by rw [if_pos (by have := pAt_lt (r := c) (c := r) (k := j) (pos_of HC.out hj) (by rw [Nat.mul_comm, ← HC.out]; exact hj); rw [Nat.mul_comm, ← HC.out] at this; exact this), permL_getD _ _ _ _ (by rw [data_length]; exact hj)]) Try.underlying22 Try.underlying5 Try.underlying9
      clear hrow hlen
      go_wp2
      go_ret2
      exact ⟨rfl, hb⟩
theorem deI_any (s : ByteArray) (n : Int) (w : World) (hs : s.size ≤ maxLen) :
    Calls Try.prog 18 #[.string s, .int .i64 n] w fun e w' => e = .returned (strRes (deinterL s.data.toList n)) ∧ Below w.heap.size w w' := by
  cases hb : bitsOK s.data.toList
  · rw [deinter_no (rows_nb hb)]
    go_enter Try.func18, Try.ntmps18
    go_wp2_with (go_at_call 62; refine (isBits_any _ _ hs).mono ?_; rintro e w' ⟨rfl, rfl⟩)
    go_ret2
    exact ⟨rfl, Below.refl _ _⟩
  · cases hi : inB n 1 40
    · rw [deinter_no (rows_ni hi)]
      go_enter Try.func18, Try.ntmps18
      go_wp2_with (first | (go_at_call 62; refine (isBits_any _ _ hs).mono ?_; rintro e w' ⟨rfl, rfl⟩) | (go_at_call 63; refine (rowsI_any _ _).mono ?_; rintro e w' ⟨rfl, rfl⟩))
      go_ret2
      exact ⟨rfl, Below.refl _ _⟩
    · obtain ⟨r, rfl, h1, h4⟩ := inB_nat hi
      by_cases hd : (s.size : Int) % (r : Int) = 0
      · rw [deinter_yes (rows_yes hb hi hd)]
        obtain ⟨c, hc⟩ : ∃ c, s.size = r * c := ⟨s.size / r, (Nat.mul_div_cancel' (Nat.dvd_of_mod_eq_zero (by omega))).symm⟩
        have hq : s.data.toList.length / (r : Int).toNat = c := by rw [data_length, Int.toNat_natCast, hc, Nat.mul_div_cancel_left _ (by omega)]
        rw [hq, Int.toNat_natCast]
        exact deI_yes s r c w hs hb (by omega) (by omega) hc
      · rw [deinter_no (rows_nd hd)]
        have h6 := bits_le_size hb
        have d1 : ((s.size : Int) % (r : Int) != 0) = true := by simpa using hd
        clear hd
        go_enter Try.func18, Try.ntmps18
        go_wp2_with (first | (go_at_call 62; refine (isBits_any _ _ hs).mono ?_; rintro e w' ⟨rfl, rfl⟩) | (go_at_call 63; refine (rowsI_any _ _).mono ?_; rintro e w' ⟨rfl, rfl⟩))
        go_ret2
        exact ⟨rfl, Below.refl _ _⟩
set_option maxHeartbeats 400000 in
theorem inI_yes (s : ByteArray) (r c : Nat) (w : World) (hs : s.size ≤ maxLen) (hb : bitsOK s.data.toList = true) (h1 : 1 ≤ r) (h4 : r ≤ 40) (hc : s.size = r * c) :
    Calls Try.prog 16 #[.string s, .int .i64 r] w fun e w' => e = .returned (.tuple #[.string ⟨(permL r c s.data.toList).toArray⟩, .bool true]) ∧ Below w.heap.size w w' := by
  have h6 := bits_le_size hb
  have hi := inB_yes (a := (r : Int)) (b := 1) (c := 40) (by omega) (by omega)
  have hmk := fun u => run_make_row' (P := Try.prog) 22 5 (.int .u8 0) 1 Try.underlying22 info_u8 rfl .i64 .i64 s.size (by omega) (by omega) u
  have HC := Lib.hid hc
  have hq : (s.size : Int) / (r : Int) = (c : Int) := by rw [hc]; rw [Int.natCast_mul, Int.mul_ediv_cancel_left _ (by omega)]
  have d1 : ((s.size : Int) % (r : Int) != 0) = false := by rw [hc]; simp
  have hcb : c ≤ 600 := by have : 1 * c ≤ r * c := Nat.mul_le_mul_right c h1; omega
  clear hc
  go_enter Try.func16, Try.ntmps16
  go_wp2_with (first | (go_at_call 62; refine (isBits_any _ _ hs).mono ?_; rintro e w' ⟨rfl, rfl⟩) | (go_at_call 63; refine (rowsI_any _ _).mono ?_; rintro e w' ⟨rfl, rfl⟩))
  go_loopw [8, 33] (fun _ i wr => ∃ k : Nat, k ≤ s.size ∧ i = .int .i64 k ∧ wr.rowIs w.heap.size 5 s.size (fun j => if j < k then .int .u8 (s.data.toList.getD (pAt r c j) 0).toNat else .int .u8 0) ∧ Below w.heap.size w wr) (fun _ i _ => s.size - (intOf i).toNat)
  case atStart => exact ⟨0, Nat.zero_le _, rfl, (World.rowIs_made w _ _ _).congr (fun _ _ => rfl), (Below.refl _ _).alloc (Nat.le_refl _) _⟩
  case round =>
    obtain ⟨k, hk, rfl, hrow, hb⟩ := hrel
    by_cases hlt : k < s.size
    · obtain ⟨f1, f2, f3, f4, f5, f6, f7⟩ := pAt_facts h1 HC.out hlt h6
      have hc := hrow.cell hlt
      have hf := hrow.frozen k
      clear hmk
      go_wp2
      refine wp_region_still_tail 14 (by kernel_rfl) (by kernel_rfl) ?_
      simp only [List.take_succ_cons, List.take_zero, List.drop_succ_cons, List.drop_zero]
      repeat (refine wpStill_step (fun K hK => ?_); (try go_simp); (try simp only [IntWalk.iteOmega]); (try go_ints); (try simp (disch := omega) only [dif_pos]); (try go_simp); refine hK _ ?_; clear hK K)
      refine wpStill_nil ?_
      change wpList _ _ _ _ _ wr.drew
      go_wp2
      go_roundw
      case rel => exact ⟨k + 1, by omega, by go_num, row_next hrow.drew (by rw [← getD_at s _ f4]; rfl), hb.drew.setCell (Nat.le_refl _) _⟩
      case measure => simp [intOf]; omega
    · obtain rfl : k = s.size := by omega
      have hconv := conv_row (P := Try.prog) (src := 22) (dst := 9) (permL r c s.data.toList) (n := s.size) (by rw [permL_len, data_length]) (Nat.le_refl _) hrow (fun j hj => by rw [if_pos hj, permL_getD _ _ _ _ (by rw [data_length]; exact hj)]) Try.underlying22 Try.underlying5 Try.underlying9
      clear hrow
      go_wp2
      go_ret2
      exact ⟨rfl, hb⟩
theorem inI_any (s : ByteArray) (n : Int) (w : World) (hs : s.size ≤ maxLen) :
    Calls Try.prog 16 #[.string s, .int .i64 n] w fun e w' => e = .returned (strRes (interL s.data.toList n)) ∧ Below w.heap.size w w' := by
  cases hb : bitsOK s.data.toList
  · rw [inter_no (rows_nb hb)]
    go_enter Try.func16, Try.ntmps16
    go_wp2_with (go_at_call 62; refine (isBits_any _ _ hs).mono ?_; rintro e w' ⟨rfl, rfl⟩)
    go_ret2
    exact ⟨rfl, Below.refl _ _⟩
  · cases hi : inB n 1 40
    · rw [inter_no (rows_ni hi)]
      go_enter Try.func16, Try.ntmps16
      go_wp2_with (first | (go_at_call 62; refine (isBits_any _ _ hs).mono ?_; rintro e w' ⟨rfl, rfl⟩) | (go_at_call 63; refine (rowsI_any _ _).mono ?_; rintro e w' ⟨rfl, rfl⟩))
      go_ret2
      exact ⟨rfl, Below.refl _ _⟩
    · obtain ⟨r, rfl, h1, h4⟩ := inB_nat hi
      by_cases hd : (s.size : Int) % (r : Int) = 0
      · rw [inter_yes (rows_yes hb hi hd)]
        obtain ⟨c, hc⟩ : ∃ c, s.size = r * c := ⟨s.size / r, (Nat.mul_div_cancel' (Nat.dvd_of_mod_eq_zero (by omega))).symm⟩
        have hq : s.data.toList.length / (r : Int).toNat = c := by rw [data_length, Int.toNat_natCast, hc, Nat.mul_div_cancel_left _ (by omega)]
        rw [hq, Int.toNat_natCast]
        exact inI_yes s r c w hs hb (by omega) (by omega) hc
      · rw [inter_no (rows_nd hd)]
        have h6 := bits_le_size hb
        have d1 : ((s.size : Int) % (r : Int) != 0) = true := by simpa using hd
        clear hd
        go_enter Try.func16, Try.ntmps16
        go_wp2_with (first | (go_at_call 62; refine (isBits_any _ _ hs).mono ?_; rintro e w' ⟨rfl, rfl⟩) | (go_at_call 63; refine (rowsI_any _ _).mono ?_; rintro e w' ⟨rfl, rfl⟩))
        go_ret2
        exact ⟨rfl, Below.refl _ _⟩
theorem rowsOK_and (s : ByteArray) (n : Int) : rowsOK s.data.toList n = (bitsOK s.data.toList && inB n 1 40 && ((s.size : Int) % n == 0)) := by
  unfold rowsOK; rw [data_length]; rfl
set_option maxHeartbeats 400000 in
theorem l6Rows_any (s : ByteArray) (n : Int) (w : World) (hs : s.size ≤ maxLen) :
    Calls Try.prog 64 #[.string s, .int .i64 n] w fun e w' => e = .returned (.bool (rowsOK s.data.toList n)) ∧ w = w' := by
  cases hb : bitsOK s.data.toList
  · rw [rows_nb hb]
    go_enter Try.func64, Try.ntmps64
    go_wp2_with (go_at_call 68; refine (l1Bits_any _ _ hs).mono ?_; rintro e w' ⟨rfl, rfl⟩)
    go_ret
    exact ⟨rfl, rfl⟩
  · have h6 := bits_le_size hb
    cases hi : inB n 1 40
    · rw [rows_ni hi]
      go_enter Try.func64, Try.ntmps64
      go_wp2_with (first | (go_at_call 68; refine (l1Bits_any _ _ hs).mono ?_; rintro e w' ⟨rfl, rfl⟩) | (go_at_call 97; refine (l1In_any _ _ _ _).mono ?_; rintro e w' ⟨rfl, rfl⟩))
      go_ret
      exact ⟨rfl, rfl⟩
    · obtain ⟨r, rfl, h1, h4⟩ := inB_nat hi
      rw [rowsOK_and, hb, hi]
      go_enter Try.func64, Try.ntmps64
      go_wp2_with (first | (go_at_call 68; refine (l1Bits_any _ _ hs).mono ?_; rintro e w' ⟨rfl, rfl⟩) | (go_at_call 97; refine (l1In_any _ _ _ _).mono ?_; rintro e w' ⟨rfl, rfl⟩))
      go_ret
      exact ⟨ret_bool (by simp), rfl⟩
theorem rows_split {s : ByteArray} {n : Int} (h : rowsOK s.data.toList n = true) : bitsOK s.data.toList = true ∧ ∃ r c : Nat, n = r ∧ 1 ≤ r ∧ r ≤ 40 ∧ s.size = r * c ∧ s.data.toList.length / n.toNat = c ∧ s.size ≤ 600 := by
  unfold rowsOK at h
  simp only [Bool.and_eq_true, decide_eq_true_eq, data_length] at h
  obtain ⟨⟨hb, hi⟩, hd⟩ := h
  obtain ⟨r, rfl, h1, h4⟩ := inB_nat hi
  have hc : s.size = r * (s.size / r) := (Nat.mul_div_cancel' (Nat.dvd_of_mod_eq_zero (by omega))).symm
  exact ⟨hb, r, s.size / r, rfl, by omega, by omega, hc, by rw [data_length, Int.toNat_natCast], bits_le_size hb⟩
set_option maxHeartbeats 400000 in
theorem deS_any (s : ByteArray) (n : Int) (w : World) (hs : s.size ≤ 1048576) :
    Calls Try.prog 19 #[.string s, .int .i64 n] w fun e w' => e = .returned (strRes (deinterL s.data.toList n)) ∧ Below w.heap.size w w' := by
  have hm : s.size ≤ maxLen := by unfold maxLen; omega
  have hmk := fun u => run_make_row' (P := Try.prog) 22 5 (.int .u8 0) 1 Try.underlying22 info_u8 rfl .i64 .i64 s.size (by omega) (by omega) u
  cases hR : rowsOK s.data.toList n
  · rw [deinter_no hR]
    go_enter Try.func19, Try.ntmps19
    go_wp2_with (go_at_call 64; refine (l6Rows_any _ _ _ hm).mono ?_; rintro e w' ⟨rfl, rfl⟩)
    go_ret2
    exact ⟨rfl, (Below.refl _ _).alloc (Nat.le_refl _) _⟩
  · rw [deinter_yes hR]
    obtain ⟨hb, r, c, rfl, h1, h4, hc, hq0, h6⟩ := rows_split hR
    rw [hq0, Int.toNat_natCast]
    clear hq0 hb
    have HC := Lib.hid hc
    have hq : (s.size : Int) / (r : Int) = (c : Int) := by rw [hc]; rw [Int.natCast_mul, Int.mul_ediv_cancel_left _ (by omega)]
    have hcb : c ≤ 600 := by have : 1 * c ≤ r * c := Nat.mul_le_mul_right c h1; omega
    clear hc
    go_enter Try.func19, Try.ntmps19
    go_wp2_with (go_at_call 64; refine (l6Rows_any _ _ _ hm).mono ?_; rintro e w' ⟨rfl, rfl⟩)
    go_loopw [7] (fun i wr => ∃ k : Nat, k ≤ s.size ∧ i = .int .i64 k ∧ wr.rowIs w.heap.size 5 s.size (fun j => if pAt c r j < k then .int .u8 (s.data.toList.getD (pAt c r j) 0).toNat else .int .u8 0) ∧ Below w.heap.size w wr) (fun i _ => s.size - (intOf i).toNat)
    case atStart => exact ⟨0, Nat.zero_le _, rfl, (World.rowIs_made w _ _ _).congr (fun _ _ => rfl), (Below.refl _ _).alloc (Nat.le_refl _) _⟩
    case round =>
      obtain ⟨k, hk, rfl, hrow, hb⟩ := hrel
      by_cases hlt : k < s.size
      · obtain ⟨f1, f2, f3, f4, f5, f6, f7⟩ := pAt_facts h1 HC.out hlt h6
        have hc := hrow.cell f4
        have hf := hrow.frozen (k % r * c + k / r)
        clear hmk
        go_wp2
        refine wp_region_still_tail 17 (by kernel_rfl) (by kernel_rfl) ?_
        simp only [List.take_succ_cons, List.take_zero, List.drop_succ_cons, List.drop_zero]
        repeat (refine wpStill_step (fun K hK => ?_); (try go_simp); (try simp only [IntWalk.iteOmega]); (try go_ints); (try simp (disch := omega) only [dif_pos]); (try go_simp); refine hK _ ?_; clear hK K)
        refine wpStill_nil ?_
        change wpList _ _ _ _ _ wr.drew
        go_wp2
        go_roundw
        case rel => exact ⟨k + 1, by omega, by go_num, row_perm (f := fun j => .int .u8 (s.data.toList.getD j 0).toNat) h1 HC.out hlt hrow.drew (by rw [getD_at s k hlt]), hb.drew.setCell (Nat.le_refl _) _⟩
        case measure => simp [intOf]; omega
      · obtain rfl : k = s.size := by omega
        have hconv := conv_row (P := Try.prog) (src := 22) (dst := 9) (permL c r s.data.toList) (n := s.size) (by rw [permL_len, data_length]) (Nat.le_refl _) hrow (fun j hj => by rw [if_pos (by have := pAt_lt (r := c) (c := r) (k := j) (pos_of HC.out hj) (by rw [Nat.mul_comm, ← HC.out]; exact hj); rw [Nat.mul_comm, ← HC.out] at this; exact this), permL_getD _ _ _ _ (by rw [data_length]; exact hj)]) Try.underlying22 Try.underlying5 Try.underlying9
        clear hrow
        go_wp2
        go_ret2
        exact ⟨rfl, hb⟩
end Go.Proofs.Ytmfblphnedoejaa
