/- Contracts of MajorityBits on both sides. -/
import Derived.Test.YtmfblphnedoejaaParse
import Derived.Test.YtmfblphnedoejaaRepeat
import Derived.Lib.Bytealg
namespace Go.Proofs.Ytmfblphnedoejaa
set_option maxRecDepth 20000
open Go.ChangeShapes Go.WideShapes Go.ChangeAt Go.RowKit
set_option linter.unusedVariables false
set_option linter.unusedSimpArgs false

def majBit (l : List UInt8) (n k : Nat) : UInt8 := if n < 2 * (cutQ l (k * n) n).count 49 then 49 else 48
def majTo (l : List UInt8) (n k : Nat) : List UInt8 := (List.range k).map (majBit l n)
theorem majTo_len (l : List UInt8) (n k : Nat) : (majTo l n k).length = k := by simp [majTo]
theorem majTo_getD (l : List UInt8) (n k j : Nat) (h : j < k) : (majTo l n k).getD j 0 = majBit l n j := by simp [majTo, List.getD_eq_getElem?_getD, h]
theorem majTo_next (l : List UInt8) (n k : Nat) : majTo l n (k + 1) = majTo l n k ++ [majBit l n k] := by simp [majTo, List.range_succ]
def major (l : List UInt8) (n : Int) : Option (List UInt8) := if bitsOK l && oddOK n && decide ((l.length : Int) % n = 0) then some (majTo l n.toNat (l.length / n.toNat)) else none
theorem major_nb {l : List UInt8} {n : Int} (h : bitsOK l = false) : major l n = none := by simp [major, h]
theorem major_no {l : List UInt8} {n : Int} (h : oddOK n = false) : major l n = none := by simp [major, h]
theorem major_nm {l : List UInt8} {n : Int} (h : ¬ (l.length : Int) % n = 0) : major l n = none := by simp [major, h]
theorem major_yes {l : List UInt8} {m N : Nat} (hb : bitsOK l = true) (ho : oddOK (m : Int) = true) (h : l.length = N * m) (hm : 0 < m) : major l (m : Int) = some (majTo l m N) := by
  have e : (l.length : Int) % (m : Int) = 0 := by rw [h, Int.natCast_mul]; exact Int.mul_emod_left _ _
  unfold major
  rw [hb, ho, decide_eq_true e, Int.toNat_natCast, h, Nat.mul_div_cancel _ hm]
  rfl
theorem count_le (l : List UInt8) : l.count 49 ≤ l.length := List.count_le_length
theorem take_count (x : List UInt8) (k : Nat) (h : k < x.length) : (x.take (k + 1)).count 49 = (x.take k).count 49 + (if x.getD k 0 = 49 then 1 else 0) := by
  rw [List.take_add_one, List.count_append, List.getElem?_eq_getElem h, List.getD_eq_getElem?_getD, List.getElem?_eq_getElem h]
  simp [List.count_cons]
theorem mul_facts {k N n L : Nat} (h : L = N * n) (hk : k < N) : k * n + n ≤ L := by
  have : (k + 1) * n ≤ N * n := Nat.mul_le_mul_right n hk
  rw [Nat.succ_mul] at this
  omega
/-- a cell of a row is filled twice -/
theorem row_next2 {w : World} {b : Nat} {e : TypeId} {n k : Nat} {f : Nat → Value} {z v0 : Value} (h : w.rowIs b e n (fun j => if j < k then f j else z)) {v : Value} (hv : v = f k) :
    ((w.setCell ⟨b, k, none⟩ v0).setCell ⟨b, k, none⟩ v).rowIs b e n (fun j => if j < k + 1 then f j else z) := by
  refine ((h.set k v0).set k v).congr fun j _ => ?_
  by_cases hj : j = k
  · subst hj; simp [hv]
  · simp only [hj, if_false]
    by_cases h1 : j < k
    · rw [if_pos h1, if_pos (by omega)]
    · rw [if_neg h1, if_neg (by omega)]
theorem oddNat {n : Int} (ho : oddOK n = true) : ∃ m : Nat, n = (m : Int) ∧ 0 < m := by
  obtain ⟨n1, n9⟩ := odd_parts ho
  exact ⟨n.toNat, by omega, by omega⟩
theorem cnt_any (s : ByteArray) (w : World) :
    Calls Try.prog 92 #[.string s, .string ⟨#[49]⟩] w fun e w' => e = .returned (.int .i64 (s.data.toList.count 49)) ∧ w = w' := by
  go_enter Try.func92, Try.ntmps92
  go_wp2
  rw [run_callFunc_extern Try.func111 (by kernel_rfl) (by kernel_rfl) (by kernel_rfl) (e := Extern.BytealgCount.count) (by kernel_rfl), Lib.run_countString]
  simp only [Result.andThen]
  rw [Oper.upon_value]
  go_wp2
  go_ret
  exact ⟨rfl, rfl⟩
set_option maxHeartbeats 1000000 in
theorem majI_in (l : List UInt8) (n N : Nat) (w : World) (hb : bitsOK l = true) (ho : oddOK (n : Int) = true) (hL : l.length = N * n) :
    Calls Try.prog 52 #[.string (str l), .int .i64 (n : Int)] w fun e w' => e = .returned (.tuple #[.string (str (majTo l n N)), .bool true]) ∧ Below w.heap.size w w' := by
  have z0 := str_size l
  have h6 := bits_le hb
  obtain ⟨n1, n9⟩ := odd_parts ho
  have HL := Lib.hid (fun u : World => isBits_yes l u hb)
  have HO := Lib.hid (fun u : World => (ho ▸ oddI_any (n : Int) u : Calls Try.prog 90 #[.int .i64 (n : Int)] u fun e w' => e = .returned (.bool true) ∧ u = w'))
  have e : (l.length : Int) % (n : Int) = 0 := by rw [hL, Int.natCast_mul]; exact Int.mul_emod_left _ _
  have b1 : (((l.length : Int) % (n : Int)) != 0) = false := by simpa using e
  have b2 : (((l.length : Int) % (n : Int)) == 0) = true := by simpa using e
  have eN : (l.length : Int) / (n : Int) = (N : Int) := by rw [hL, Int.natCast_mul, Int.mul_ediv_cancel _ (by omega)]
  have hN6 : N ≤ 600 := by
    have : N * 1 ≤ N * n := Nat.mul_le_mul_left N (by omega)
    omega
  have HLN := Lib.hid hL
  have hmk := fun u => run_make_row' (P := Try.prog) 22 5 (.int .u8 0) 1 Try.underlying22 info_u8 rfl .i64 .i64 N (by omega) (by omega) u
  clear hL ho e
  go_enter Try.func52, Try.ntmps52
  go_wp2_with fail
  refine (HL.out _).mono ?_
  rintro e w' ⟨rfl, rfl⟩
  go_wp2_with fail
  refine (HO.out _).mono ?_
  rintro e w' ⟨rfl, rfl⟩
  go_wp2
  go_loopw [7, 8, 31] (fun _ _ i wr => ∃ k : Nat, k ≤ N ∧ i = .int .i64 k ∧ wr.rowIs w.heap.size 5 N (fun j => if j < k then .int .u8 (majBit l n j).toNat else .int .u8 0) ∧ Below w.heap.size w wr) (fun _ _ i _ => N - (intOf i).toNat)
  case atStart => exact ⟨0, Nat.zero_le _, rfl, (World.rowIs_made w _ _ _).congr (fun _ _ => rfl), (Below.refl _ _).alloc (Nat.le_refl _) _⟩
  case round =>
    obtain ⟨k, hk, rfl, hrow, hbl⟩ := hrel
    clear hmk b1 b2 eN
    by_cases hlt : k < N
    · have hc := hrow.cell hlt
      have hf := hrow.frozen k
      obtain ⟨q, hq⟩ : ∃ q, q = k * n := ⟨_, rfl⟩
      have hqn : q + n ≤ l.length := by rw [hq]; exact mul_facts HLN.out hlt
      have p1 : (k : Int) * (n : Int) = (q : Int) := by rw [hq, Int.natCast_mul]
      have p2 : ((k : Int) + 1) * (n : Int) = (q : Int) + (n : Int) := by rw [Int.add_mul, p1]; omega
      have hcl : (cutQ l q n).length = n := cutQ_len hqn
      have hcn : (cutQ l q n).count 49 ≤ n := by have := count_le (cutQ l q n); omega
      have HC := Lib.hid (fun u : World => cnt_any (str (cutQ l q n)) u)
      rw [str_list] at HC
      have q1 := ex_cutQ l q n (q + n) rfl
      have HM : Hid (majBit l n k = if n < 2 * (cutQ l q n).count 49 then 49 else 48) := by rw [hq]; rfl
      clear hq
      generalize (cutQ l q n).count 49 = cnt at *
      by_cases hm : n < 2 * cnt
      · have HR := Lib.hid hrow
        have hrow1 := hrow.set k (.int .u8 48)
        have hc1 := hrow1.cell hlt
        have hf1 := hrow1.frozen k
        clear hrow hrow1
        go_wp2_with fail
        refine (HC.out _).mono ?_
        rintro e w' ⟨rfl, rfl⟩
        go_wp2
        go_roundw
        case rel => exact ⟨k + 1, by omega, by go_num, row_next2 HR.out (by rw [HM.out, if_pos hm]; rfl), (hbl.setCell (Nat.le_refl _) _).setCell (Nat.le_refl _) _⟩
        case measure => simp [intOf]; omega
      · skip
        go_wp2_with fail
        refine (HC.out _).mono ?_
        rintro e w' ⟨rfl, rfl⟩
        go_wp2
        go_roundw
        case rel => exact ⟨k + 1, by omega, by go_num, row_next hrow (by rw [HM.out, if_neg hm]; rfl), hbl.setCell (Nat.le_refl _) _⟩
        case measure => simp [intOf]; omega
    · obtain rfl : k = N := by omega
      have hconv := conv_row (P := Try.prog) (src := 22) (dst := 9) (majTo l n k) (n := k) (majTo_len _ _ _) (Nat.le_refl _) hrow (fun j hj => by rw [if_pos hj, majTo_getD _ _ _ _ hj]) Try.underlying22 Try.underlying5 Try.underlying9
      clear hrow
      go_wp2
      go_ret2
      exact ⟨rfl, hbl⟩
theorem majI_any (l : List UInt8) (n : Int) (w : World) (hl : l.length ≤ 2000000) :
    Calls Try.prog 52 #[.string (str l), .int .i64 n] w fun e w' => e = .returned (strRes (major l n)) ∧ Below w.heap.size w w' := by
  have z0 := str_size l
  have hm : (str l).size ≤ maxLen := by rw [str_size]; unfold maxLen; omega
  have HL := Lib.hid (fun u : World => (isBits_any (str l) u hm : Calls Try.prog 62 #[.string (str l)] u fun e w' => e = .returned (.bool (bitsOK (str l).data.toList)) ∧ u = w'))
  rw [str_list] at HL
  have HO := Lib.hid (fun u : World => oddI_any n u)
  cases hb : bitsOK l
  · rw [major_nb hb]
    rw [hb] at HL
    go_enter Try.func52, Try.ntmps52
    go_wp2_with fail
    refine (HL.out _).mono ?_
    rintro e w' ⟨rfl, rfl⟩
    go_wp2
    go_ret2
    exact ⟨rfl, Below.refl _ _⟩
  · rw [hb] at HL
    cases ho : oddOK n
    · rw [major_no ho]
      rw [ho] at HO
      go_enter Try.func52, Try.ntmps52
      go_wp2_with fail
      refine (HL.out _).mono ?_
      rintro e w' ⟨rfl, rfl⟩
      go_wp2_with fail
      refine (HO.out _).mono ?_
      rintro e w' ⟨rfl, rfl⟩
      go_wp2
      go_ret2
      exact ⟨rfl, Below.refl _ _⟩
    · obtain ⟨m, rfl, hm0⟩ := oddNat ho
      by_cases h : (l.length : Int) % (m : Int) = 0
      · have hN : l.length = l.length / m * m := (Nat.div_mul_cancel (Nat.dvd_of_mod_eq_zero (by omega))).symm
        rw [major_yes hb ho hN hm0]
        exact majI_in l m _ w hb ho hN
      · rw [major_nm h]
        rw [ho] at HO
        have b1 : (((l.length : Int) % (m : Int)) != 0) = true := by simpa using h
        have b2 : (((l.length : Int) % (m : Int)) == 0) = false := by simpa using h
        clear h
        go_enter Try.func52, Try.ntmps52
        go_wp2_with fail
        refine (HL.out _).mono ?_
        rintro e w' ⟨rfl, rfl⟩
        go_wp2_with fail
        refine (HO.out _).mono ?_
        rintro e w' ⟨rfl, rfl⟩
        go_wp2
        go_ret2
        exact ⟨rfl, Below.refl _ _⟩
theorem majI_arr (s : ByteArray) (n : Int) (w : World) (hl : s.size ≤ 2000000) : Calls Try.prog 52 #[.string s, .int .i64 n] w fun e w' => e = .returned (strRes (major s.data.toList n)) ∧ Below w.heap.size w w' := by
  have := majI_any s.data.toList n w (by rw [data_length]; exact hl)
  rw [str_of] at this
  exact this
end Go.Proofs.Ytmfblphnedoejaa
