/- Contracts of DiffEncode. -/
import Derived.Test.YtmfblphnedoejaaDiff
import Derived.Test.YtmfblphnedoejaaMem
import Derived.Outline
import Derived.Deep.RegionHeld3
import Derived.Deep.DrawnRows
namespace Go.Proofs.Ytmfblphnedoejaa
set_option maxRecDepth 20000
open Go.ChangeShapes Go.WideShapes Go.ChangeAt Go.RowKit
set_option linter.unusedVariables false
set_option linter.unusedSimpArgs false

/-- bits, or nothing -/
def orNone (l : List UInt8) : Option (List UInt8) := if bitsOK l then some l else none
theorem bitsOK_mk {l : List UInt8} (h : l.length ≤ 600) (hb : ∀ c ∈ l, bit1 c = true) : bitsOK l = true := by
  simp only [bitsOK, Bool.and_eq_true, decide_eq_true_eq, List.all_eq_true]; exact ⟨h, hb⟩
theorem bitsOK_long {l : List UInt8} (h : ¬ l.length ≤ 600) : bitsOK l = false := by
  simp [bitsOK, h]
theorem bitsOr_yes (l : List UInt8) (w : World) (h : bitsOK l = true) :
    Calls Try.prog 67 #[.string ⟨l.toArray⟩] w fun e w' => e = .returned (.tuple #[.string ⟨l.toArray⟩, .bool true]) ∧ w = w' := by
  have hl := bits_le h
  have hs : (⟨l.toArray⟩ : ByteArray).size ≤ maxLen := by unfold maxLen; simp [ByteArray.size]; omega
  have hb : bitsOK (⟨l.toArray⟩ : ByteArray).data.toList = true := by simpa using h
  obtain ⟨s, HE⟩ : ∃ s : ByteArray, s = ⟨l.toArray⟩ := ⟨_, rfl⟩
  rw [← HE] at hs hb ⊢
  clear HE h hl
  go_enter Try.func67, Try.ntmps67
  go_wp2_with (go_at_call 62; refine (isBits_any _ _ hs).mono ?_; rintro e w' ⟨rfl, rfl⟩)
  go_ret2
  exact ⟨rfl, rfl⟩
theorem bitsOr_no (l : List UInt8) (w : World) (hl : l.length ≤ 1048576) (h : bitsOK l = false) :
    Calls Try.prog 67 #[.string ⟨l.toArray⟩] w fun e w' => e = .returned (.tuple #[.string ⟨#[]⟩, .bool false]) ∧ w = w' := by
  have hs : (⟨l.toArray⟩ : ByteArray).size ≤ maxLen := by unfold maxLen; simp [ByteArray.size]; omega
  have hb : bitsOK (⟨l.toArray⟩ : ByteArray).data.toList = false := by simpa using h
  obtain ⟨s, HE⟩ : ∃ s : ByteArray, s = ⟨l.toArray⟩ := ⟨_, rfl⟩
  rw [← HE] at hs hb ⊢
  clear HE h hl
  go_enter Try.func67, Try.ntmps67
  go_wp2_with (go_at_call 62; refine (isBits_any _ _ hs).mono ?_; rintro e w' ⟨rfl, rfl⟩)
  go_ret2
  exact ⟨rfl, rfl⟩
/-- the bit behind k changes -/
def encBit (l : List UInt8) : Nat → UInt8
  | 0 => 48
  | k + 1 => if l.getD k 0 = encBit l k then 48 else 49
theorem encBit_bit (l : List UInt8) (k : Nat) : bit (encBit l k) := by
  cases k with
  | zero => exact .inl rfl
  | succ k => unfold encBit; split; exact .inl rfl; exact .inr rfl
def encL (l : List UInt8) (k : Nat) : List UInt8 := (List.range k).map (encBit l)
theorem encL_len (l : List UInt8) (k : Nat) : (encL l k).length = k := by simp [encL]
theorem encL_getD (l : List UInt8) (k j : Nat) (h : j < k) : (encL l k).getD j 0 = encBit l j := by simp [encL, List.getD_eq_getElem?_getD, h]
theorem encL_bits (l : List UInt8) (k : Nat) (h : k ≤ 600) : bitsOK (encL l k) = true := bitsOK_mk (by rw [encL_len]; exact h) (by
  intro c hc
  simp only [encL, List.mem_map] at hc
  obtain ⟨j, _, rfl⟩ := hc
  rcases encBit_bit l j with h | h <;> rw [h] <;> rfl)
/-- what DiffEncode returns -/
def diffEnc (l : List UInt8) : Option (List UInt8) := if bitsOK l && decide (l.length < 600) then some (encL l (l.length + 1)) else none
theorem diffEnc_nb {s : ByteArray} (h : bitsOK s.data.toList = false) : diffEnc s.data.toList = none := by unfold diffEnc; rw [h]; rfl
theorem diffEnc_n6 {s : ByteArray} (h : ¬ s.size < 600) : diffEnc s.data.toList = none := by
  unfold diffEnc; rw [data_length, decide_eq_false h, Bool.and_false]; rfl
theorem diffEnc_yes {s : ByteArray} (h : bitsOK s.data.toList = true) (h1 : s.size < 600) : diffEnc s.data.toList = some (encL s.data.toList (s.size + 1)) := by
  unfold diffEnc; rw [data_length, decide_eq_true h1, h]; rfl
theorem bitB_xor' {c d : UInt8} (hc : bit c) (hd : bit d) : bitB (wrap64 (bits .xor .u8 (c.toNat : Int) (d.toNat : Int))) = ((if c = d then 48 else 49 : UInt8).toNat : Int) := bitB_xor hc hd
theorem row_enc0 (w : World) (n : Nat) (l : List UInt8) (e : TypeId) : (w.alloc (.cells ((madeCells #[.int .u8 0] (n + 1)).setIfInBounds 0 (.int .u8 48)) e)).rowIs w.heap.size e (n + 1) (fun j => if j < 0 + 1 then .int .u8 ((encBit l j).toNat : Int) else .int .u8 0) := by
  have h := World.rowIs_alloc w ((madeCells #[.int .u8 0] (n + 1)).setIfInBounds 0 (.int .u8 48)) e (fun j => if j < 0 + 1 then .int .u8 ((encBit l j).toNat : Int) else .int .u8 0) (by
    intro i hi
    by_cases h0 : i = 0
    · subst h0
      rw [Array.getElem?_setIfInBounds_self_of_lt (by simpa using hi)]
      rfl
    · rw [Array.getElem?_setIfInBounds_ne (by omega), if_neg (by omega)]
      simp only [Array.size_setIfInBounds, size_madeCells] at hi
      have := (World.rowIs_made w (.int .u8 0) (n + 1) e)
      obtain ⟨c, h1, h2, h3⟩ := this
      have h4 : c = madeCells #[.int .u8 0] (n + 1) := by
        rw [heap_alloc_new] at h1
        injection h1 with h1
        injection h1 with h1
        exact h1.symm
      rw [← h4]
      exact h3 i hi)
  have h5 : ((madeCells #[.int .u8 0] (n + 1)).setIfInBounds 0 (.int .u8 48)).size = n + 1 := by simp [size_madeCells]
  rw [h5] at h
  exact h
set_option maxHeartbeats 400000 in
theorem diffEncI_row (s : ByteArray) (w : World) (hs : s.size ≤ maxLen) (hb : bitsOK s.data.toList = true) (o1 : ByteArray) (o2 : Bool)
    (hor : ∀ w' : World, Calls Try.prog 67 #[.string ⟨(encL s.data.toList (s.size + 1)).toArray⟩] w' fun e w'' => e = .returned (.tuple #[.string o1, .bool o2]) ∧ w' = w'') :
    Calls Try.prog 21 #[.string s] w fun e w' => e = .returned (.tuple #[.string o1, .bool o2]) ∧ Below w.heap.size w w' := by
  have h6 := bits_le_size hb
  have HB := Lib.hid (bits_bit hb)
  have HO := Lib.hid hor
  clear hor
  have hmk := fun u => run_make_row' (P := Try.prog) 22 5 (.int .u8 0) 1 Try.underlying22 info_u8 rfl .i64 .i64 (s.size + 1) (by omega) (by omega) u
  have ec : ((s.size + 1 : Nat) : Int) = (s.size : Int) + 1 := by omega
  rw [ec] at hmk
  clear ec
  have hm0 : (madeCells #[.int .u8 0] (s.size + 1))[0]? = some (.int .u8 0) := by
    obtain ⟨c, h1, h2, h3⟩ := World.rowIs_made w (.int .u8 0) (s.size + 1) 5
    rw [heap_alloc_new] at h1
    injection h1 with h1
    injection h1 with h1
    rw [h1]
    exact h3 0 (by omega)
  go_enter Try.func21, Try.ntmps21
  go_wp2_with (go_at_call 62; refine (isBits_any _ _ hs).mono ?_; rintro e w' ⟨rfl, rfl⟩)
  go_loopw [5, 17] (fun _ i wr => ∃ k : Nat, k ≤ s.size ∧ i = .int .i64 k ∧ wr.rowIs w.heap.size 5 (s.size + 1) (fun j => if j < k + 1 then .int .u8 (encBit s.data.toList j).toNat else .int .u8 0) ∧ Below w.heap.size w wr) (fun _ i _ => s.size - (intOf i).toNat)
  case atStart => exact ⟨0, Nat.zero_le _, rfl, row_enc0 _ _ _ _, (Below.refl _ _).alloc (Nat.le_refl _) _⟩
  case round =>
    obtain ⟨k, hk, rfl, hrow, hb⟩ := hrel
    clear hmk
    by_cases hlt : k < s.size
    · have hc := hrow.cell (i := k + 1) (by omega)
      have hc0 := hrow.cell (i := k) (by omega)
      simp only [Nat.lt_irrefl, if_false, Nat.lt_succ_self, if_true] at hc hc0
      have hf := hrow.frozen (k + 1)
      have ev : bitB (wrap64 (bits .xor .u8 (s[k].toNat : Int) ((encBit s.data.toList k).toNat : Int))) = ((encBit s.data.toList (k + 1)).toNat : Int) := by
        rw [bitB_xor (HB.out k hlt) (encBit_bit _ _), ← getD_at s k hlt]; rfl
      have HV := Lib.hid ev
      clear ev
      have i1 : (0 : Int) ≤ (k : Int) + 1 := by omega
      have i2 : (k : Int) + 1 < ((s.size + 1 : Nat) : Int) := by omega
      go_wp2
      refine wp_region_still_tail 14 (by kernel_rfl) (by kernel_rfl) ?_
      simp only [List.take_succ_cons, List.take_zero, List.drop_succ_cons, List.drop_zero]
      iterate 12 (refine wpStill_step (fun K hK => ?_); (try go_simp); (try simp only [IntWalk.iteOmega]); (try go_ints); (try simp (disch := omega) only [dif_pos]); (try go_simp); refine hK _ ?_; clear hK K)
      still_call (bitOf_any _ _)
      (refine wpStill_step (fun K hK => ?_); (try go_simp); (try simp only [IntWalk.iteOmega]); (try go_ints); (try simp (disch := omega) only [dif_pos]); (try go_simp); refine hK _ ?_; clear hK K)
      refine wpStill_nil ?_
      change wpList _ _ _ _ _ wr.drew
      go_wp2
      go_roundw
      case rel => exact ⟨k + 1, by omega, by go_num, row_next hrow.drew (by rw [HV.out]), hb.drew.setCell (Nat.le_refl _) _⟩
      case measure => simp [intOf]; omega
    · obtain rfl : k = s.size := by omega
      have hconv := conv_row (P := Try.prog) (src := 22) (dst := 9) (encL s.data.toList (s.size + 1)) (n := s.size + 1) (by rw [encL_len]) (Nat.le_refl _) hrow (fun j hj => by rw [if_pos hj, encL_getD _ _ _ hj]) Try.underlying22 Try.underlying5 Try.underlying9
      clear hrow
      go_wp2_with fail
      refine (HO.out _).mono ?_
      rintro e w' ⟨rfl, rfl⟩
      go_wp2
      go_ret2
      exact ⟨rfl, hb⟩
theorem diffEncI_any (s : ByteArray) (w : World) (hs : s.size ≤ maxLen) :
    Calls Try.prog 21 #[.string s] w fun e w' => e = .returned (strRes (diffEnc s.data.toList)) ∧ Below w.heap.size w w' := by
  cases hb : bitsOK s.data.toList
  · rw [diffEnc_nb hb]
    go_enter Try.func21, Try.ntmps21
    go_wp2_with (go_at_call 62; refine (isBits_any _ _ hs).mono ?_; rintro e w' ⟨rfl, rfl⟩)
    go_ret2
    exact ⟨rfl, Below.refl _ _⟩
  · by_cases h6 : s.size < 600
    · rw [diffEnc_yes hb h6]
      exact diffEncI_row s w hs hb _ _ fun w' => bitsOr_yes _ w' (encL_bits _ _ (by omega))
    · rw [diffEnc_n6 h6]
      have := bits_le_size hb
      exact diffEncI_row s w hs hb _ _ fun w' => bitsOr_no _ w' (by rw [encL_len]; omega) (bitsOK_long (by rw [encL_len]; omega))
theorem encL_next {s : ByteArray} {k : Nat} (h : k < s.size) : str (encL s.data.toList (k + 1)) ++ str (sumL [encBit s.data.toList k] [s[k]]) = str (encL s.data.toList (k + 1 + 1)) := by
  have e : sumL [encBit s.data.toList k] [s[k]] = [encBit s.data.toList (k + 1)] := by
    show [sumAt [encBit s.data.toList k] [s[k]] 0] = _
    have e2 : encBit s.data.toList (k + 1) = if s[k] = encBit s.data.toList k then 48 else 49 := by rw [← getD_at s k h]; rfl
    rw [e2]
    unfold sumAt
    simp only [List.getD_cons_zero]
    by_cases hh : s[k] = encBit s.data.toList k
    · rw [if_pos hh, if_pos hh.symm]
    · rw [if_neg hh, if_neg (fun x => hh x.symm)]
  rw [e, str_add]
  unfold encL
  rw [List.range_succ (n := k + 1), List.map_append]
  rfl
theorem encL_ex (l : List UInt8) (k : Nat) : (str (encL l (k + 1))).extract k (k + 1) = str [encBit l k] := by
  rw [ex_one _ _ (by rw [str_size, encL_len]; omega), str_get, encL_getD _ _ _ (by omega)]
theorem encS_call (s : ByteArray) (k : Nat) (w : World) (h : k < s.size) (hb : ∀ k (hk : k < s.size), bit s[k]) :
    Calls Try.prog 69 #[.string ((str (encL s.data.toList (k + 1))).extract k (k + 1)), .string (s.extract k (k + 1))] w fun e w' => e = .returned (.string (str (sumL [encBit s.data.toList k] [s[k]]))) ∧ Below w.heap.size w w' := by
  rw [encL_ex, ex_one s k h]
  refine (sumS_any _ _ w (by rw [str_size]; simp) (by rw [str_size, str_size]; rfl) ?_ ?_).mono fun e w' ⟨he, hb⟩ => ⟨by rw [he, str_list, str_list]; rfl, hb⟩
  · intro j hj
    rw [str_size] at hj
    obtain rfl : j = 0 := by simpa using hj
    exact encBit_bit _ _
  · intro j hj
    rw [str_size] at hj
    obtain rfl : j = 0 := by simpa using hj
    exact hb k h
set_option maxHeartbeats 400000 in
theorem diffEncS_any (s : ByteArray) (w : World) (hs : s.size ≤ maxLen) :
    Calls Try.prog 22 #[.string s] w fun e w' => e = .returned (strRes (diffEnc s.data.toList)) ∧ Below w.heap.size w w' := by
  cases hb : bitsOK s.data.toList
  · rw [diffEnc_nb hb]
    go_enter Try.func22, Try.ntmps22
    go_wp2_with (go_at_call 68; refine (l1Bits_any _ _ hs).mono ?_; rintro e w' ⟨rfl, rfl⟩)
    go_ret2
    exact ⟨rfl, Below.refl _ _⟩
  · have h7 := bits_le_size hb
    by_cases h6 : s.size < 600
    · rw [diffEnc_yes hb h6]
      have HB := Lib.hid (bits_bit hb)
      have d1 : decide ((600 : Int) ≤ (s.size : Int)) = false := by simp; omega
      have h5 : s.size ≤ 599 := by omega
      clear h6 h7
      go_enter Try.func22, Try.ntmps22
      go_wp2_with (go_at_call 68; refine (l1Bits_any _ _ hs).mono ?_; rintro e w' ⟨rfl, rfl⟩)
      go_loopw [4, 5] (fun v i wr => ∃ k : Nat, k ≤ s.size ∧ i = .int .i64 k ∧ v = .string (str (encL s.data.toList (k + 1))) ∧ Below w.heap.size w wr) (fun _ i _ => s.size - (intOf i).toNat)
      case atStart => exact ⟨0, Nat.zero_le _, rfl, rfl, Below.refl _ _⟩
      case round =>
        obtain ⟨k, hk, rfl, rfl, hbl⟩ := hrel
        by_cases hlt : k < s.size
        · have z1 : (str (encL s.data.toList (k + 1))).size = k + 1 := by rw [str_size, encL_len]
          have HZ := Lib.hid z1
          have z2 : (str (encL s.data.toList (k + 1))).size ≤ 600 := by omega
          have z3 : (k : Int) + 1 ≤ ((str (encL s.data.toList (k + 1))).size : Int) := by omega
          have z4 : (k : Int) + 1 ≤ (s.size : Int) := by omega
          have z5 : (0 : Int) ≤ (k : Int) := by omega
          have z6 : (k : Int) ≤ (k : Int) + 1 := by omega
          clear z1
          have HX := Lib.hid (encL_next hlt)
          have HC := Lib.hid (fun w' => encS_call s k w' hlt HB.out)
          go_wp2
          have y1 : IntKind.i64.wrap ((k : Int) + 1) = (k : Int) + 1 := IntWalk.i64_in _ (by omega)
          have y2 : ((k : Int) + 1).toNat = k + 1 := by omega
          have y3 : ¬ (9223372036854775807 < (str (encL s.data.toList (k + 1))).size + (str (sumL [encBit s.data.toList k] [s[k]])).size) := by rw [str_size, str_size, encL_len, sumL_len]; simp; omega
          go_region_held3 (fun _ => True) (trivial) (first | (go_at_call 69; refine (HC.out _).mono ?_; rintro e w' ⟨rfl, hb2⟩))
          clear y1 y2 y3
          go_wp2
          go_roundw
          case rel => exact ⟨k + 1, by omega, by go_num, by rw [← HX.out], hbl.drew.trans (hb2.mono hbl.size)⟩
          case measure => simp [intOf]; omega
        · obtain rfl : k = s.size := by omega
          go_wp2
          go_ret2
          exact ⟨rfl, hbl⟩
    · rw [diffEnc_n6 h6]
      have d1 : decide ((600 : Int) ≤ (s.size : Int)) = true := by simp; omega
      clear h6 h7
      go_enter Try.func22, Try.ntmps22
      go_wp2_with (go_at_call 68; refine (l1Bits_any _ _ hs).mono ?_; rintro e w' ⟨rfl, rfl⟩)
      go_ret2
      exact ⟨rfl, Below.refl _ _⟩
end Go.Proofs.Ytmfblphnedoejaa
