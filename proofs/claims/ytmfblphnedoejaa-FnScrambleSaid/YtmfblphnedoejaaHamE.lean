/- Contracts of HammingEncode. -/
import Derived.Test.YtmfblphnedoejaaCrc
import Derived.Test.YtmfblphnedoejaaBytes
namespace Go.Proofs.Ytmfblphnedoejaa
set_option maxRecDepth 20000
open Go.ChangeShapes Go.WideShapes Go.ChangeAt Go.RowKit
set_option linter.unusedVariables false
set_option linter.unusedSimpArgs false

/-- the sum of three bits -/
def x3 (a b c : UInt8) : UInt8 := if ((a == 49) != (b == 49)) != (c == 49) then 49 else 48
/-- the block of four bits -/
def hamBlock (a b c d : UInt8) : List UInt8 := [x3 a b d, x3 a c d, a, x3 b c d, b, c, d]
def hamTo (l : List UInt8) : Nat → List UInt8
  | 0 => []
  | k + 1 => hamTo l k ++ hamBlock (l.getD (4 * k) 0) (l.getD (4 * k + 1) 0) (l.getD (4 * k + 2) 0) (l.getD (4 * k + 3) 0)
theorem hamTo_len (l : List UInt8) (k : Nat) : (hamTo l k).length = 7 * k := by
  induction k with
  | zero => rfl
  | succ k ih => simp only [hamTo, List.length_append, ih, hamBlock, List.length_cons, List.length_nil]; omega
theorem x3_bit1 (a b c : UInt8) : bit1 (x3 a b c) = true := by unfold x3; split <;> rfl
theorem bit1_of {c : UInt8} (h : bit c) : bit1 c = true := by rcases h with h | h <;> rw [h] <;> rfl
theorem hamTo_bits {l : List UInt8} (hb : bitsOK l = true) : ∀ k, 4 * k ≤ l.length → ∀ c ∈ hamTo l k, bit1 c = true
  | 0, _, c, hc => by simp [hamTo] at hc
  | k + 1, hk, c, hc => by
    rw [hamTo, List.mem_append] at hc
    rcases hc with hc | hc
    · exact hamTo_bits hb k (by omega) c hc
    · simp only [hamBlock, List.mem_cons, List.not_mem_nil, or_false] at hc
      have g : ∀ j, j < l.length → bit1 (l.getD j 0) = true := fun j hj => by
        unfold bitsOK at hb
        simp only [Bool.and_eq_true, List.all_eq_true] at hb
        rw [List.getD_eq_getElem?_getD, List.getElem?_eq_getElem hj]
        exact hb.2 _ (List.getElem_mem hj)
      rcases hc with h | h | h | h | h | h | h <;> rw [h] <;> first | exact x3_bit1 _ _ _ | exact g _ (by omega)
theorem x3_walk {a b c : UInt8} (ha : bit a) (hb : bit b) (hc : bit c) :
    bitB (bits .and .i64 (wrap64 (bits .xor .u8 (bits .xor .u8 (a.toNat : Int) (b.toNat : Int)) (c.toNat : Int))) 1) = ((x3 a b c).toNat : Int) := by
  rcases ha with rfl | rfl <;> rcases hb with rfl | rfl <;> rcases hc with rfl | rfl <;> decide +kernel
/-- what HammingEncode returns -/
def hamEnc (l : List UInt8) : Option (List UInt8) := if bitsOK l && decide (l.length % 4 = 0) && decide (l.length / 4 * 7 ≤ 600) then some (hamTo l (l.length / 4)) else none
theorem hamEnc_nb {s : ByteArray} (h : bitsOK s.data.toList = false) : hamEnc s.data.toList = none := by simp [hamEnc, h]
theorem hamEnc_n4 {s : ByteArray} (h : ¬ s.size % 4 = 0) : hamEnc s.data.toList = none := by
  unfold hamEnc; rw [data_length, decide_eq_false h, Bool.and_false]; rfl
theorem hamEnc_n6 {s : ByteArray} (h : ¬ s.size / 4 * 7 ≤ 600) : hamEnc s.data.toList = none := by
  unfold hamEnc; rw [data_length, decide_eq_false h, Bool.and_false]; rfl
theorem hamEnc_yes {s : ByteArray} (h : bitsOK s.data.toList = true) (h4 : s.size % 4 = 0) (h6 : s.size / 4 * 7 ≤ 600) : hamEnc s.data.toList = some (hamTo s.data.toList (s.size / 4)) := by
  unfold hamEnc; rw [data_length, decide_eq_true h4, decide_eq_true h6, h]; rfl
theorem hamTo_next {s : ByteArray} {k : Nat} (h : 4 * k + 3 < s.size) : (hamTo s.data.toList k).map byteV ++ (hamBlock s[4 * k] s[4 * k + 1] s[4 * k + 2] s[4 * k + 3]).map byteV = (hamTo s.data.toList (k + 1)).map byteV := by
  rw [← List.map_append]
  congr 1
  rw [hamTo, getD_at s _ (by omega), getD_at s _ (by omega), getD_at s _ (by omega), getD_at s _ (by omega)]
set_option maxHeartbeats 1000000 in
theorem hamEncI_row (s : ByteArray) (w : World) (hs : s.size ≤ maxLen) (hb : bitsOK s.data.toList = true) (N : Nat) (hN : s.size = 4 * N) (o1 : ByteArray) (o2 : Bool)
    (hor : ∀ w' : World, Calls Try.prog 67 #[.string ⟨(hamTo s.data.toList N).toArray⟩] w' fun e w'' => e = .returned (.tuple #[.string o1, .bool o2]) ∧ w' = w'') :
    Calls Try.prog 35 #[.string s] w fun e w' => e = .returned (.tuple #[.string o1, .bool o2]) ∧ Below w.heap.size w w' := by
  have h6 := bits_le_size hb
  have HB := Lib.hid (bits_bit hb)
  have HO := Lib.hid hor
  have HN := Lib.hid hN
  have d1 : ((s.size : Int) % 4 != 0) = false := by simp; omega
  have e1 : (s.size : Int) / 4 = (N : Int) := by omega
  have hmk : ∀ u : World, (Instr.makeSlice 22 (.int .i64 0) (.int .i64 ((N : Int) * 7))).run Try.prog u = .ok (.slice (some ⟨u.heap.size, 0, none⟩) 0 (N * 7)) (u.alloc (.cells (madeCells #[.int .u8 0] (N * 7)) 5)) := fun u => by
    have := run_make0 (P := Try.prog) Try.underlying22 info_u8 rfl (N * 7) (by omega) (by omega) u
    rwa [Int.natCast_mul] at this
  have hN2 : N ≤ 150 := by omega
  clear hor hN
  go_enter Try.func35, Try.ntmps35
  go_wp2_with fail
  refine (isBits_any _ _ hs).mono ?_
  rintro e w' ⟨rfl, rfl⟩
  go_wp2
  go_loopw [4, 5, 6, 7, 8, 9] (fun v i _ _ _ _ wr => ∃ k g cap : Nat, k ≤ N ∧ i = .int .i64 (4 * (k : Int)) ∧ v = .slice (some ⟨g, 0, none⟩) (7 * k) cap ∧ Own wr w.heap.size 5 g (7 * k) cap ((hamTo s.data.toList k).map byteV) ∧ Below w.heap.size w wr) (fun _ i _ _ _ _ _ => 4 * N - (intOf i).toNat)
  case atStart =>
    refine ⟨0, w.heap.size, N * 7, Nat.zero_le _, rfl, rfl, ?_, (Below.refl _ _).alloc (Nat.le_refl _) _⟩
    exact Own.made (w := w) (B := w.heap.size) 5 (madeCells #[.int .u8 0] (N * 7)) (N * 7) (Nat.le_refl _) (by unfold maxLen; omega) (size_madeCells _ _)
  case round =>
    obtain ⟨k, g, cap, hk, rfl, rfl, hown, hbl⟩ := hrel
    clear hmk e1
    by_cases hlt : k < N
    · have hsz : 4 * k + 3 < s.size := by have := HN.out; omega
      have hsi : 4 * (k : Int) + 3 < (s.size : Int) := by omega
      have HX := Lib.hid (hamTo_next hsz)
      have X1 := Lib.hid (x3_walk (HB.out (4 * k) (by omega)) (HB.out (4 * k + 1) (by omega)) (HB.out (4 * k + 3) (by omega)))
      have X2 := Lib.hid (x3_walk (HB.out (4 * k) (by omega)) (HB.out (4 * k + 2) (by omega)) (HB.out (4 * k + 3) (by omega)))
      have X3 := Lib.hid (x3_walk (HB.out (4 * k + 1) (by omega)) (HB.out (4 * k + 2) (by omega)) (HB.out (4 * k + 3) (by omega)))
      go_wp2
      refine wp_region_still_lit (by kernel_rfl) (by kernel_rfl) ?_
      repeat (refine wpStill_step (fun K hK => ?_); (try go_simp); (try simp only [IntWalk.iteOmega]); (try go_ints); (try simp (disch := omega) only [dif_pos]); (try go_simp); refine hK _ ?_; clear hK K)
      refine wpStill_nil ?_
      go_wp2_with fail
      refine (bitOf_any _ _).mono ?_
      rintro e w1 ⟨rfl, rfl⟩
      rw [X1.out]
      go_wp2_with fail
      refine (bitOf_any _ _).mono ?_
      rintro e w1 ⟨rfl, rfl⟩
      rw [X2.out]
      go_wp2_with fail
      refine (bitOf_any _ _).mono ?_
      rintro e w1 ⟨rfl, rfl⟩
      rw [X3.out]
      go_wp2_with (at_builtin; refine appN 22 5 Try.underlying22 info_u8 rfl rfl _ _ rfl w.heap.size g (7 * k) cap 7 _ _ rfl rfl rfl (by omega) hown.drew hbl.drew (Nat.le_refl _) (by simp [Value.oneCell']) (by omega) (by unfold maxLen; omega) ?_; intro g' cap' w' hown' hb')
      have hown2 : Own w' w.heap.size 5 g' (7 * (k + 1)) cap' ((hamTo s.data.toList (k + 1)).map byteV) := by rw [← HX.out]; exact hown'
      clear hown' hown hbl
      go_wp2
      go_roundw
      case rel => exact ⟨k + 1, g', cap', by omega, by go_num, rfl, hown2, hb'⟩
      case measure => simp [intOf]; omega
    · obtain rfl : k = N := by omega
      have hsz : s.size = 4 * k := HN.out
      have hconv := conv_own (P := Try.prog) (src := 22) (dst := 9) (hamTo s.data.toList k) (hamTo_len _ _) hown Try.underlying22 Try.underlying5 Try.underlying9
      have hge : (s.size : Int) ≤ 4 * (k : Int) := by omega
      clear hown hsz
      go_wp2_with fail
      refine (HO.out _).mono ?_
      rintro e w' ⟨rfl, rfl⟩
      go_wp2
      go_ret2
      exact ⟨rfl, hbl⟩
theorem hamEncI_any (s : ByteArray) (w : World) (hs : s.size ≤ maxLen) :
    Calls Try.prog 35 #[.string s] w fun e w' => e = .returned (strRes (hamEnc s.data.toList)) ∧ Below w.heap.size w w' := by
  cases hb : bitsOK s.data.toList
  · rw [hamEnc_nb hb]
    go_enter Try.func35, Try.ntmps35
    go_wp2_with fail
    refine (isBits_any _ _ hs).mono ?_
    rintro e w' ⟨rfl, rfl⟩
    go_wp2
    go_ret2
    exact ⟨rfl, Below.refl _ _⟩
  · have h6 := bits_le_size hb
    by_cases h4 : s.size % 4 = 0
    · by_cases h7 : s.size / 4 * 7 ≤ 600
      · rw [hamEnc_yes hb h4 h7]
        refine hamEncI_row s w hs hb (s.size / 4) (by omega) _ _ fun w' => bitsOr_yes _ w' (bitsOK_mk (by rw [hamTo_len]; omega) (hamTo_bits hb _ (by rw [data_length]; omega)))
      · rw [hamEnc_n6 h7]
        refine hamEncI_row s w hs hb (s.size / 4) (by omega) _ _ fun w' => bitsOr_no _ w' (by rw [hamTo_len]; omega) (bitsOK_long (by rw [hamTo_len]; omega))
    · rw [hamEnc_n4 h4]
      have d1 : ((s.size : Int) % 4 != 0) = true := by simp; omega
      clear h4
      go_enter Try.func35, Try.ntmps35
      go_wp2_with fail
      refine (isBits_any _ _ hs).mono ?_
      rintro e w' ⟨rfl, rfl⟩
      go_wp2
      go_ret2
      exact ⟨rfl, Below.refl _ _⟩
/-- the sum of the bits of a block at three places -/
def chk (l : List UInt8) (ps : List Nat) : Nat → Nat
  | 0 => 0
  | k + 1 => chk l ps k ^^^ (if l.getD (ps.getD k 0 - 1) 0 = 49 then 1 else 0)
theorem chk_le (l : List UInt8) (ps : List Nat) (k : Nat) : chk l ps k < 2 := by
  induction k with
  | zero => simp [chk]
  | succ k ih => exact Nat.xor_lt_two_pow (n := 1) ih (by split <;> simp)
theorem chk_xor (l : List UInt8) (ps : List Nat) (k : Nat) (h : bit (l.getD (ps.getD k 0 - 1) 0)) : bits .xor .i64 (chk l ps k : Int) (((l.getD (ps.getD k 0 - 1) 0).toNat : Int) - 48) = (chk l ps (k + 1) : Int) := by
  have h2 := chk_le l ps k
  rw [chk]
  rcases h with h | h
  · rw [h, if_neg (by decide), show (((48 : UInt8).toNat : Int) - 48) = ((0 : Nat) : Int) from rfl, i64_xor_nat _ _ (by omega) (by omega)]
  · rw [h, if_pos rfl, show (((49 : UInt8).toNat : Int) - 48) = ((1 : Nat) : Int) from rfl, i64_xor_nat _ _ (by omega) (by omega)]
set_option maxHeartbeats 400000 in
theorem l6Check_any (l : List UInt8) (p q r g : Nat) (w : World) (hl : l.length = 7) (hb : ∀ j, j < 7 → bit (l.getD j 0)) (hp : 1 ≤ p ∧ p ≤ 7) (hq : 1 ≤ q ∧ q ≤ 7) (hr : 1 ≤ r ∧ r ≤ 7)
    (hc : ∀ j, j < 3 → w.cell? ⟨g, j, none⟩ = some (.int .i64 (([p, q, r].getD j 0 : Nat) : Int))) :
    Calls Try.prog 99 #[.string (str l), .slice (some ⟨g, 0, none⟩) 3 3] w fun e w' => e = .returned (.string (str [digC (chk l [p, q, r] 3)])) ∧ Below w.heap.size w w' := by
  have HB := Lib.hid hb
  have HC := Lib.hid hc
  have hz : (str l).size = 7 := by rw [str_size, hl]
  clear hb hc
  go_enter Try.func99, Try.ntmps99
  go_wp2
  go_loop [5, 6] (fun n i => ∃ k : Nat, k ≤ 3 ∧ i = .int .i64 k ∧ n = .int .i64 (chk l [p, q, r] k)) (fun _ i => 3 - (intOf i).toNat)
  case atStart => exact ⟨0, by omega, rfl, rfl⟩
  case round =>
    obtain ⟨k, hk, rfl, rfl⟩ := hrel
    by_cases hlt : k < 3
    · have hcell := HC.out k hlt
      obtain ⟨m, hm⟩ : ∃ m, m = [p, q, r].getD k 0 := ⟨_, rfl⟩
      have m1 : 1 ≤ m ∧ m ≤ 7 := by
        rw [hm]
        match k, hlt with
        | 0, _ => exact hp
        | 1, _ => exact hq
        | 2, _ => exact hr
      have HM := Lib.hid (chk_xor l [p, q, r] k (HB.out _ (by rw [← hm]; omega)))
      rw [← hm] at hcell HM
      have hx : m - 1 < (str l).size := by rw [hz]; omega
      rw [← str_get l (m - 1) hx] at HM
      have HMo := HM.out
      have i1 : 0 ≤ (m : Int) - 1 := by omega
      have i2 : (m : Int) - 1 < 7 := by omega
      have hcl := chk_le l [p, q, r] k
      have b1 : ((str l)[m - 1].toNat : Int) ≤ 255 := by have := (str l)[m - 1].toNat_lt; omega
      clear hm
      go_wp2
      go_round
      case rel => exact ⟨k + 1, by omega, by go_num, by rw [← HM.out]⟩
      case measure => simp [intOf]; omega
    · obtain rfl : k = 3 := by omega
      have hcl := chk_le l [p, q, r] 3
      go_wp2_with fail
      refine (dec1_any _ _ (by omega)).mono ?_
      rintro e w1 ⟨rfl, k1⟩
      go_wp2
      go_ret
      exact ⟨rfl, k1⟩
theorem digC_chk {a b d : UInt8} (l : List UInt8) (p q r : Nat) (ha : l.getD (p - 1) 0 = a) (hb : l.getD (q - 1) 0 = b) (hd : l.getD (r - 1) 0 = d) (h1 : bit a) (h2 : bit b) (h3 : bit d) : digC (chk l [p, q, r] 3) = x3 a b d := by
  simp only [chk, List.getD_cons_zero, List.getD_cons_succ, ha, hb, hd]
  rcases h1 with rfl | rfl <;> rcases h2 with rfl | rfl <;> rcases h3 with rfl | rfl <;> decide +kernel
theorem small_add (a b : List UInt8) (h : a.length + b.length ≤ 1000) : ¬ (9223372036854775807 < (str a).size + (str b).size) := by rw [str_size, str_size]; omega
theorem cells3 (w : World) (p q r : Nat) (e : TypeId) : ∀ j, j < 3 → (w.alloc (.cells #[.int .i64 (p : Int), .int .i64 (q : Int), .int .i64 (r : Int)] e)).cell? ⟨w.heap.size, j, none⟩ = some (.int .i64 (([p, q, r].getD j 0 : Nat) : Int)) := by
  intro j hj
  match j, hj with
  | 0, _ => simp
  | 1, _ => simp
  | 2, _ => simp
set_option maxHeartbeats 1000000 in
theorem l6Block_any (a b c d : UInt8) (w : World) (ha : bit a) (hb : bit b) (hc : bit c) (hd : bit d) :
    Calls Try.prog 74 #[.string (str [a, b, c, d])] w fun e w' => e = .returned (.string (str (hamBlock a b c d))) ∧ Below w.heap.size w w' := by
  have hz : (str [a, b, c, d]).size = 4 := str_size _
  have e1 : (str [a, b, c, d]).extract 0 1 = str [a] := by rw [str_ex]; rfl
  have e2 : (str [a, b, c, d]).extract 1 4 = str [b, c, d] := by rw [str_ex]; rfl
  have q1 : (⟨#[48, 48]⟩ : ByteArray) ++ str [a] = str [48, 48, a] := str_add [48, 48] [a]
  have q2 : str [48, 48, a] ++ (⟨#[48]⟩ : ByteArray) = str [48, 48, a, 48] := str_add [48, 48, a] [48]
  have q3 : str [48, 48, a, 48] ++ str [b, c, d] = str [48, 48, a, 48, b, c, d] := str_add _ _
  have s1 : (str [a]).size = 1 := str_size _
  have s2 : (str [48, 48, a]).size = 3 := str_size _
  have s3 : (str [48, 48, a, 48]).size = 4 := str_size _
  have s4 : (str [b, c, d]).size = 3 := str_size _
  have HBs : ∀ j, j < 7 → bit (([48, 48, a, 48, b, c, d] : List UInt8).getD j 0) := by
    intro j hj
    match j, hj with
    | 0, _ => exact .inl rfl
    | 1, _ => exact .inl rfl
    | 2, _ => exact ha
    | 3, _ => exact .inl rfl
    | 4, _ => exact hb
    | 5, _ => exact hc
    | 6, _ => exact hd
  have HB := Lib.hid HBs
  have c1 := Lib.hid (digC_chk (a := a) (b := b) (d := d) [48, 48, a, 48, b, c, d] 3 5 7 rfl rfl rfl ha hb hd)
  have c2 := Lib.hid (digC_chk (a := a) (b := c) (d := d) [48, 48, a, 48, b, c, d] 3 6 7 rfl rfl rfl ha hc hd)
  have c3 := Lib.hid (digC_chk (a := b) (b := c) (d := d) [48, 48, a, 48, b, c, d] 5 6 7 rfl rfl rfl hb hc hd)
  clear HBs ha hb hc hd
  go_enter Try.func74, Try.ntmps74
  go_wp2
  refine wp_region_still_lit (by kernel_rfl) (by kernel_rfl) ?_
  repeat (refine wpStill_step (fun K hK => ?_); (try go_simp); (try simp only [IntWalk.iteOmega]); (try go_ints); (try simp (disch := omega) only [dif_pos]); (try go_simp); refine hK _ ?_; clear hK K)
  refine wpStill_nil ?_
  go_wp2_with fail
  refine (l6Check_any [48, 48, a, 48, b, c, d] 3 5 7 _ _ rfl HB.out ⟨by omega, by omega⟩ ⟨by omega, by omega⟩ ⟨by omega, by omega⟩ ?_).mono ?_
  · exact fun j hj => cells3 w 3 5 7 _ j hj
  rintro e w1 ⟨rfl, k1⟩
  rw [c1.out]
  have hb1 : Below w.heap.size w w1 := ((Below.refl _ _).drew.alloc (Nat.le_refl _) _).trans (k1.mono (by simp))
  clear k1
  go_wp2_with fail
  refine (l6Check_any [48, 48, a, 48, b, c, d] 3 6 7 _ _ rfl HB.out ⟨by omega, by omega⟩ ⟨by omega, by omega⟩ ⟨by omega, by omega⟩ ?_).mono ?_
  · exact fun j hj => cells3 w1 3 6 7 _ j hj
  rintro e w2 ⟨rfl, k2⟩
  rw [c2.out]
  have hb2 : Below w.heap.size w w2 := (hb1.alloc hb1.size _).trans (k2.mono (by have := hb1.size; simp; omega))
  clear k2 hb1
  go_wp2_with fail
  refine (l6Check_any [48, 48, a, 48, b, c, d] 5 6 7 _ _ rfl HB.out ⟨by omega, by omega⟩ ⟨by omega, by omega⟩ ⟨by omega, by omega⟩ ?_).mono ?_
  · exact fun j hj => cells3 w2 5 6 7 _ j hj
  rintro e w3 ⟨rfl, k3⟩
  rw [c3.out]
  have hb3 : Below w.heap.size w w3 := (hb2.alloc hb2.size _).trans (k3.mono (by have := hb2.size; simp; omega))
  clear k3 hb2
  go_wp2
  clear q1 q2 q3 s2 s3
  have q4 : str [x3 a b d] ++ str [x3 a c d] = str [x3 a b d, x3 a c d] := str_add _ _
  have q5 : str [x3 a b d, x3 a c d] ++ str [a] = str [x3 a b d, x3 a c d, a] := str_add _ _
  have q6 : str [x3 a b d, x3 a c d, a] ++ str [x3 b c d] = str [x3 a b d, x3 a c d, a, x3 b c d] := str_add _ _
  have q7 : str [x3 a b d, x3 a c d, a, x3 b c d] ++ str [b, c, d] = str [x3 a b d, x3 a c d, a, x3 b c d, b, c, d] := str_add _ _
  have s5 : (str [x3 a b d]).size = 1 := str_size _
  have s6 : (str [x3 a c d]).size = 1 := str_size _
  have s7 : (str [x3 b c d]).size = 1 := str_size _
  have s8 : (str [x3 a b d, x3 a c d]).size = 2 := str_size _
  have s9 : (str [x3 a b d, x3 a c d, a]).size = 3 := str_size _
  have s10 : (str [x3 a b d, x3 a c d, a, x3 b c d]).size = 4 := str_size _
  refine wp_region_still_lit (by kernel_rfl) (by kernel_rfl) ?_
  repeat (refine wpStill_step (fun K hK => ?_); (try go_simp); (try simp only [IntWalk.iteOmega]); (try go_ints); (try simp (disch := omega) only [dif_pos]); (try go_simp); refine hK _ ?_; clear hK K)
  refine wpStill_nil ?_
  go_wp2
  go_ret
  exact ⟨rfl, hb3.drew⟩
theorem ex_four (s : ByteArray) (k : Nat) (h : k + 3 < s.size) : s.extract k (k + 4) = str [s[k], s[k + 1], s[k + 2], s[k + 3]] := by
  rw [← str_of (s.extract k (k + 4)), ex_list]
  congr 1
  apply List.ext_getElem
  · simp; omega
  · intro i h1 h2
    simp only [List.length_cons, List.length_nil] at h2
    rw [List.getElem_drop, List.getElem_take]
    match i, h2 with
    | 0, _ => rfl
    | 1, _ => rfl
    | 2, _ => rfl
    | 3, _ => rfl
theorem hamS_call (s : ByteArray) (k : Nat) (w : World) (h : 4 * k + 3 < s.size) (hb : ∀ k (hk : k < s.size), bit s[k]) :
    Calls Try.prog 74 #[.string (s.extract (4 * k) (4 * k + 4))] w fun e w' => e = .returned (.string (str (hamBlock s[4 * k] s[4 * k + 1] s[4 * k + 2] s[4 * k + 3]))) ∧ Below w.heap.size w w' := by
  rw [ex_four s (4 * k) h]
  exact l6Block_any _ _ _ _ w (hb _ _) (hb _ _) (hb _ _) (hb _ _)
theorem hamTo_nextS {s : ByteArray} {k : Nat} (h : 4 * k + 3 < s.size) : str (hamTo s.data.toList k) ++ str (hamBlock s[4 * k] s[4 * k + 1] s[4 * k + 2] s[4 * k + 3]) = str (hamTo s.data.toList (k + 1)) := by
  rw [str_add, hamTo, getD_at s _ (by omega), getD_at s _ (by omega), getD_at s _ (by omega), getD_at s _ (by omega)]
set_option maxHeartbeats 1000000 in
theorem hamEncS_any (s : ByteArray) (w : World) (hs : s.size ≤ maxLen) :
    Calls Try.prog 36 #[.string s] w fun e w' => e = .returned (strRes (hamEnc s.data.toList)) ∧ Below w.heap.size w w' := by
  cases hb : bitsOK s.data.toList
  · rw [hamEnc_nb hb]
    go_enter Try.func36, Try.ntmps36
    go_wp2_with fail
    refine (l1Bits_any _ _ hs).mono ?_
    rintro e w' ⟨rfl, rfl⟩
    go_wp2
    go_ret2
    exact ⟨rfl, Below.refl _ _⟩
  · have h6 := bits_le_size hb
    by_cases h4 : s.size % 4 = 0
    · have d1 : ((s.size : Int) % 4 != 0) = false := by simp; omega
      by_cases h7 : s.size / 4 * 7 ≤ 600
      · rw [hamEnc_yes hb h4 h7]
        have d2 : decide ((600 : Int) < (s.size : Int) / 4 * 7) = false := decide_eq_false (by omega)
        have HB := Lib.hid (bits_bit hb)
        obtain ⟨N, hN⟩ : ∃ N, s.size = 4 * N := ⟨s.size / 4, by omega⟩
        have hN2 : N ≤ 150 := by omega
        have eN : s.size / 4 = N := by omega
        rw [eN]
        have HN := Lib.hid hN
        clear eN hN h4 h7
        go_enter Try.func36, Try.ntmps36
        go_wp2_with fail
        refine (l1Bits_any _ _ hs).mono ?_
        rintro e w' ⟨rfl, rfl⟩
        go_wp2
        go_loopw [4, 5] (fun v i wr => ∃ k : Nat, k ≤ N ∧ i = .int .i64 (4 * (k : Int)) ∧ v = .string (str (hamTo s.data.toList k)) ∧ Below w.heap.size w wr) (fun _ i _ => 4 * N - (intOf i).toNat)
        case atStart => exact ⟨0, Nat.zero_le _, rfl, rfl, Below.refl _ _⟩
        case round =>
          obtain ⟨k, hk, rfl, rfl, hbl⟩ := hrel
          by_cases hlt : k < N
          · have hsz : 4 * k + 3 < s.size := by have := HN.out; omega
            have hsi : 4 * (k : Int) + 4 ≤ (s.size : Int) := by omega
            have HX := Lib.hid (hamTo_nextS hsz)
            have z1 : (str (hamTo s.data.toList k)).size ≤ 1050 := by rw [str_size, hamTo_len]; omega
            have z2 : (str (hamBlock s[4 * k] s[4 * k + 1] s[4 * k + 2] s[4 * k + 3])).size ≤ 7 := by rw [str_size]; simp [hamBlock]
            go_wp2_with fail
            refine (hamS_call s k _ hsz HB.out).mono ?_
            rintro e w1 ⟨rfl, k1⟩
            replace hbl := below_next hbl k1
            clear k1
            go_wp2
            go_roundw
            case rel => exact ⟨k + 1, by omega, by go_num, by rw [← HX.out], hbl⟩
            case measure => simp [intOf]; omega
          · obtain rfl : k = N := by omega
            have hge : (s.size : Int) ≤ 4 * (k : Int) := by have := HN.out; omega
            go_wp2
            go_ret2
            exact ⟨rfl, hbl⟩
      · rw [hamEnc_n6 h7]
        have d2 : decide ((600 : Int) < (s.size : Int) / 4 * 7) = true := decide_eq_true (by omega)
        clear h4 h7
        go_enter Try.func36, Try.ntmps36
        go_wp2_with fail
        refine (l1Bits_any _ _ hs).mono ?_
        rintro e w' ⟨rfl, rfl⟩
        go_wp2
        go_ret2
        exact ⟨rfl, Below.refl _ _⟩
    · rw [hamEnc_n4 h4]
      have d1 : ((s.size : Int) % 4 != 0) = true := by simp; omega
      clear h4
      go_enter Try.func36, Try.ntmps36
      go_wp2_with fail
      refine (l1Bits_any _ _ hs).mono ?_
      rintro e w' ⟨rfl, rfl⟩
      go_wp2
      go_ret2
      exact ⟨rfl, Below.refl _ _⟩
end Go.Proofs.Ytmfblphnedoejaa
