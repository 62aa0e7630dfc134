/- Contracts of correlations with a code and of receiving. -/
import Derived.Test.YtiiiaeemblcniaaDot
import Derived.Test.YtiiiaeemblcniaaChip
import Derived.Test.YtiiiaeemblcniaaTri
import Derived.Test.YtiiiaeemblcniaaRunR
import Derived.Test.YtiiiaeemblcniaaDropS
namespace Go.Proofs.Ytiiiaeemblcniaa
set_option maxRecDepth 20000
open Go.ChangeShapes Go.WideShapes Go.ChangeAt Go.RowKit
set_option linter.unusedVariables false
set_option linter.unusedSimpArgs false

theorem below_next' {w u u' : World} (h : Below w.heap.size w u) (k : Below u.heap.size u u') : Below w.heap.size w u' := h.trans (k.mono h.size)
theorem chip_bit4 {c : UInt8} (h : bit c) : ∃ v : Int, (v = 48 ∨ v = 49) ∧ (c.toNat : Int) = v ∧ chip c = 1 - 2 * (v - 48) := by
  rcases h with rfl | rfl
  · exact ⟨48, .inl rfl, rfl, rfl⟩
  · exact ⟨49, .inr rfl, rfl, rfl⟩
theorem bits_at4 {l : List UInt8} (h : bitsOK l = true) {k : Nat} (hk : k < l.length) : bit (l.getD k 0) := by
  unfold bitsOK at h
  simp only [Bool.and_eq_true, List.all_eq_true] at h
  have := h.2 (l.getD k 0) (by rw [List.getD_eq_getElem?_getD, List.getElem?_eq_getElem hk]; exact List.getElem_mem hk)
  simpa [bit1, bit] using this
theorem seq_parts {s : ByteArray} (h : seqOK s.data.toList = true) : 1 ≤ s.size ∧ s.size ≤ 255 ∧ ∀ k, k < s.size → bit (s.data.toList.getD k 0) := by
  have h0 := h
  unfold seqOK at h
  simp only [Bool.and_eq_true, decide_eq_true_eq, data_length] at h
  refine ⟨by omega, by omega, fun k hk => ?_⟩
  exact bits_at4 h.1.1 (by rw [data_length]; exact hk)
set_option maxHeartbeats 1000000 in
theorem corrI_any (A : Option Addr) (c : Nat) (z : List Int) (s : ByteArray) (fr : Nat) (w : World) (hr : Reads w w.heap.size A z) (hz : sigOK z = true) (hs : s.size ≤ 255) (hfr : fr ≤ 1000000) :
    Calls Try.prog 63 #[.slice A z.length c, .string s, .int .i64 (fr : Int)] w fun e w' => e = .returned (.int .i64 (dot z s.data.toList fr)) ∧ Below w.heap.size w w' := by
  have hl := sig_len hz
  have HZ := Lib.hid hz
  have HR := Lib.hid hr
  have hb0 := Below.refl w.heap.size w
  clear hr hz
  go_enter Try.func63, Try.ntmps63
  go_wp2
  go_loopw [7, 8] (fun v i wr => ∃ k : Nat, k ≤ s.size ∧ i = .int .i64 k ∧ v = .int .i64 (dotT z s.data.toList fr k) ∧ Below w.heap.size w wr) (fun _ i _ => s.size - (intOf i).toNat)
  case atStart => exact ⟨0, Nat.zero_le _, rfl, rfl, hb0⟩
  case round =>
    clear hb0
    obtain ⟨k, hk, rfl, rfl, hb⟩ := hrel
    have hv := dotT_le HZ.out s.data.toList fr k
    by_cases hlt : k < s.size
    · by_cases hlt2 : fr + k < z.length
      · obtain ⟨ad, rfl, hbk, hcell⟩ := (HR.out.below hb (Nat.le_refl _)).at_ hlt2
        have hx := sig_at HZ.out (fr + k)
        have HN : Hid (dotT z s.data.toList fr (k + 1) = dotT z s.data.toList fr k + chip s[k] * z.getD (fr + k) 0) := by
          rw [← getD_at s _ hlt, Int.mul_comm]
          rfl
        have HM := chip_mul (x := z.getD (fr + k) 0) (a := 1000000) s[k] hx
        rw [Int.mul_comm] at HM
        obtain ⟨x, hxe⟩ : ∃ x, x = z.getD (fr + k) 0 := ⟨_, rfl⟩
        rw [← hxe] at hcell hx HN HM
        clear hxe
        go_wp2
        refine wp_region_still_lit (by kernel_rfl) (by kernel_rfl) ?_
        iterate 4 (refine wpStill_step (fun K hK => ?_); (try go_simp); (try simp only [IntWalk.iteOmega]); (try go_ints); (try simp (disch := omega) only [dif_pos]); (try go_simp); refine hK _ ?_; clear hK K)
        still_call (chipI_any _ _)
        repeat (refine wpStill_step (fun K hK => ?_); (try go_simp); (try simp only [IntWalk.iteOmega]); (try go_ints); (try simp (disch := omega) only [dif_pos]); (try go_simp); refine hK _ ?_; clear hK K)
        refine wpStill_nil ?_
        go_wp2
        go_roundw
        case rel => exact ⟨k + 1, by omega, by go_num, by rw [HN.out], hb.drew⟩
        case measure => simp [intOf]; omega
      · have HX : Hid (dot z s.data.toList fr = dotT z s.data.toList fr k) := dot_exit (by rw [data_length]; omega) (.inr hlt2)
        go_wp2
        go_ret
        exact ⟨ret_int HX.out.symm, hb⟩
    · have HX : Hid (dot z s.data.toList fr = dotT z s.data.toList fr k) := dot_exit (by rw [data_length]; omega) (.inl (by rw [data_length]; omega))
      go_wp2
      go_ret
      exact ⟨ret_int HX.out.symm, hb⟩
set_option maxHeartbeats 1000000 in
theorem corrsI_any (A : Option Addr) (c : Nat) (z : List Int) (s : ByteArray) (fr n : Nat) (w : World) (hr : Reads w w.heap.size A z) (hz : sigOK z = true) (hs : s.size ≤ 255) (hfr : fr ≤ 10000) (hn : n ≤ 600) :
    Calls Try.prog 34 #[.slice A z.length c, .string s, .int .i64 (fr : Int), .int .i64 (n : Int)] w (RetL (dots z s.data.toList fr n) w) := by
  have HC : Hid (∀ (d : Nat) (u : World), d ≤ 1000000 → Below w.heap.size w u → Calls Try.prog 63 #[.slice A z.length c, .string s, .int .i64 (d : Int)] u fun e w' => e = .returned (.int .i64 (dot z s.data.toList d)) ∧ Below u.heap.size u w') := fun d u hd hu =>
    corrI_any A c z s d u ((hr.below hu (Nat.le_refl _)).more hu.size) hz hs hd
  have HV : Hid (∀ j, dot z s.data.toList (fr + j * s.data.toList.length) = dot z s.data.toList (fr + j * s.size)) := fun j => by rw [data_length]
  have hmk := fun u => run_make_row' (P := Try.prog) 23 3 (.int .i64 0) 8 Try.underlying23 info_int rfl .i64 .i64 n (by omega) (by omega) u
  have hl := sig_len hz
  clear hr hz
  go_enter Try.func34, Try.ntmps34
  go_wp2
  go_loopw [10, 15] (fun _ i wr => ∃ k : Nat, k ≤ n ∧ i = .int .i64 k ∧ wr.rowIs w.heap.size 3 n (fun j => if j < k then intV (dot z s.data.toList (fr + j * s.size)) else .int .i64 0) ∧ Below w.heap.size w wr) (fun _ i _ => n - (intOf i).toNat)
  case atStart => exact ⟨0, Nat.zero_le _, rfl, (World.rowIs_made w _ _ _).congr (fun _ _ => rfl), (Below.refl _ _).alloc (Nat.le_refl _) _⟩
  case round =>
    clear hmk
    obtain ⟨k, hk, rfl, hrow, hb⟩ := hrel
    by_cases hlt : k < n
    · obtain ⟨q, hq⟩ : ∃ q, q = k * s.size := ⟨_, rfl⟩
      have hqb : q ≤ 600 * 255 := by rw [hq]; exact Nat.mul_le_mul (by omega) hs
      have eq1 : (k : Int) * (s.size : Int) = (q : Int) := by rw [hq]; simp
      obtain ⟨d, hd⟩ : ∃ d : Nat, (fr : Int) + (q : Int) = (d : Int) := ⟨fr + q, by simp⟩
      have hdq : d = fr + k * s.size := by rw [← hq]; omega
      have HD := Lib.hid hdq
      clear hq hdq
      have hC := HC.out d wr (by omega) hb
      generalize hV : dot z s.data.toList d = V at hC
      have HVV := Lib.hid hV
      have hC := Lib.hid hC
      clear hV
      go_wp2_with fail
      refine hC.out.mono ?_
      rintro e w3 ⟨rfl, k3⟩
      replace hb := below_next' hb k3
      replace hrow := rowIs_below hrow k3 hrow.lt
      clear k3
      have hc := hrow.cell hlt
      have hf := hrow.frozen k
      simp only [Nat.lt_irrefl, if_false] at hc
      go_wp2
      go_roundw
      case rel => exact ⟨k + 1, by omega, by go_num, row_next hrow (by rw [← HD.out, HVV.out]; rfl), hb.setCell (by simp) _⟩
      case measure => simp [intOf]; omega
    · obtain rfl : k = n := by omega
      have hsl : Sl wr w.heap.size wr.heap.size (.slice (some ⟨w.heap.size, 0, none⟩) k k) ((List.range k).map fun j => dot z s.data.toList (fr + j * s.size)) := sl_of_row hrow (Nat.le_refl _) (by omega)
      have hml : ((List.range k).map fun j => dot z s.data.toList (fr + j * s.size)) = dots z s.data.toList fr k := by
        unfold dots
        exact List.map_congr_left fun j _ => (HV.out j).symm
      rw [hml] at hsl
      have HSL := Lib.hid hsl
      clear hsl hml
      go_wp2
      go_ret
      exact RetL.mk HSL.out hb
theorem signOf_any (x : Int) (w : World) : Calls Try.prog 62 #[.int .i64 x] w fun e w' => e = .returned (.int .u8 ((signB x).toNat : Int)) ∧ w = w' := by
  by_cases h : x < 0
  · have e : signB x = 49 := if_pos h
    rw [e]
    go_enter Try.func62, Try.ntmps62
    go_wp2
    go_ret
    exact ⟨rfl, rfl⟩
  · have e : signB x = 48 := if_neg h
    rw [e]
    go_enter Try.func62, Try.ntmps62
    go_wp2
    go_ret
    exact ⟨rfl, rfl⟩
set_option maxHeartbeats 1000000 in
theorem dotS_any (A : Option Addr) (c : Nat) (z : List Int) (s : ByteArray) (fr : Nat) (w : World) (hr : Reads w w.heap.size A z) (hz : sigOK z = true) (hq : seqOK s.data.toList = true) (hfr : fr ≤ 1000000) :
    Calls Try.prog 66 #[.slice A z.length c, .int .i64 (fr : Int), .string s] w fun e w' => e = .returned (.int .i64 (dot z s.data.toList fr)) ∧ Below w.heap.size w w' := by
  have hl := sig_len hz
  obtain ⟨hq1, hq2, hbits⟩ := seq_parts hq
  have HZ := Lib.hid hz
  have HR := Lib.hid hr
  have HBT := Lib.hid hbits
  have hb0 := Below.refl w.heap.size w
  clear hr hz hq hbits
  go_enter Try.func66, Try.ntmps66
  go_wp2
  go_loopw [7, 8] (fun v i wr => ∃ k : Nat, k ≤ s.size ∧ i = .int .i64 k ∧ v = .int .i64 (dotT z s.data.toList fr k) ∧ Below w.heap.size w wr) (fun _ i _ => s.size - (intOf i).toNat)
  case atStart => exact ⟨0, Nat.zero_le _, rfl, rfl, hb0⟩
  case round =>
    clear hb0
    obtain ⟨k, hk, rfl, rfl, hb⟩ := hrel
    have hv := dotT_le HZ.out s.data.toList fr k
    by_cases hlt : k < s.size
    · by_cases hlt2 : fr + k < z.length
      · obtain ⟨ad, rfl, hbk, hcell⟩ := (HR.out.below hb (Nat.le_refl _)).at_ hlt2
        have hx := sig_at HZ.out (fr + k)
        obtain ⟨v, hv2, hcv, hch⟩ := chip_bit4 (c := s[k]) (by rw [← getD_at s _ hlt]; exact HBT.out k hlt)
        have HN : Hid (dotT z s.data.toList fr (k + 1) = dotT z s.data.toList fr k + z.getD (fr + k) 0 * (1 - 2 * (v - 48))) := by
          rw [← hch, ← getD_at s _ hlt]
          rfl
        have HM := chip_mul (x := z.getD (fr + k) 0) (a := 1000000) s[k] hx
        rw [hch] at HM
        obtain ⟨x, hxe⟩ : ∃ x, x = z.getD (fr + k) 0 := ⟨_, rfl⟩
        rw [← hxe] at hcell hx HN HM
        clear hxe hch
        go_wp2
        refine wp_region_still_lit (by kernel_rfl) (by kernel_rfl) ?_
        repeat (refine wpStill_step (fun K hK => ?_); (try go_simp); (try simp only [IntWalk.iteOmega]); (try go_ints); (try simp (disch := omega) only [dif_pos]); (try go_simp); refine hK _ ?_; clear hK K)
        refine wpStill_nil ?_
        go_wp2
        go_roundw
        case rel => exact ⟨k + 1, by omega, by go_num, by rw [HN.out], hb.drew⟩
        case measure => simp [intOf]; omega
      · have HX : Hid (dot z s.data.toList fr = dotT z s.data.toList fr k) := dot_exit (by rw [data_length]; omega) (.inr hlt2)
        go_wp2
        go_ret
        exact ⟨ret_int HX.out.symm, hb⟩
    · have HX : Hid (dot z s.data.toList fr = dotT z s.data.toList fr k) := dot_exit (by rw [data_length]; omega) (.inl (by rw [data_length]; omega))
      go_wp2
      go_ret
      exact ⟨ret_int HX.out.symm, hb⟩
set_option maxHeartbeats 1000000 in
theorem despS_any (A : Option Addr) (c : Nat) (z : List Int) (s : ByteArray) (fr n : Nat) (w : World) (hr : Reads w w.heap.size A z) (hz : sigOK z = true) (hq : seqOK s.data.toList = true) (hfr : fr ≤ 10000) (hn : n ≤ 600) :
    Calls Try.prog 37 #[.slice A z.length c, .string s, .int .i64 (fr : Int), .int .i64 (n : Int)] w (RetL (dots z s.data.toList fr n) w) := by
  obtain ⟨hs1, hs2, _⟩ := seq_parts hq
  have HC : Hid (∀ (d : Nat) (u : World), d ≤ 1000000 → Below w.heap.size w u → Calls Try.prog 66 #[.slice A z.length c, .int .i64 (d : Int), .string s] u fun e w' => e = .returned (.int .i64 (dot z s.data.toList d)) ∧ Below u.heap.size u w') := fun d u hd hu =>
    dotS_any A c z s d u ((hr.below hu (Nat.le_refl _)).more hu.size) hz hq hd
  have HN : Hid (∀ k, (dots z s.data.toList fr (k + 1)).map intV = (dots z s.data.toList fr k).map intV ++ [intV (dot z s.data.toList (fr + k * s.size))]) := fun k => by
    unfold dots
    rw [List.range_succ, List.map_append, List.map_append, data_length]; rfl
  have hl := sig_len hz
  clear hr hz hq
  go_enter Try.func37, Try.ntmps37
  go_wp2
  go_loopw [9, 10] (fun v i wr => ∃ (k g cap : Nat), i = .int .i64 (k : Int) ∧ v = .slice (some ⟨g, 0, none⟩) k cap ∧ k ≤ n ∧ Own wr w.heap.size 3 g k cap ((dots z s.data.toList fr k).map intV) ∧ Below w.heap.size w wr) (fun _ i _ => n - (intOf i).toNat)
  case atStart => exact ⟨0, w.heap.size, 0, rfl, rfl, Nat.zero_le _, Own.lit (w := w) (B := w.heap.size) 3 #[] 0 (Nat.le_refl _) (Nat.zero_le _) rfl, (Below.refl _ _).alloc (Nat.le_refl _) _⟩
  case round =>
    obtain ⟨k, g, cap, rfl, rfl, hk, hown, hb⟩ := hrel
    by_cases hlt : k < n
    · obtain ⟨q, hq⟩ : ∃ q, q = k * s.size := ⟨_, rfl⟩
      have hqb : q ≤ 600 * 255 := by rw [hq]; exact Nat.mul_le_mul (by omega) hs2
      have eq1 : (k : Int) * (s.size : Int) = (q : Int) := by rw [hq]; simp
      obtain ⟨d, hd⟩ : ∃ d : Nat, (fr : Int) + (q : Int) = (d : Int) := ⟨fr + q, by simp⟩
      have hdq : d = fr + k * s.size := by rw [← hq]; omega
      have HD := Lib.hid hdq
      have HNX := Lib.hid (HN.out k)
      clear hq hdq
      have hC := HC.out d wr (by omega) hb
      generalize hV : dot z s.data.toList d = V at hC
      have HVV := Lib.hid hV
      have hC := Lib.hid hC
      clear hV
      go_wp2_with fail
      refine hC.out.mono ?_
      rintro e w1 ⟨rfl, k1⟩
      have hown1 := hown.below k1 hown.lt.2
      have hb1 := hb.trans (k1.mono hb.size)
      clear hown hb k1
      go_wp2_with (at_builtin; refine app1 (w0 := w) 23 3 Try.underlying23 info_int rfl rfl _ _ rfl w.heap.size g k cap _ _ rfl rfl hown1 hb1 (Nat.le_refl _) rfl (by omega) (by unfold maxLen; omega) ?_; intro g2 cap2 w2 hown2 hb2)
      clear hown1 hb1
      go_wp2
      go_roundw
      case rel => exact ⟨k + 1, g2, cap2, by go_num, rfl, by omega, by rw [HNX.out, ← HD.out, HVV.out]; exact hown2, hb2⟩
      case measure => simp [intOf]; omega
    · obtain rfl : k = n := by omega
      have hsl : Sl wr w.heap.size wr.heap.size (.slice (some ⟨g, 0, none⟩) k cap) (dots z s.data.toList fr k) := by
        have h0 : Own wr w.heap.size 3 g (dots z s.data.toList fr k).length cap ((dots z s.data.toList fr k).map intV) := by rw [dots_len]; exact hown
        have := Sl.of_own h0 hown.lt.2
        rw [dots_len] at this
        exact this
      have HSL := Lib.hid hsl
      clear hsl hown
      go_wp2
      go_ret
      exact RetL.mk HSL.out hb
/-- a signal, a code, a place and a number of bits can be used -/
def lsOK (z : List Int) (s : ByteArray) (x n : Int) : Bool := sigOK z && seqOK s.data.toList && inB x 0 3000 && inB n 0 600
theorem listenS_any (A : Option Addr) (c : Nat) (z : List Int) (s : ByteArray) (x n : Int) (w : World) (hr : Reads w w.heap.size A z) (hl : z.length ≤ 1048576) (hs : s.size ≤ maxLen) :
    Calls Try.prog 35 #[.slice A z.length c, .string s, .int .i64 x, .int .i64 n] w fun e w' => e = .returned (.bool (lsOK z s x n)) ∧ w = w' := by
  have HV := Lib.hid (sigS_any A c z w hr hl)
  have HQ := Lib.hid (seqS_any s w hs)
  have HX := Lib.hid (l1In_any x 0 3000 w)
  have HN := Lib.hid (l1In_any n 0 600 w)
  unfold lsOK
  clear hr
  generalize sigOK z = b1 at *
  generalize seqOK s.data.toList = b2 at *
  generalize inB x 0 3000 = b3 at *
  generalize inB n 0 600 = b4 at *
  cases b1 with
  | false =>
    go_enter Try.func35, Try.ntmps35
    go_wp2_with fail
    refine (HV.out).mono ?_
    rintro e w' ⟨rfl, rfl⟩
    go_wp2
    go_ret
    exact ⟨rfl, rfl⟩
  | true =>
    cases b2 with
    | false =>
      go_enter Try.func35, Try.ntmps35
      go_wp2_with fail
      refine (HV.out).mono ?_
      rintro e w' ⟨rfl, rfl⟩
      go_wp2_with fail
      refine (HQ.out).mono ?_
      rintro e w' ⟨rfl, rfl⟩
      go_wp2
      go_ret
      exact ⟨rfl, rfl⟩
    | true =>
      cases b3 with
      | false =>
        go_enter Try.func35, Try.ntmps35
        go_wp2_with fail
        refine (HV.out).mono ?_
        rintro e w' ⟨rfl, rfl⟩
        go_wp2_with fail
        refine (HQ.out).mono ?_
        rintro e w' ⟨rfl, rfl⟩
        go_wp2_with fail
        refine (HX.out).mono ?_
        rintro e w' ⟨rfl, rfl⟩
        go_wp2
        go_ret
        exact ⟨rfl, rfl⟩
      | true =>
        go_enter Try.func35, Try.ntmps35
        go_wp2_with fail
        refine (HV.out).mono ?_
        rintro e w' ⟨rfl, rfl⟩
        go_wp2_with fail
        refine (HQ.out).mono ?_
        rintro e w' ⟨rfl, rfl⟩
        go_wp2_with fail
        refine (HX.out).mono ?_
        rintro e w' ⟨rfl, rfl⟩
        go_wp2_with fail
        refine (HN.out).mono ?_
        rintro e w' ⟨rfl, rfl⟩
        go_wp2
        go_ret
        exact ⟨ret_bool (by simp), rfl⟩
theorem signs_len (l : List Int) : (signs l).length = l.length := by simp [signs]
theorem signs_getD (l : List Int) {j : Nat} (h : j < l.length) : (signs l).getD j 0 = signB (l.getD j 0) := by simp [signs, List.getD_eq_getElem?_getD, h]
set_option maxHeartbeats 1000000 in
theorem signsI_any (A : Option Addr) (c : Nat) (l : List Int) (w : World) (hr : Reads w w.heap.size A l) (hl : l.length ≤ 1048576) :
    Calls Try.prog 33 #[.slice A l.length c] w fun e w' => e = .returned (.string (str (signs l))) ∧ Below w.heap.size w w' := by
  obtain ⟨n, hn⟩ : ∃ n, n = l.length := ⟨_, rfl⟩
  have HN := Lib.hid hn
  rw [← hn] at hl ⊢
  have hmk := fun u => run_make_row' (P := Try.prog) 22 5 (.int .u8 0) 1 Try.underlying22 info_u8 rfl .i64 .i64 n (by omega) (by omega) u
  have HR := Lib.hid hr
  clear hr hn
  go_enter Try.func33, Try.ntmps33
  go_wp2
  go_loopw [4, 5, 11] (fun _ _ i wr => ∃ k : Nat, k ≤ n ∧ i = .int .i64 k ∧ wr.rowIs w.heap.size 5 n (fun j => if j < k then .int .u8 ((signB (l.getD j 0)).toNat : Int) else .int .u8 0) ∧ Below w.heap.size w wr) (fun _ _ i _ => n - (intOf i).toNat)
  case atStart => exact ⟨0, Nat.zero_le _, rfl, (World.rowIs_made w _ _ _).congr (fun _ _ => rfl), (Below.refl _ _).alloc (Nat.le_refl _) _⟩
  case round =>
    clear hmk
    obtain ⟨k, hk, rfl, hrow, hb⟩ := hrel
    by_cases hlt : k < n
    · obtain ⟨ad, rfl, hbk, hcell⟩ := (HR.out.below hb (Nat.le_refl _)).at_ (k := k) (by rw [← HN.out]; exact hlt)
      obtain ⟨x, hx⟩ : ∃ x, x = l.getD k 0 := ⟨_, rfl⟩
      have HX := Lib.hid hx
      rw [← hx] at hcell
      have hc := hrow.cell hlt
      have hf := hrow.frozen k
      simp only [Nat.lt_irrefl, if_false] at hc
      have HW := Lib.hid hrow
      clear hx hrow
      go_wp2_with fail
      refine (signOf_any _ _).mono ?_
      rintro e w' ⟨rfl, rfl⟩
      go_wp2
      go_roundw
      case rel => exact ⟨k + 1, by omega, by go_num, row_next HW.out (by rw [HX.out]), hb.setCell (by simp) _⟩
      case measure => simp [intOf]; omega
    · obtain rfl : k = n := by omega
      have hconv := conv_row (P := Try.prog) (src := 22) (dst := 9) (signs l) (n := k) (by rw [signs_len]; exact HN.out.symm) (Nat.le_refl _) hrow (fun j hj => by rw [if_pos hj, signs_getD _ (by rw [← HN.out]; exact hj)]) Try.underlying22 Try.underlying5 Try.underlying9
      clear hrow
      go_wp2
      go_ret
      exact ⟨rfl, hb⟩
set_option maxHeartbeats 1000000 in
theorem signsS_any (A : Option Addr) (c : Nat) (l : List Int) (w : World) (hr : Reads w w.heap.size A l) (hl : l.length ≤ 1048576) :
    Calls Try.prog 36 #[.slice A l.length c] w fun e w' => e = .returned (.string (str (signs l))) ∧ Below w.heap.size w w' := by
  obtain ⟨n, hn⟩ : ∃ n, n = l.length := ⟨_, rfl⟩
  have HN := Lib.hid hn
  rw [← hn] at hl ⊢
  have hmk := fun u => run_make_row' (P := Try.prog) 22 5 (.int .u8 0) 1 Try.underlying22 info_u8 rfl .i64 .i64 n (by omega) (by omega) u
  have HR := Lib.hid hr
  clear hr hn
  go_enter Try.func36, Try.ntmps36
  go_wp2
  go_loopw [4] (fun i wr => ∃ k : Nat, k ≤ n ∧ i = .int .i64 k ∧ wr.rowIs w.heap.size 5 n (fun j => if j < k then .int .u8 ((signB (l.getD j 0)).toNat : Int) else .int .u8 0) ∧ Below w.heap.size w wr) (fun i _ => n - (intOf i).toNat)
  case atStart => exact ⟨0, Nat.zero_le _, rfl, (World.rowIs_made w _ _ _).congr (fun _ _ => rfl), (Below.refl _ _).alloc (Nat.le_refl _) _⟩
  case round =>
    clear hmk
    obtain ⟨k, hk, rfl, hrow, hb⟩ := hrel
    by_cases hlt : k < n
    · obtain ⟨ad, rfl, hbk, hcell⟩ := HR.out.at_ (k := k) (by rw [← HN.out]; exact hlt)
      obtain ⟨x, hx⟩ : ∃ x, x = l.getD k 0 := ⟨_, rfl⟩
      have HX := Lib.hid hx
      rw [← hx] at hcell
      have hc := hrow.cell hlt
      have hf := hrow.frozen k
      have hb1 := hb.setCell (p := ⟨w.heap.size, k, none⟩) (by simp) (.int .u8 48)
      have hc1 : wr.cell? (ad.add k) = some (.int .i64 x) := by rw [hb.cell (by rw [add_block]; exact hbk)]; exact hcell
      have hne : (ad.add k).block ≠ w.heap.size := by rw [add_block]; omega
      have hc2 : (wr.setCell ⟨w.heap.size, k, none⟩ (.int .u8 48)).cell? (ad.add k) = some (.int .i64 x) := by rw [hb1.cell (by rw [add_block]; exact hbk)]; exact hcell
      have HW := Lib.hid hrow
      have HCELL := Lib.hid hcell
      clear hx hrow hcell
      by_cases hneg : x < 0
      · have e : Hid (signB (l.getD k 0) = 49) := by rw [← HX.out]; exact if_pos hneg
        go_wp2
        go_roundw
        case rel =>
          have hfin : ((wr.setCell ⟨w.heap.size, k, none⟩ (.int .u8 48)).setCell ⟨w.heap.size, k, none⟩ (.int .u8 49)).rowIs w.heap.size 5 n (fun j => if j < k + 1 then .int .u8 ((signB (l.getD j 0)).toNat : Int) else .int .u8 0) := by
            refine ((HW.out.set k (.int .u8 48)).set k (.int .u8 49)).congr (fun j _ => ?_)
            by_cases hj : j = k
            · subst hj; rw [if_pos rfl, if_pos (Nat.lt_succ_self _), e.out]; rfl
            · rw [if_neg hj, if_neg hj]
              by_cases hj2 : j < k
              · rw [if_pos hj2, if_pos (by omega)]
              · rw [if_neg hj2, if_neg (by omega)]
          exact ⟨k + 1, by omega, by go_num, hfin, hb1.setCell (by simp) _⟩
        case measure => simp [intOf]; omega
      · have e : Hid (signB (l.getD k 0) = 48) := by rw [← HX.out]; exact if_neg hneg
        go_wp2
        go_roundw
        case rel => exact ⟨k + 1, by omega, by go_num, row_next HW.out (by rw [e.out]; rfl), hb1⟩
        case measure => simp [intOf]; omega
    · obtain rfl : k = n := by omega
      have hconv := conv_row (P := Try.prog) (src := 22) (dst := 9) (signs l) (n := k) (by rw [signs_len]; exact HN.out.symm) (Nat.le_refl _) hrow (fun j hj => by rw [if_pos hj, signs_getD _ (by rw [← HN.out]; exact hj)]) Try.underlying22 Try.underlying5 Try.underlying9
      clear hrow
      go_wp2
      go_ret
      exact ⟨rfl, hb⟩
def dsL (z : List Int) (s : ByteArray) (n : Int) : List Int := if lsOK z s 0 n then dots z s.data.toList 0 n.toNat else []
theorem dsL_yes {z : List Int} {s : ByteArray} {n : Nat} (h : lsOK z s 0 (n : Int) = true) : dsL z s (n : Int) = dots z s.data.toList 0 n := if_pos h
theorem dsL_no {z : List Int} {s : ByteArray} {n : Int} (h : lsOK z s 0 n = false) : dsL z s n = [] := if_neg (by simp [h])
theorem ls_parts {z : List Int} {s : ByteArray} {x n : Int} (h : lsOK z s x n = true) : sigOK z = true ∧ seqOK s.data.toList = true ∧ ∃ X N : Nat, x = (X : Int) ∧ n = (N : Int) ∧ X ≤ 3000 ∧ N ≤ 600 := by
  unfold lsOK inB at h
  simp only [Bool.and_eq_true, decide_eq_true_eq] at h
  exact ⟨h.1.1.1, h.1.1.2, x.toNat, n.toNat, by omega, by omega, by omega, by omega⟩
theorem inB_cases {n : Int} (h : inB n 0 600 = false) : n < 0 ∨ ¬ n < 0 ∧ 600 < n := by
  unfold inB at h
  simp only [Bool.and_eq_false_iff, decide_eq_false_iff_not] at h
  omega
set_option maxHeartbeats 1000000 in
theorem desI_any (A : Option Addr) (c : Nat) (z : List Int) (s : ByteArray) (n : Int) (w : World) (hr : Reads w w.heap.size A z) (hl : z.length ≤ 1048576) (hs : s.size ≤ maxLen) :
    Calls Try.prog 11 #[.slice A z.length c, .string s, .int .i64 n] w (RetLB (dsL z s n) (lsOK z s 0 n) w) := by
  have HV := Lib.hid (sigI_any A c z w hr hl)
  have HQ := Lib.hid (seqI_any s w hs)
  cases hz : sigOK z with
  | false =>
    have e : lsOK z s 0 n = false := by unfold lsOK; rw [hz]; rfl
    rw [dsL_no e, e]
    rw [hz] at HV
    clear e hr
    go_enter Try.func11, Try.ntmps11
    go_wp2_with fail
    refine (HV.out).mono ?_
    rintro e w' ⟨rfl, rfl⟩
    go_wp2
    go_ret2
    exact RetLB.mk (Sl.nil _ _ _) (Below.refl _ _)
  | true =>
    rw [hz] at HV
    cases hq : seqOK s.data.toList with
    | false =>
      have e : lsOK z s 0 n = false := by unfold lsOK; rw [hz, hq]; rfl
      rw [dsL_no e, e]
      rw [hq] at HQ
      clear e hr
      go_enter Try.func11, Try.ntmps11
      go_wp2_with fail
      refine (HV.out).mono ?_
      rintro e w' ⟨rfl, rfl⟩
      go_wp2_with fail
      refine (HQ.out).mono ?_
      rintro e w' ⟨rfl, rfl⟩
      go_wp2
      go_ret2
      exact RetLB.mk (Sl.nil _ _ _) (Below.refl _ _)
    | true =>
      rw [hq] at HQ
      cases hn : inB n 0 600 with
      | false =>
        have e : lsOK z s 0 n = false := by unfold lsOK; rw [hz, hq, hn]; rfl
        rw [dsL_no e, e]
        have hc := inB_cases hn
        clear e hr hn
        rcases hc with h | ⟨h, h'⟩
        · go_enter Try.func11, Try.ntmps11
          go_wp2_with fail
          refine (HV.out).mono ?_
          rintro e w' ⟨rfl, rfl⟩
          go_wp2_with fail
          refine (HQ.out).mono ?_
          rintro e w' ⟨rfl, rfl⟩
          go_wp2
          go_ret2
          exact RetLB.mk (Sl.nil _ _ _) (Below.refl _ _)
        · have h2 : 0 ≤ n := by omega
          go_enter Try.func11, Try.ntmps11
          go_wp2_with fail
          refine (HV.out).mono ?_
          rintro e w' ⟨rfl, rfl⟩
          go_wp2_with fail
          refine (HQ.out).mono ?_
          rintro e w' ⟨rfl, rfl⟩
          go_wp2
          go_ret2
          exact RetLB.mk (Sl.nil _ _ _) (Below.refl _ _)
      | true =>
        have e : lsOK z s 0 n = true := by unfold lsOK; rw [hz, hq, hn]; rfl
        obtain ⟨_, _, _, N, h00, rfl, _, hN⟩ := ls_parts e
        clear h00
        obtain ⟨q1, q2, _⟩ := seq_parts hq
        rw [dsL_yes e, e]
        have HC : Hid (∀ u : World, Reads u u.heap.size A z → Calls Try.prog 34 #[.slice A z.length c, .string s, .int .i64 0, .int .i64 (N : Int)] u (RetL (dots z s.data.toList 0 N) u)) := fun u hu => corrsI_any A c z s 0 N u hu hz q2 (by omega) hN
        have HR := Lib.hid hr
        clear e hr hn
        go_enter Try.func11, Try.ntmps11
        go_wp2_with fail
        refine (HV.out).mono ?_
        rintro e w' ⟨rfl, rfl⟩
        go_wp2_with fail
        refine (HQ.out).mono ?_
        rintro e w' ⟨rfl, rfl⟩
        go_wp2_with fail
        refine (HC.out _ HR.out).mono ?_
        rintro e w1 ⟨v, rfl, hsl, hb⟩
        have HS := Lib.hid hsl
        clear hsl
        go_wp2
        go_ret2
        exact RetLB.mk HS.out hb
set_option maxHeartbeats 1000000 in
theorem desS_any (A : Option Addr) (c : Nat) (z : List Int) (s : ByteArray) (n : Int) (w : World) (hr : Reads w w.heap.size A z) (hl : z.length ≤ 1048576) (hs : s.size ≤ maxLen) :
    Calls Try.prog 26 #[.slice A z.length c, .string s, .int .i64 n] w (RetLB (dsL z s n) (lsOK z s 0 n) w) := by
  have HV := Lib.hid (listenS_any A c z s 0 n w hr hl hs)
  cases e : lsOK z s 0 n with
  | false =>
    rw [dsL_no e]
    rw [e] at HV
    have HO : Hid (Sl (w.alloc (.cells #[] 3)) w.heap.size (w.alloc (.cells #[] 3)).heap.size (.slice (some ⟨w.heap.size, 0, none⟩) 0 0) []) := sl_empty
    clear hr
    go_enter Try.func26, Try.ntmps26
    go_wp2_with fail
    refine (HV.out).mono ?_
    rintro e w' ⟨rfl, rfl⟩
    go_wp2
    go_ret2
    exact RetLB.mk HO.out ((Below.refl _ _).alloc (Nat.le_refl _) _)
  | true =>
    rw [e] at HV
    obtain ⟨hz, hq, _, N, h00, rfl, _, hN⟩ := ls_parts e
    clear h00
    rw [dsL_yes e]
    have HC : Hid (∀ u : World, Reads u u.heap.size A z → Calls Try.prog 37 #[.slice A z.length c, .string s, .int .i64 0, .int .i64 (N : Int)] u (RetL (dots z s.data.toList 0 N) u)) := fun u hu => despS_any A c z s 0 N u hu hz hq (by omega) hN
    have HR := Lib.hid hr
    clear e hr
    go_enter Try.func26, Try.ntmps26
    go_wp2_with fail
    refine (HV.out).mono ?_
    rintro e w' ⟨rfl, rfl⟩
    go_wp2_with fail
    refine (HC.out _ HR.out).mono ?_
    rintro e w1 ⟨v, rfl, hsl, hb⟩
    have HS := Lib.hid hsl
    clear hsl
    go_wp2
    go_ret2
    exact RetLB.mk HS.out hb
/-- what ReceiveUser returns -/
def rcvO (z : List Int) (s : ByteArray) (x n : Int) : Option (List UInt8) := if lsOK z s x n then some (signs (dots z s.data.toList x.toNat n.toNat)) else none
theorem rcv_yes {z : List Int} {s : ByteArray} {X N : Nat} (h : lsOK z s (X : Int) (N : Int) = true) : rcvO z s (X : Int) (N : Int) = some (signs (dots z s.data.toList X N)) := if_pos h
theorem rcv_no {z : List Int} {s : ByteArray} {x n : Int} (h : lsOK z s x n = false) : rcvO z s x n = none := if_neg (by simp [h])
/-- a signal, a code and a delay are valid -/
def rvOK (z : List Int) (s : ByteArray) (x : Int) : Bool := sigOK z && seqOK s.data.toList && inB x 0 3000
theorem ls_rv (z : List Int) (s : ByteArray) (x n : Int) : lsOK z s x n = (rvOK z s x && inB n 0 600) := rfl
theorem inB3_cases {n : Int} (h : inB n 0 3000 = false) : n < 0 ∨ 0 ≤ n ∧ 3000 < n := by
  unfold inB at h
  simp only [Bool.and_eq_false_iff, decide_eq_false_iff_not] at h
  omega
set_option maxHeartbeats 1000000 in
theorem rvI_any (A : Option Addr) (c : Nat) (z : List Int) (s : ByteArray) (x : Int) (w : World) (hr : Reads w w.heap.size A z) (hl : z.length ≤ 1048576) (hs : s.size ≤ maxLen) :
    Calls Try.prog 32 #[.slice A z.length c, .string s, .int .i64 x] w fun e w' => e = .returned (.bool (rvOK z s x)) ∧ w = w' := by
  have HV := Lib.hid (sigI_any A c z w hr hl)
  have HQ := Lib.hid (seqI_any s w hs)
  unfold rvOK
  clear hr
  generalize sigOK z = b1 at *
  generalize seqOK s.data.toList = b2 at *
  cases b1 with
  | false =>
    go_enter Try.func32, Try.ntmps32
    go_wp2_with fail
    refine (HV.out).mono ?_
    rintro e w' ⟨rfl, rfl⟩
    go_wp2
    go_ret
    exact ⟨rfl, rfl⟩
  | true =>
    cases b2 with
    | false =>
      go_enter Try.func32, Try.ntmps32
      go_wp2_with fail
      refine (HV.out).mono ?_
      rintro e w' ⟨rfl, rfl⟩
      go_wp2_with fail
      refine (HQ.out).mono ?_
      rintro e w' ⟨rfl, rfl⟩
      go_wp2
      go_ret
      exact ⟨rfl, rfl⟩
    | true =>
      cases hx : inB x 0 3000 with
      | false =>
        rcases inB3_cases hx with h | ⟨h, h'⟩
        · have d1 : decide ((0 : Int) ≤ x) = false := decide_eq_false (by omega)
          clear hx
          go_enter Try.func32, Try.ntmps32
          go_wp2_with fail
          refine (HV.out).mono ?_
          rintro e w' ⟨rfl, rfl⟩
          go_wp2_with fail
          refine (HQ.out).mono ?_
          rintro e w' ⟨rfl, rfl⟩
          go_wp2
          go_ret
          exact ⟨rfl, rfl⟩
        · have d1 : decide ((0 : Int) ≤ x) = true := decide_eq_true h
          have d2 : decide (x ≤ 3000) = false := decide_eq_false (by omega)
          clear hx
          go_enter Try.func32, Try.ntmps32
          go_wp2_with fail
          refine (HV.out).mono ?_
          rintro e w' ⟨rfl, rfl⟩
          go_wp2_with fail
          refine (HQ.out).mono ?_
          rintro e w' ⟨rfl, rfl⟩
          go_wp2
          go_ret
          exact ⟨rfl, rfl⟩
      | true =>
        have hx2 : 0 ≤ x ∧ x ≤ 3000 := by unfold inB at hx; simp only [Bool.and_eq_true, decide_eq_true_eq] at hx; omega
        have d1 : decide ((0 : Int) ≤ x) = true := decide_eq_true hx2.1
        have d2 : decide (x ≤ 3000) = true := decide_eq_true hx2.2
        clear hx
        go_enter Try.func32, Try.ntmps32
        go_wp2_with fail
        refine (HV.out).mono ?_
        rintro e w' ⟨rfl, rfl⟩
        go_wp2_with fail
        refine (HQ.out).mono ?_
        rintro e w' ⟨rfl, rfl⟩
        go_wp2
        go_ret
        exact ⟨rfl, rfl⟩
set_option maxHeartbeats 1000000 in
theorem rcvI_any (A : Option Addr) (c : Nat) (z : List Int) (s : ByteArray) (x n : Int) (w : World) (hr : Reads w w.heap.size A z) (hl : z.length ≤ 1048576) (hs : s.size ≤ maxLen) :
    Calls Try.prog 9 #[.slice A z.length c, .string s, .int .i64 x, .int .i64 n] w fun e w' => e = .returned (strRes (rcvO z s x n)) ∧ Below w.heap.size w w' := by
  have HV := Lib.hid (rvI_any A c z s x w hr hl hs)
  cases hv : rvOK z s x with
  | false =>
    rw [rcv_no (by rw [ls_rv, hv]; rfl)]
    rw [hv] at HV
    clear hr
    go_enter Try.func9, Try.ntmps9
    go_wp2_with fail
    refine (HV.out).mono ?_
    rintro e w' ⟨rfl, rfl⟩
    go_wp2
    go_ret2
    exact ⟨rfl, Below.refl _ _⟩
  | true =>
    rw [hv] at HV
    cases hn : inB n 0 600 with
    | false =>
      rw [rcv_no (by rw [ls_rv, hv, hn]; rfl)]
      have hc := inB_cases hn
      clear hr hn
      rcases hc with h | ⟨h, h'⟩
      · go_enter Try.func9, Try.ntmps9
        go_wp2_with fail
        refine (HV.out).mono ?_
        rintro e w' ⟨rfl, rfl⟩
        go_wp2
        go_ret2
        exact ⟨rfl, Below.refl _ _⟩
      · have h2 : 0 ≤ n := by omega
        go_enter Try.func9, Try.ntmps9
        go_wp2_with fail
        refine (HV.out).mono ?_
        rintro e w' ⟨rfl, rfl⟩
        go_wp2
        go_ret2
        exact ⟨rfl, Below.refl _ _⟩
    | true =>
      have e : lsOK z s x n = true := by rw [ls_rv, hv, hn]; rfl
      obtain ⟨hz, hq, X, N, rfl, rfl, hX, hN⟩ := ls_parts e
      obtain ⟨q1, q2, _⟩ := seq_parts hq
      rw [rcv_yes e]
      have HC : Hid (∀ u : World, Reads u u.heap.size A z → Calls Try.prog 34 #[.slice A z.length c, .string s, .int .i64 (X : Int), .int .i64 (N : Int)] u (RetL (dots z s.data.toList X N) u)) := fun u hu => corrsI_any A c z s X N u hu hz q2 (by omega) hN
      have HR := Lib.hid hr
      have hdl := dots_len z s.data.toList X N
      have HSG : Hid (∀ (A' : Option Addr) (c' : Nat) (u : World), Reads u u.heap.size A' (dots z s.data.toList X N) → Calls Try.prog 33 #[.slice A' N c'] u fun e w' => e = .returned (.string (str (signs (dots z s.data.toList X N)))) ∧ Below u.heap.size u w') := fun A' c' u hu => by
        have := signsI_any A' c' (dots z s.data.toList X N) u hu (by rw [hdl]; omega)
        rw [hdl] at this
        exact this
      have HDL := Lib.hid hdl
      clear e hr hn hv hz hq hdl
      go_enter Try.func9, Try.ntmps9
      go_wp2_with fail
      refine (HV.out).mono ?_
      rintro e w' ⟨rfl, rfl⟩
      go_wp2_with fail
      refine (HC.out _ HR.out).mono ?_
      rintro e w1 ⟨v, rfl, hsl, hb⟩
      obtain ⟨A', c', rfl, hrd, _⟩ := hsl.reads
      rw [HDL.out]
      have hC2 := Lib.hid (HSG.out A' c' w1 hrd)
      clear hsl hrd
      go_wp2_with fail
      refine hC2.out.mono ?_
      rintro e w2 ⟨rfl, k2⟩
      go_wp2
      go_ret2
      exact ⟨rfl, hb.trans (k2.mono hb.size)⟩
set_option maxHeartbeats 1000000 in
theorem rcvS_any (A : Option Addr) (c : Nat) (z : List Int) (s : ByteArray) (x n : Int) (w : World) (hr : Reads w w.heap.size A z) (hl : z.length ≤ 1048576) (hs : s.size ≤ maxLen) :
    Calls Try.prog 10 #[.slice A z.length c, .string s, .int .i64 x, .int .i64 n] w fun e w' => e = .returned (strRes (rcvO z s x n)) ∧ Below w.heap.size w w' := by
  have HV := Lib.hid (listenS_any A c z s x n w hr hl hs)
  cases e : lsOK z s x n with
  | false =>
    rw [rcv_no e]
    rw [e] at HV
    clear hr
    go_enter Try.func10, Try.ntmps10
    go_wp2_with fail
    refine (HV.out).mono ?_
    rintro e w' ⟨rfl, rfl⟩
    go_wp2
    go_ret2
    exact ⟨rfl, Below.refl _ _⟩
  | true =>
    rw [e] at HV
    obtain ⟨hz, hq, X, N, rfl, rfl, hX, hN⟩ := ls_parts e
    rw [rcv_yes e]
    have HC : Hid (∀ u : World, Reads u u.heap.size A z → Calls Try.prog 37 #[.slice A z.length c, .string s, .int .i64 (X : Int), .int .i64 (N : Int)] u (RetL (dots z s.data.toList X N) u)) := fun u hu => despS_any A c z s X N u hu hz hq (by omega) hN
    have HR := Lib.hid hr
    have hdl := dots_len z s.data.toList X N
    have HSG : Hid (∀ (A' : Option Addr) (c' : Nat) (u : World), Reads u u.heap.size A' (dots z s.data.toList X N) → Calls Try.prog 36 #[.slice A' N c'] u fun e w' => e = .returned (.string (str (signs (dots z s.data.toList X N)))) ∧ Below u.heap.size u w') := fun A' c' u hu => by
      have := signsS_any A' c' (dots z s.data.toList X N) u hu (by rw [hdl]; omega)
      rw [hdl] at this
      exact this
    have HDL := Lib.hid hdl
    clear e hr hz hq hdl
    go_enter Try.func10, Try.ntmps10
    go_wp2_with fail
    refine (HV.out).mono ?_
    rintro e w' ⟨rfl, rfl⟩
    go_wp2_with fail
    refine (HC.out _ HR.out).mono ?_
    rintro e w1 ⟨v, rfl, hsl, hb⟩
    obtain ⟨A', c', rfl, hrd, _⟩ := hsl.reads
    rw [HDL.out]
    have hC2 := Lib.hid (HSG.out A' c' w1 hrd)
    clear hsl hrd
    go_wp2_with fail
    refine hC2.out.mono ?_
    rintro e w2 ⟨rfl, k2⟩
    go_wp2
    go_ret2
    exact ⟨rfl, hb.trans (k2.mono hb.size)⟩
end Go.Proofs.Ytiiiaeemblcniaa
