/- The walk of the law FnHammingCorrects: protected bits are restored, also if in each block at most one bit is changed, whose place the syndrome tells. -/
import Derived.Test.YtmfblphnedoejaaWk
import Derived.Test.YtmfblphnedoejaaPHam
import Derived.Test.YtmfblphnedoejaaDraw5
namespace Go.Proofs.Ytmfblphnedoejaa.fnHammingCorrects
set_option maxRecDepth 20000
open Go.ChangeShapes Go.WideShapes Go.ChangeAt Go.RowKit
set_option linter.unusedVariables false
set_option linter.unusedSimpArgs false

theorem hsyn_7 {l : List UInt8} (h : bitsOK l = true) (h7 : l.length = 7) : hsyn l = synTo l 7 := by unfold hsyn; rw [h, h7]; rfl
theorem hx_ok {s : List UInt8} (h : bitsOK s = true) (m : Nat) {N : Nat} (hN : s.length = 7 * N) : ∀ i, i ≤ N → bitsOK (hxTo s m i) = true
  | 0, _ => h
  | i + 1, hi => by
    have ih := hx_ok h m hN i (by omega)
    have h8 := hk8_lt m i
    simp only [hxTo]
    split
    · exact ih
    · exact flip_ok ih (by rw [hxTo_len]; omega)
theorem cut_ok {l : List UInt8} (h : bitsOK l = true) {k n : Nat} (hk : k + n ≤ l.length) : bitsOK (cutL l k n) = true := by
  have := bits_le h
  refine bits_of_at (by rw [cutL_len hk]; omega) (fun j hj => ?_)
  rw [cutL_len hk] at hj
  rw [cutL_getD hj]
  exact bitAt h _ (by omega)

set_option maxHeartbeats 8000000 in
theorem walk (a0 : Option Addr) (len0 cap0 : Nat) (z0 : List Int) (a1 : Option Addr) (len1 cap1 : Nat) (z1 : List Int) (w : World) (hw0 : IsRow .u8 w a0 len0 cap0 z0) (hw1 : IsRow .u8 w a1 len1 cap1 z1) :
    Calls Try.prog 8 #[.slice a0 len0 cap0, .slice a1 len1 cap1] w fun e w' => e = .returned (.bool true) ∧ Below w.heap.size w w' := by
  by_cases hlen : len0 ≤ 1048576
  rotate_left
  · go_enter Try.func8, Try.ntmps8
    go_wp2
    go_ret
    exact ⟨rfl, Below.refl _ _⟩
  by_cases hlen1 : len1 ≤ 1048576
  rotate_left
  · go_enter Try.func8, Try.ntmps8
    go_wp2
    go_ret
    exact ⟨rfl, Below.refl _ _⟩
  clear hw1
  go_enter Try.func8, Try.ntmps8
  go_wp2_with fail
  refine (drawHamE_any _ _ _ _ _ hw0).mono ?_
  rintro e w1 ⟨l, rfl, hl, hb⟩
  clear hw0
  have zl := str_size l
  have hm : (str l).size ≤ maxLen := by unfold maxLen; omega
  cases hE : hamEnc l with
  | none =>
    have HI : Hid (∀ u : World, Calls Try.prog 35 #[.string (str l)] u fun e w' => e = .returned (.tuple #[.string ⟨#[]⟩, .bool false]) ∧ Below u.heap.size u w') := fun u => by
      have hh := hamEncI_any (str l) u hm
      rw [str_list, hE] at hh
      exact hh
    have HS : Hid (∀ u : World, Calls Try.prog 36 #[.string (str l)] u fun e w' => e = .returned (.tuple #[.string ⟨#[]⟩, .bool false]) ∧ Below u.heap.size u w') := fun u => by
      have hh := hamEncS_any (str l) u hm
      rw [str_list, hE] at hh
      exact hh
    clear hE
    go_wp2_with fail
    refine (HI.out _).mono ?_
    rintro e w2 ⟨rfl, k⟩
    replace hb := below_next hb k
    clear k
    (try clear hc hf)
    obtain ⟨hc, hf⟩ := bcell hb
    go_wp2_with fail
    refine (HS.out _).mono ?_
    rintro e w3 ⟨rfl, k⟩
    replace hb := below_next hb k
    clear k
    (try clear hc hf)
    obtain ⟨hc, hf⟩ := bcell hb
    go_wp2
    go_ret
    exact ⟨rfl, hb⟩
  | some S =>
    obtain ⟨N, hbl, hN, hS, hN6⟩ : ∃ N, bitsOK l = true ∧ l.length = 4 * N ∧ S = hamTo l N ∧ 7 * N ≤ 600 := by
      unfold hamEnc at hE
      split at hE
      · rename_i h
        simp only [Bool.and_eq_true, decide_eq_true_eq] at h
        exact ⟨l.length / 4, h.1.1, by omega, (Option.some.inj hE).symm, by omega⟩
      · cases hE
    have hSl : S.length = 7 * N := by rw [hS, hamTo_len]
    have hSb : bitsOK S = true := by
      refine bitsOK_mk (by omega) (fun c hc => ?_)
      rw [hS] at hc
      exact hamTo_bits hbl N (by omega) c hc
    have zS := str_size S
    have hq7 : (S.length : Int) / 7 = (N : Int) := by omega
    obtain ⟨X, hX⟩ : ∃ X, X = hxTo S len1 N := ⟨_, rfl⟩
    have hXl : X.length = 7 * N := by rw [hX, hxTo_len, hSl]
    have hXb : bitsOK X = true := by rw [hX]; exact hx_ok hSb len1 hSl N (Nat.le_refl _)
    have zX := str_size X
    have hmS : (str S).size ≤ maxLen := by unfold maxLen; omega
    have hmX : (str X).size ≤ maxLen := by unfold maxLen; omega
    have d1 : hamDec S = some (l, 0) := by
      unfold hamDec
      rw [hSb, hSl, decide_eq_true (show 7 * N % 7 = 0 by omega), show 7 * N / 7 = N by omega, hS, hs_dec hN (bitAt hbl), hs_cnt hN (bitAt hbl) N (Nat.le_refl _)]
      rfl
    have d2 : hamDec X = some (l, hnTo len1 N) := by
      unfold hamDec
      rw [hXb, hXl, decide_eq_true (show 7 * N % 7 = 0 by omega), show 7 * N / 7 = N by omega, hX, hS, hx_dec hN (bitAt hbl), hx_cnt hN (bitAt hbl) len1 N (Nat.le_refl _)]
      rfl
    have HI : Hid (∀ u : World, Calls Try.prog 35 #[.string (str l)] u fun e w' => e = .returned (.tuple #[.string (str S), .bool true]) ∧ Below u.heap.size u w') := fun u => by
      have hh := hamEncI_any (str l) u hm
      rw [str_list, hE] at hh
      exact hh
    have HS : Hid (∀ u : World, Calls Try.prog 36 #[.string (str l)] u fun e w' => e = .returned (.tuple #[.string (str S), .bool true]) ∧ Below u.heap.size u w') := fun u => by
      have hh := hamEncS_any (str l) u hm
      rw [str_list, hE] at hh
      exact hh
    have D1 : Hid (∀ u : World, Calls Try.prog 37 #[.string (str S)] u fun e w' => e = .returned (.tuple #[.string (str l), .int .i64 0, .bool true]) ∧ Below u.heap.size u w') := fun u => by
      have hh := hamDecI_any (str S) u hmS
      rw [str_list, d1] at hh
      exact hh
    have D2 : Hid (∀ u : World, Calls Try.prog 37 #[.string (str X)] u fun e w' => e = .returned (.tuple #[.string (str l), .int .i64 (hnTo len1 N : Int), .bool true]) ∧ Below u.heap.size u w') := fun u => by
      have hh := hamDecI_any (str X) u hmX
      rw [str_list, d2] at hh
      exact hh
    have HXN := Lib.hid hX
    have HXB : Hid (∀ i, i ≤ N → bitsOK (hxTo S len1 i) = true) := Lib.hid (hx_ok hSb len1 hSl)
    have HXL : Hid (∀ i, (hxTo S len1 i).length = 7 * N) := Lib.hid fun i => by rw [hxTo_len, hSl]
    have HSY : Hid (∀ i, i < N → ∀ u : World, Calls Try.prog 32 #[.string (str (cutL (hxTo S len1 (i + 1)) (7 * i) 7))] u fun e w' => e = .returned (.int .i64 (hk8 len1 i : Int)) ∧ Below u.heap.size u w') := Lib.hid fun i hi u => by
      have h7 : 7 * i + 7 ≤ (hxTo S len1 (i + 1)).length := by rw [hxTo_len, hSl]; omega
      have hh := hsynI_any (str (cutL (hxTo S len1 (i + 1)) (7 * i) 7)) u (by rw [str_size, cutL_len h7]; unfold maxLen; omega)
      rw [str_list, hsyn_7 (cut_ok (HXB.out (i + 1) (by omega)) h7) (cutL_len h7), hS, (hx_block hN (bitAt hbl) len1 (Nat.lt_succ_self i) hi).1, ← hS] at hh
      exact hh
    have hcn := hnTo_le len1 N
    have hfin : 4 * (S.length : Int) = 7 * (l.length : Int) := by omega
    clear hE d1 d2 hX hS hSb hXb hbl
    go_wp2_with fail
    refine (HI.out _).mono ?_
    rintro e w2 ⟨rfl, k⟩
    replace hb := below_next hb k
    clear k
    (try clear hc hf)
    obtain ⟨hc, hf⟩ := bcell hb
    go_wp2_with fail
    refine (HS.out _).mono ?_
    rintro e w3 ⟨rfl, k⟩
    replace hb := below_next hb k
    clear k
    (try clear hc hf)
    obtain ⟨hc, hf⟩ := bcell hb
    clear hc hf
    go_wp2
    go_loopw [10, 11, 12, 13] (fun x n i _ wr => ∃ k : Nat, i = .int .i64 (k : Int) ∧ x = .string (str (hxTo S len1 k)) ∧ n = .int .i64 (hnTo len1 k : Int) ∧ k ≤ N ∧ Below w.heap.size w wr) (fun _ _ i _ _ => N - (intOf i).toNat)
    case atStart => exact ⟨0, rfl, rfl, rfl, Nat.zero_le _, hb⟩
    case round =>
      clear hb
      obtain ⟨k, rfl, rfl, rfl, hk, hb⟩ := hrel
      have hnk := hnTo_le len1 k
      by_cases hlt : k < N
      · obtain ⟨sq, hsq, hsq2⟩ : ∃ sq : Nat, (k : Int) * (k : Int) = (sq : Int) ∧ sq ≤ 10000 := ⟨k * k, by simp, by
          have : k * k ≤ 100 * 100 := Nat.mul_le_mul (by omega) (by omega)
          omega⟩
        obtain ⟨kk, hkk⟩ : ∃ kk, kk = hk8 len1 k := ⟨_, rfl⟩
        have hk8 : ((len1 : Int) + (sq : Int)) % 8 = (kk : Int) := by
          rw [hkk, ← hsq]; unfold hk8; simp
        have hk8l : kk < 8 := by rw [hkk]; exact hk8_lt _ _
        have hXB := HXB.out k (by omega)
        have hXL := HXL.out k
        have hXL1 := HXL.out (k + 1)
        have hsy := HSY.out k hlt
        rw [← hkk] at hsy
        have HX1 : Hid (hxTo S len1 (k + 1) = if kk = 0 then hxTo S len1 k else flipL (hxTo S len1 k) (7 * k + kk - 1)) := Lib.hid (by rw [hkk]; rfl)
        have HN1 : Hid (hnTo len1 (k + 1) = hnTo len1 k + if kk = 0 then 0 else 1) := Lib.hid (by rw [hkk]; rfl)
        have hex := ex_cut (str (hxTo S len1 (k + 1))) (7 * k) 7
        rw [str_list] at hex
        have hzx : (str (hxTo S len1 (k + 1))).size = 7 * N := by rw [str_size, hXL1]
        have hbk : 7 * (k : Int) + 7 ≤ 7 * (N : Int) := by omega
        by_cases h0 : kk = 0
        · subst h0
          have e1 : hxTo S len1 (k + 1) = hxTo S len1 k := by rw [HX1.out]; rfl
          have HN2 : Hid (hnTo len1 (k + 1) = hnTo len1 k) := Lib.hid (by rw [HN1.out]; rfl)
          have HX2 := Lib.hid e1
          rw [e1] at hsy hex hzx
          generalize hxTo S len1 k = Y at *
          generalize cutL Y (7 * k) 7 = b at *
          have HSY2 := Lib.hid hsy
          clear hsy hkk e1 HX1 HN1
          go_wp2_with fail
          refine (HSY2.out _).mono ?_
          rintro e w5 ⟨rfl, k⟩
          replace hb := below_next hb k
          clear k
          (try clear hc hf)
          obtain ⟨hc, hf⟩ := bcell hb
          go_wp2
          go_roundw
          case rel => exact ⟨k + 1, by go_num, by rw [HX2.out], by rw [HN2.out], by omega, hb⟩
          case measure => simp [intOf]; omega
        · have e1 : hxTo S len1 (k + 1) = flipL (hxTo S len1 k) (7 * k + kk - 1) := by rw [HX1.out, if_neg h0]
          have HN2 : Hid (hnTo len1 (k + 1) = hnTo len1 k + 1) := Lib.hid (by rw [HN1.out, if_neg h0])
          obtain ⟨p, hp⟩ : ∃ p, p = 7 * k + kk - 1 := ⟨_, rfl⟩
          have hp1 : 7 * (k : Int) + (kk : Int) - 1 = (p : Int) := by omega
          have hfl := fun u => ssFlip_any (hxTo S len1 k) p u (by omega) (by omega) (bitAt hXB p (by omega))
          rw [← hp] at e1
          rw [← e1] at hfl
          clear hp e1
          obtain ⟨Y1, hY1⟩ : ∃ Y1, Y1 = hxTo S len1 (k + 1) := ⟨_, rfl⟩
          have HY1 := Lib.hid hY1
          rw [← hY1] at hfl hsy hex hzx
          clear hY1 hXL1
          generalize cutL Y1 (7 * k) 7 = b at *
          generalize hxTo S len1 k = Y at *
          have HFL := Lib.hid hfl
          have HSY2 := Lib.hid hsy
          clear hsy hfl hkk HX1 HN1
          go_wp2_with fail
          refine (HFL.out _).mono ?_
          rintro e w5 ⟨rfl, k⟩
          replace hb := below_next hb k
          clear k
          (try clear hc hf)
          obtain ⟨hc, hf⟩ := bcell hb
          go_wp2_with fail
          refine (HSY2.out _).mono ?_
          rintro e w6 ⟨rfl, k⟩
          replace hb := below_next hb k
          clear k
          (try clear hc hf)
          obtain ⟨hc, hf⟩ := bcell hb
          go_wp2
          go_roundw
          case rel => exact ⟨k + 1, by go_num, by rw [HY1.out], by rw [HN2.out]; go_num, by omega, hb⟩
          case measure => simp [intOf]; omega
      · obtain rfl : k = N := by omega
        have hXe := HXN.out
        rw [← hXe]
        clear hXe
        have hfin2 : (4 * (7 * (k : Int)) == 7 * (4 * (k : Int))) = true := by simp; omega
        go_wp2_with fail
        refine (D1.out _).mono ?_
        rintro e w5 ⟨rfl, k⟩
        replace hb := below_next hb k
        clear k
        (try clear hc hf)
        obtain ⟨hc, hf⟩ := bcell hb
        go_wp2_with fail
        refine (D2.out _).mono ?_
        rintro e w6 ⟨rfl, k⟩
        replace hb := below_next hb k
        clear k
        (try clear hc hf)
        obtain ⟨hc, hf⟩ := bcell hb
        go_wp2
        go_ret
        exact ⟨rfl, hb⟩
end Go.Proofs.Ytmfblphnedoejaa.fnHammingCorrects
