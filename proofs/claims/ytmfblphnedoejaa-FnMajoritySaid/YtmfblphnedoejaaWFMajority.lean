/- The walk of the law FnMajority: repeated bits are restored, also if in each of them fewer than half of the repetitions are wrong. -/
import Derived.Test.YtmfblphnedoejaaWk
import Derived.Test.YtmfblphnedoejaaPMaj
import Derived.Test.YtmfblphnedoejaaDraw5
namespace Go.Proofs.Ytmfblphnedoejaa.fnMajority
set_option maxRecDepth 20000
open Go.ChangeShapes Go.WideShapes Go.ChangeAt Go.RowKit
set_option linter.unusedVariables false
set_option linter.unusedSimpArgs false

set_option maxHeartbeats 8000000 in
theorem walk (a0 : Option Addr) (len0 cap0 : Nat) (z0 : List Int) (a1 : Option Addr) (len1 cap1 : Nat) (z1 : List Int) (w : World) (hw0 : IsRow .u8 w a0 len0 cap0 z0) (hw1 : IsRow .u8 w a1 len1 cap1 z1) :
    Calls Try.prog 13 #[.slice a0 len0 cap0, .slice a1 len1 cap1] w fun e w' => e = .returned (.bool true) ∧ Below w.heap.size w w' := by
  by_cases hlen : len0 ≤ 1048576
  rotate_left
  · go_enter Try.func13, Try.ntmps13
    go_wp2
    go_ret
    exact ⟨rfl, Below.refl _ _⟩
  by_cases hlen1 : len1 ≤ 1048576
  rotate_left
  · go_enter Try.func13, Try.ntmps13
    go_wp2
    go_ret
    exact ⟨rfl, Below.refl _ _⟩
  clear hw1
  go_enter Try.func13, Try.ntmps13
  go_wp2_with fail
  refine (drawRep_any _ _ _ _ _ hw0).mono ?_
  rintro e w1 ⟨l, n0, rfl, hl, hn1, hn2, hb⟩
  clear hw0
  have zl := str_size l
  have hm : (str l).size ≤ maxLen := by unfold maxLen; omega
  cases hE : repBits l n0 with
  | none =>
    have HI : Hid (∀ u : World, Calls Try.prog 50 #[.string (str l), .int .i64 n0] u fun e w' => e = .returned (.tuple #[.string ⟨#[]⟩, .bool false]) ∧ Below u.heap.size u w') := fun u => by
      have hh := repI_any (str l) n0 u hm
      rw [str_list, hE] at hh
      exact hh
    have HS : Hid (∀ u : World, Calls Try.prog 51 #[.string (str l), .int .i64 n0] u fun e w' => e = .returned (.tuple #[.string ⟨#[]⟩, .bool false]) ∧ u = w') := fun u => by
      have hh := repS_any (str l) n0 u hm
      rw [str_list, hE] at hh
      exact hh
    clear hE
    go_wp2_with fail
    refine (HI.out _).mono ?_
    rintro e w2 ⟨rfl, k⟩
    replace hb := below_next hb k
    clear k
    (try clear hc hf)
    obtain ⟨hc, hf⟩ := bcell hb
    go_wp2_with fail
    refine (HS.out _).mono ?_
    rintro e w' ⟨rfl, rfl⟩
    go_wp2
    go_ret
    exact ⟨rfl, hb⟩
  | some S =>
    obtain ⟨n, rfl, hbl, ho, hnl, hS⟩ : ∃ n : Nat, n0 = (n : Int) ∧ bitsOK l = true ∧ oddOK (n : Int) = true ∧ l.length * n ≤ 600 ∧ S = repTo l n (l.length * n) := by
      unfold repBits at hE
      split at hE
      · rename_i h
        simp only [Bool.and_eq_true, decide_eq_true_eq] at h
        obtain ⟨m, rfl, hm0⟩ := oddNat h.1.2
        rw [Int.toNat_natCast] at *
        exact ⟨m, rfl, h.1.1, h.1.2, h.2, (Option.some.inj hE).symm⟩
      · cases hE
    have hop := odd_parts ho
    have hn9 : 1 ≤ n ∧ n ≤ 9 := by omega
    have hno : n % 2 = 1 := by
      unfold oddOK at ho
      simp only [Bool.and_eq_true, beq_iff_eq] at ho
      omega
    have hl6 := bits_le hbl
    have hSl : S.length = l.length * n := by rw [hS, repTo_len]
    have hSb : bitsOK S = true := by rw [hS]; exact repTo_bits hbl (by omega) hnl
    have zS := str_size S
    obtain ⟨L, hL⟩ : ∃ L, L = S.length := ⟨_, rfl⟩
    obtain ⟨X, hX⟩ : ∃ X, X = mxTo S n len1 l.length := ⟨_, rfl⟩
    have hXl : X.length = L := by rw [hX, mxTo_len, hL]
    have hMB : ∀ i, i ≤ l.length → bitsOK (mxTo S n len1 i) = true := fun i hi => bits_of_at (by rw [mxTo_len, hSl]; exact hnl) (fun k hk => by
      rw [mxTo_len] at hk
      exact mxTo_bits (by omega) hSl (bitAt hSb) i hi k hk)
    have hXb : bitsOK X = true := by rw [hX]; exact hMB _ (Nat.le_refl _)
    have d1 : major S (n : Int) = some l := by rw [major_yes hSb ho hSl (by omega), hS, maj_rep hno (bitAt hbl)]
    have d2 : major X (n : Int) = some l := by rw [major_yes hXb ho (by rw [hXl, hL, hSl]) (by omega), hX, hS, maj_mx hno (bitAt hbl)]
    have HI : Hid (∀ u : World, Calls Try.prog 50 #[.string (str l), .int .i64 (n : Int)] u fun e w' => e = .returned (.tuple #[.string (str S), .bool true]) ∧ Below u.heap.size u w') := fun u => by
      have hh := repI_any (str l) n u hm
      rw [str_list, hE] at hh
      exact hh
    have HS : Hid (∀ u : World, Calls Try.prog 51 #[.string (str l), .int .i64 (n : Int)] u fun e w' => e = .returned (.tuple #[.string (str S), .bool true]) ∧ u = w') := fun u => by
      have hh := repS_any (str l) n u hm
      rw [str_list, hE] at hh
      exact hh
    have D1 : Hid (∀ u : World, Calls Try.prog 52 #[.string (str S), .int .i64 (n : Int)] u fun e w' => e = .returned (.tuple #[.string (str l), .bool true]) ∧ Below u.heap.size u w') := fun u => by
      have hh := majI_any S n u (by omega)
      rw [d1] at hh
      exact hh
    have D2 : Hid (∀ u : World, Calls Try.prog 52 #[.string (str X), .int .i64 (n : Int)] u fun e w' => e = .returned (.tuple #[.string (str l), .bool true]) ∧ Below u.heap.size u w') := fun u => by
      have hh := majI_any X n u (by omega)
      rw [d2] at hh
      exact hh
    have HXN := Lib.hid hX
    have HFL : Hid (∀ i j, i < l.length → ∀ u : World, Calls Try.prog 24 #[.string (str (mxIn (mxTo S n len1 i) n len1 i j)), .int .i64 ((i * n + (j * 2 + len1 + i) % n : Nat) : Int)] u fun e w' => e = .returned (.string (str (mxIn (mxTo S n len1 i) n len1 i (j + 1)))) ∧ Below u.heap.size u w') := Lib.hid fun i j hi u => by
      have hlt : i * n + (j * 2 + len1 + i) % n < L := by rw [hL, hSl]; exact grp_lt hi (Nat.mod_lt _ (by omega))
      have hlen : (mxIn (mxTo S n len1 i) n len1 i j).length = L := by rw [mxIn_len, mxTo_len, hL]
      exact ssFlip_any _ _ u (by omega) (by omega) (mxIn_bits (by omega) hi (by rw [mxTo_len, hSl]) (bitAt (hMB i (by omega))) j _ (by rw [mxTo_len, ← hL]; exact hlt))
    have hfin : (n : Int) * (l.length : Int) = (L : Int) := by rw [hL, hSl, Int.natCast_mul, Int.mul_comm]
    rw [← hL] at zS
    have hL6 : L ≤ 600 := by omega
    have hh2 : (n : Int) / 2 = ((n / 2 : Nat) : Int) := by omega
    have hh3 : n / 2 ≤ 4 := by omega
    obtain ⟨h, hh⟩ : ∃ h, h = n / 2 := ⟨_, rfl⟩
    rw [← hh] at hh2 hh3
    have HMS : Hid (∀ i, mxTo S n len1 (i + 1) = mxIn (mxTo S n len1 i) n len1 i h) := Lib.hid fun i => by rw [hh]; rfl
    clear hE d1 d2 hX hS hSb hXb hbl hMB hL hSl hh ho hXl hnl
    go_wp2_with fail
    refine (HI.out _).mono ?_
    rintro e w2 ⟨rfl, k⟩
    replace hb := below_next hb k
    clear k
    (try clear hc hf)
    obtain ⟨hc, hf⟩ := bcell hb
    go_wp2_with fail
    refine (HS.out _).mono ?_
    rintro e w' ⟨rfl, rfl⟩
    clear hc hf
    go_wp2
    go_loopw [11, 12, 13] (fun x i _ wr => ∃ k : Nat, i = .int .i64 (k : Int) ∧ x = .string (str (mxTo S n len1 k)) ∧ k ≤ l.length ∧ Below w.heap.size w wr) (fun _ i _ _ => l.length - (intOf i).toNat)
    case atStart => exact ⟨0, rfl, rfl, Nat.zero_le _, hb⟩
    case round =>
      clear hb
      obtain ⟨k, rfl, rfl, hk, hb⟩ := hrel
      obtain ⟨w9, rfl⟩ : ∃ w9 : World, w9 = wr := ⟨_, rfl⟩
      by_cases hlt : k < l.length
      · obtain ⟨kn, hkn, hkn6, hknn⟩ : ∃ kn : Nat, (k : Int) * (n : Int) = (kn : Int) ∧ kn ≤ 6000 ∧ kn = k * n := ⟨k * n, by simp, by
          have : k * n ≤ 600 * 9 := Nat.mul_le_mul (by omega) (by omega)
          omega, rfl⟩
        have HKN := Lib.hid hknn
        clear hknn
        go_wp2
        go_loopw [11, 13] (fun x j wr => ∃ i : Nat, j = .int .i64 (i : Int) ∧ x = .string (str (mxIn (mxTo S n len1 k) n len1 k i)) ∧ i ≤ h ∧ Below w.heap.size w wr) (fun _ j _ => h - (intOf j).toNat)
        case atStart => exact ⟨0, rfl, rfl, Nat.zero_le _, hb⟩
        case round =>
          clear hb
          obtain ⟨i, rfl, rfl, hi, hb⟩ := hrel
          by_cases hlt2 : i < h
          · have hfl := HFL.out k i hlt
            obtain ⟨q, hq, hq2⟩ : ∃ q : Nat, q = (i * 2 + len1 + k) % n ∧ q < n := ⟨_, rfl, Nat.mod_lt _ (by omega)⟩
            have hqe : ((i : Int) * 2 + (len1 : Int) + (k : Int)) % (n : Int) = (q : Int) := by rw [hq]; simp
            obtain ⟨p, hp⟩ : ∃ p, p = kn + q := ⟨_, rfl⟩
            have hpe : (kn : Int) + (q : Int) = (p : Int) := by omega
            rw [← hq, ← HKN.out, ← hp] at hfl
            obtain ⟨Y1, hY1⟩ : ∃ Y1, Y1 = mxIn (mxTo S n len1 k) n len1 k (i + 1) := ⟨_, rfl⟩
            have HY1 := Lib.hid hY1
            rw [← hY1] at hfl
            clear hY1
            generalize mxIn (mxTo S n len1 k) n len1 k i = Y at *
            have HFL2 := Lib.hid hfl
            clear hfl hq hp
            go_wp2_with fail
            refine (HFL2.out _).mono ?_
            rintro e w5 ⟨rfl, k⟩
            replace hb := below_next hb k
            clear k
            (try clear hc hf)
            obtain ⟨hc, hf⟩ := bcell hb
            go_wp2
            go_roundw
            case rel => exact ⟨i + 1, by go_num, by rw [HY1.out], by omega, hb⟩
            case measure => simp [intOf]; omega
          · obtain rfl : i = h := by omega
            rw [← HMS.out k]
            go_wp2
            go_roundw
            case rel => exact ⟨k + 1, by go_num, rfl, by omega, hb⟩
            case measure => simp [intOf]; omega
      · obtain rfl : k = l.length := by omega
        have hXe := HXN.out
        rw [← hXe]
        clear hXe
        go_wp2_with fail
        refine (D1.out _).mono ?_
        rintro e w5 ⟨rfl, k⟩
        replace hb := below_next hb k
        clear k
        (try clear hc hf)
        obtain ⟨hc, hf⟩ := bcell hb
        go_wp2_with fail
        refine (D2.out _).mono ?_
        rintro e w6 ⟨rfl, k⟩
        replace hb := below_next hb k
        clear k
        (try clear hc hf)
        obtain ⟨hc, hf⟩ := bcell hb
        go_wp2
        go_ret
        exact ⟨rfl, hb⟩
end Go.Proofs.Ytmfblphnedoejaa.fnMajority
