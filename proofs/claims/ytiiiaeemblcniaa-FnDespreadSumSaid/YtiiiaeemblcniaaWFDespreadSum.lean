/- The walk of the law FnDespreadSum: the correlations of the sum of two signals with a code are the sums of both, and those with the inverted code their opposites. -/
import Derived.Test.YtiiiaeemblcniaaDrawHe
import Derived.Test.YtiiiaeemblcniaaInv
import Derived.Test.YtiiiaeemblcniaaSsI
import Derived.Deep.QuietTactic
import Derived.BigQuiet
namespace Go.Proofs.Ytiiiaeemblcniaa.fnDespreadSum
set_option maxRecDepth 20000
open Go.ChangeShapes Go.WideShapes Go.ChangeAt Go.RowKit
set_option linter.unusedVariables false
set_option linter.unusedSimpArgs false

theorem reads_up4 {w u : World} {A : Option Addr} {z : List Int} (h : Reads w w.heap.size A z) (hu : Below w.heap.size w u) : Reads u u.heap.size A z := (h.below hu (Nat.le_refl _)).more hu.size
theorem sl_up4 {w u : World} {lo : Nat} {v : Value} {z : List Int} (h : Sl w lo w.heap.size v z) (hu : Below w.heap.size w u) : Sl u lo u.heap.size v z := (h.below hu (Nat.le_refl _)).up hu.size
theorem at4 {w u : World} {lo hi n c k : Nat} {A : Option Addr} {l : List Int} (h : Sl w lo hi (.slice A n c) l) (e : u.heap = w.heap) (hk : k < l.length) : ∃ ad, A = some ad ∧ u.cell? (ad.add k) = some (.int .i64 (l.getD k 0)) := by
  obtain ⟨A', c', e', hr, _⟩ := h.reads
  simp only [Value.slice.injEq] at e'
  obtain ⟨rfl, rfl, rfl⟩ := e'
  obtain ⟨ad, h1, _, h2⟩ := hr.at_ hk
  exact ⟨ad, h1, by rw [← h2]; simp only [World.cell?, e]⟩

set_option maxHeartbeats 16000000 in
theorem walk (a0 : Option Addr) (len0 cap0 : Nat) (z0 : List Int) (a1 : Option Addr) (len1 cap1 : Nat) (z1 : List Int) (w : World) (hw0 : IsRow .u8 w a0 len0 cap0 z0) (hw1 : IsRow .u8 w a1 len1 cap1 z1) :
    Calls Try.prog 7 #[.slice a0 len0 cap0, .slice a1 len1 cap1] w fun e w' => e = .returned (.bool true) ∧ Below w.heap.size w w' := by
  by_cases hlen : len0 ≤ 1048576
  rotate_left
  · go_enter Try.func7, Try.ntmps7
    go_wp2
    go_ret
    exact ⟨rfl, Below.refl _ _⟩
  by_cases hlen1 : len1 ≤ 1048576
  rotate_left
  · go_enter Try.func7, Try.ntmps7
    go_wp2
    go_ret
    exact ⟨rfl, Below.refl _ _⟩
  have HW1 := Lib.hid hw1
  clear hw1
  go_enter Try.func7, Try.ntmps7
  go_wp2_with fail
  refine (drawDes_any _ _ _ _ _ hw0).mono ?_
  rintro e w1 ⟨v, z, l, n, rfl, ⟨hsl, hzl⟩, ⟨hl, hn⟩, hb1⟩
  clear hw0
  obtain ⟨A, c, rfl, hr, hzc⟩ := hsl.reads
  have zl := str_size l
  have hm : (str l).size ≤ maxLen := by unfold maxLen; omega
  have hz6 : z.length ≤ 1048576 := by omega
  have HR := Lib.hid hr
  have HSI : Hid (∀ u : World, Below w1.heap.size w1 u → Calls Try.prog 11 #[.slice A z.length c, .string (str l), .int .i64 n] u (RetLB (dsL z (str l) n) (lsOK z (str l) 0 n) u)) := fun u hu => desI_any A c z (str l) n u (reads_up4 hr hu) hz6 hm
  have HSS : Hid (∀ u : World, Below w1.heap.size w1 u → Calls Try.prog 26 #[.slice A z.length c, .string (str l), .int .i64 n] u (RetLB (dsL z (str l) n) (lsOK z (str l) 0 n) u)) := fun u hu => desS_any A c z (str l) n u (reads_up4 hr hu) hz6 hm
  have HB1 := Lib.hid hb1
  have hs1 := hb1.size
  have HROW : Hid (IsRow .u8 w1 a1 len1 cap1 z1) := Lib.hid (IsRow.below4 HW1.out hb1)
  clear hsl hr hb1
  obtain ⟨L, hL⟩ : ∃ L, L = dsL z (str l) n := ⟨_, rfl⟩
  obtain ⟨ok, hok⟩ : ∃ ok, ok = lsOK z (str l) 0 n := ⟨_, rfl⟩
  rw [← hL, ← hok] at HSI HSS
  have hLl : L.length ≤ 1048576 := by
    rw [hL]; unfold dsL; split
    · rename_i h; obtain ⟨_, _, _, N, _, e2, _, hN⟩ := ls_parts h; rw [dots_len, e2]; simp; omega
    · simp
  have HOK := Lib.hid hok
  have HLD := Lib.hid hL
  clear hok hL
  go_wp2_with fail
  refine (HSI.out _ (Below.refl _ _)).mono ?_
  rintro e w2 ⟨v2, rfl, hs2, k2⟩
  have HS2 := Lib.hid (hs2)
  have HB2 := Lib.hid k2
  have HSS2 := Lib.hid (HSS.out w2 k2)
  have hsz2 := k2.size
  clear hs2 k2 HSI HSS
  go_wp2_with fail
  refine HSS2.out.mono ?_
  rintro e w3 ⟨v3, rfl, hs3, k3⟩
  have HS3 := Lib.hid hs3
  have HL3 := Lib.hid (sl_up4 HS2.out k3)
  have hb3 := HB2.out.trans (k3.mono hsz2)
  have HB3 := Lib.hid hb3
  have hsz3 := hb3.size
  have HAD := Lib.hid (drawAdd_any a1 len1 cap1 z1 w3 (IsRow.below4 HROW.out hb3))
  clear hs3 k3 hb3 HS2 HB2 HSS2
  go_wp2_with fail
  refine HAD.out.mono ?_
  rintro e w4 ⟨v4, y, v5, y5, rfl, ⟨hs4, hy4⟩, _, k4⟩
  have HL4 := Lib.hid (sl_up4 HL3.out k4)
  have HW4 := Lib.hid (sl_up4 HS3.out k4)
  have hb4 := HB3.out.trans (k4.mono hsz3)
  have HB4 := Lib.hid hb4
  have HY4 := Lib.hid hs4
  have hsz4 := hb4.size
  have HSSI : Hid (∀ u : World, Below w4.heap.size w4 u → Calls Try.prog 23 #[v2, v3] u fun e w' => e = .returned (.bool true) ∧ Below u.heap.size u w') := Lib.hid fun u hu => ssIntsS_any (sl_up4 HL4.out hu) (sl_up4 HW4.out hu) (Nat.le_refl _) (Nat.le_refl _) hLl
  clear hs4 k4 hb4 HL3 HS3 HB3 HAD HW4
  go_wp2_with fail
  refine (HSSI.out _ (Below.refl _ _)).mono ?_
  rintro e w5 ⟨rfl, k5⟩
  cases ok with
  | false =>
    go_wp2_with fail
    refine (HSSI.out _ k5).mono ?_
    rintro e w6 ⟨rfl, k6⟩
    go_wp2
    go_ret
    exact ⟨rfl, HB1.out.trans ((HB4.out.trans ((k5.trans (k6.mono k5.size)).mono hsz4)).mono hs1)⟩
  | true =>
    have hls := HOK.out.symm
    have hL := HLD.out
    obtain ⟨hz, hq, _, N, h00, rfl, _, hN⟩ := ls_parts hls
    clear h00
    rw [dsL_yes hls] at hL
    have HL5 := Lib.hid (sl_up4 HL4.out k5)
    have HY5 := Lib.hid (sl_up4 HY4.out k5)
    have hb5 := HB4.out.trans (k5.mono hsz4)
    have HB5 := Lib.hid hb5
    have hsz5 := hb5.size
    obtain ⟨A4, c4, rfl, hr4, _⟩ := HY5.out.reads
    have HADD := Lib.hid (addI_any A A4 c c4 z y w5 (reads_up4 HR.out hb5) hr4 hz6 (by omega))
    have hzn : sigOK z = true := hz
    have hq' := hq
    rw [str_list] at hq
    have hbits : ∀ j, j < l.length → bit (l.getD j 0) := fun j hj => bits_at4 (seq_bits hq) hj
    obtain ⟨q1, q2, _⟩ := seq_parts hq'
    have HINV : Hid (∀ u : World, Calls Try.prog 29 #[.string (str l)] u fun e w' => e = .returned (.tuple #[.string (str (invL l)), .bool true]) ∧ Below u.heap.size u w') := Lib.hid fun u => invBits_yes l u hq
    have HQ := Lib.hid hq
    have HQ2 := Lib.hid hq'
    have HZ := Lib.hid hz
    have HLE := Lib.hid hL
    have HBT := Lib.hid hbits
    clear HL4 HY4 HB4 HSSI k5 hb5 hr4 hls HOK HLD hz hq hq' hL hzn hbits
    cases hadd : asOK z y with
    | false =>
      rw [hadd] at HADD
      go_wp2_with fail
      refine HADD.out.mono ?_
      rintro e w6 ⟨v6, rfl, hs6, k6⟩
      go_wp2
      go_ret
      exact ⟨rfl, HB1.out.trans ((HB5.out.trans (k6.mono hsz5)).mono hs1)⟩
    | true =>
      rw [hadd, asL_yes hadd] at HADD
      have has := as_sig hadd
      have hys : sigOK y = true := by
        unfold asOK at hadd
        simp only [Bool.and_eq_true] at hadd
        exact hadd.1.2
      have hal := sig_len has
      have hyl := sig_len hys
      have HAS := Lib.hid has
      have HYS := Lib.hid hys
      clear hadd has hys
      have HD1 : Hid (∀ (A' : Option Addr) (c' : Nat) (q : List Int) (u : World), sigOK q = true → Reads u u.heap.size A' q → Calls Try.prog 11 #[.slice A' q.length c', .string (str l), .int .i64 (N : Int)] u (RetLB (dots q l 0 N) true u)) := Lib.hid fun A' c' q u hqs hr => by
        have hql := sig_len hqs
        have h := desI_any A' c' q (str l) (N : Int) u hr (by omega) hm
        have e : lsOK q (str l) 0 (N : Int) = true := by
          unfold lsOK
          rw [hqs, HQ2.out, inB_yes (Int.le_refl 0) (by omega), inB_yes (by omega) (by omega)]; rfl
        rw [dsL_yes e, e, str_list] at h
        exact h
      have HD2 : Hid (∀ (u : World), Reads u u.heap.size A z → Calls Try.prog 11 #[.slice A z.length c, .string (str (invL l)), .int .i64 (N : Int)] u (RetLB (dots z (invL l) 0 N) true u)) := Lib.hid fun u hr => by
        have h := desI_any A c z (str (invL l)) (N : Int) u hr hz6 (by rw [str_size, invL_len]; unfold maxLen; omega)
        have e : lsOK z (str (invL l)) 0 (N : Int) = true := by
          unfold lsOK
          rw [HZ.out, str_list, invL_seq HQ.out, inB_yes (Int.le_refl 0) (by omega), inB_yes (by omega) (by omega)]; rfl
        rw [dsL_yes e, e, str_list] at h
        exact h
      have HV1 : Hid (∀ j, j < N → L.getD j 0 = dot z l (0 + j * l.length)) := Lib.hid fun j hj => by rw [HLE.out, str_list, dots_at _ _ _ _ hj]
      have HV2 : Hid (∀ j, j < N → (dots y l 0 N).getD j 0 = dot y l (0 + j * l.length)) := Lib.hid fun j hj => dots_at _ _ _ _ hj
      have HV3 : Hid (∀ j, j < N → (dots (adL z y) l 0 N).getD j 0 = dot z l (0 + j * l.length) + dot y l (0 + j * l.length)) := Lib.hid fun j hj => by rw [dots_at _ _ _ _ hj, dot_ad]
      have HV4 : Hid (∀ j, j < N → (dots z (invL l) 0 N).getD j 0 = -dot z l (0 + j * l.length)) := Lib.hid fun j hj => by rw [dots_at _ _ _ _ hj, dot_inv z HBT.out, invL_len]
      have HW1 : Hid (∀ fr, -255000000 ≤ dot z l fr ∧ dot z l fr ≤ 255000000) := Lib.hid fun fr => dot_le HZ.out fr (by rw [← zl]; exact q2)
      have HW2 : Hid (∀ fr, -255000000 ≤ dot y l fr ∧ dot y l fr ≤ 255000000) := Lib.hid fun fr => dot_le HYS.out fr (by rw [← zl]; exact q2)
      have hL0 : Hid (L.length = N) := Lib.hid (by rw [HLE.out, dots_len])
      have hL1 : Hid ((dots y l 0 N).length = N) := Lib.hid (dots_len _ _ _ _)
      have hL2 : Hid ((dots (adL z y) l 0 N).length = N) := Lib.hid (dots_len _ _ _ _)
      have hL3 : Hid ((dots z (invL l) 0 N).length = N) := Lib.hid (dots_len _ _ _ _)
      have HC1 : Hid (∀ u, Below w5.heap.size w5 u → Calls Try.prog 11 #[.slice A4 y.length c4, .string (str l), .int .i64 (N : Int)] u (RetLB (dots y l 0 N) true u)) := Lib.hid fun u hu => by
        obtain ⟨A', c', e', hr', _⟩ := HY5.out.reads
        simp only [Value.slice.injEq] at e'
        obtain ⟨rfl, _, rfl⟩ := e'
        exact HD1.out _ _ y u HYS.out (reads_up4 hr' hu)
      have HC3 : Hid (∀ u, Below w5.heap.size w5 u → Calls Try.prog 11 #[.slice A z.length c, .string (str (invL l)), .int .i64 (N : Int)] u (RetLB (dots z (invL l) 0 N) true u)) := Lib.hid fun u hu => HD2.out u (reads_up4 HR.out (HB5.out.trans (hu.mono hsz5)))
      obtain ⟨T, hT⟩ : ∃ T, T = adL z y := ⟨_, rfl⟩
      rw [← hT] at HADD HAS HV3 hL2 hal
      obtain ⟨D1, hD1⟩ : ∃ D1, D1 = dots y l 0 N := ⟨_, rfl⟩
      obtain ⟨D2, hD2⟩ : ∃ D2, D2 = dots T l 0 N := ⟨_, rfl⟩
      obtain ⟨D3, hD3⟩ : ∃ D3, D3 = dots z (invL l) 0 N := ⟨_, rfl⟩
      have HC2 : Hid (∀ (A' : Option Addr) (c' : Nat) (u : World), Reads u u.heap.size A' T → Calls Try.prog 11 #[.slice A' T.length c', .string (str l), .int .i64 (N : Int)] u (RetLB D2 true u)) := Lib.hid fun A' c' u hr => by rw [hD2]; exact HD1.out A' c' T u HAS.out hr
      rw [← hD1] at HV2 hL1 HC1
      rw [← hD2] at HV3 hL2
      rw [← hD3] at HV4 hL3 HC3
      clear hT hD1 hD2 hD3 HD1 HD2 HAS HLE HBT
      go_wp2_with fail
      refine HADD.out.mono ?_
      rintro e w6 ⟨v6, rfl, hs6, k6⟩
      have HL6 := Lib.hid (sl_up4 HL5.out k6)
      obtain ⟨A6, c6, rfl, hr6, _⟩ := hs6.reads
      have hR6 := Lib.hid hr6
      have HB6 := Lib.hid k6
      have hsz6 := k6.size
      clear hs6 hr6 k6 HADD HL5
      by_cases hN50 : 50 < N
      · go_wp2
        go_ret
        exact ⟨rfl, HB1.out.trans ((HB5.out.trans (HB6.out.mono hsz5)).mono hs1)⟩
      have hC1 := Lib.hid (HC1.out _ HB6.out)
      go_wp2_with fail
      refine hC1.out.mono ?_
      rintro e w7 ⟨v7, rfl, hs7, k7⟩
      have HL7 := Lib.hid (sl_up4 HL6.out k7)
      have HP7 := Lib.hid hs7
      have hb7 := HB6.out.trans (k7.mono hsz6)
      have hC2 := Lib.hid (HC2.out A6 c6 w7 (reads_up4 hR6.out k7))
      have HB7 := Lib.hid hb7
      have hsz7 := hb7.size
      clear hs7 k7 hb7 HL6 hR6 hC1 HC1 HC2
      go_wp2_with fail
      refine hC2.out.mono ?_
      rintro e w8 ⟨v8, rfl, hs8, k8⟩
      have HL8 := Lib.hid (sl_up4 HL7.out k8)
      have HP8 := Lib.hid (sl_up4 HP7.out k8)
      have HQ8 := Lib.hid hs8
      have hb8 := HB7.out.trans (k8.mono hsz7)
      have HB8 := Lib.hid hb8
      have hsz8 := hb8.size
      clear hs8 k8 hb8 HL7 HP7 hC2
      go_wp2_with fail
      refine (HINV.out _).mono ?_
      rintro e w9 ⟨rfl, k9⟩
      have HL9 := Lib.hid (sl_up4 HL8.out k9)
      have HP9 := Lib.hid (sl_up4 HP8.out k9)
      have HQ9 := Lib.hid (sl_up4 HQ8.out k9)
      have hb9 := HB8.out.trans (k9.mono hsz8)
      have hC3 := Lib.hid (HC3.out _ hb9)
      have HB9 := Lib.hid hb9
      have hsz9 := hb9.size
      clear k9 hb9 HL8 HP8 HQ8 HC3
      go_wp2_with fail
      refine hC3.out.mono ?_
      rintro e w10 ⟨v10, rfl, hs10, k10⟩
      have HL := Lib.hid (sl_up4 HL9.out k10)
      have HP := Lib.hid (sl_up4 HP9.out k10)
      have HQQ := Lib.hid (sl_up4 HQ9.out k10)
      have HS := Lib.hid hs10
      have hb10 := HB9.out.trans (k10.mono hsz9)
      have HBF := Lib.hid (HB1.out.trans ((HB5.out.trans (hb10.mono hsz5)).mono hs1))
      clear hs10 k10 hb10 HL9 HP9 HQ9 hC3
      obtain ⟨Aa, ca, rfl, _, _⟩ := HL.out.reads
      obtain ⟨Ab, cb, rfl, _, _⟩ := HP.out.reads
      obtain ⟨Ac, cc, rfl, _, _⟩ := HQQ.out.reads
      obtain ⟨Ad, cd, rfl, _, _⟩ := HS.out.reads
      have HF : Hid (Below w.heap.size w w10) := HBF
      rw [hL0.out, hL1.out, hL2.out, hL3.out]
      go_wp2
      go_loopw [24] (fun i wr => ∃ k : Nat, k ≤ N ∧ i = .int .i64 (k : Int) ∧ wr.heap = w10.heap ∧ Below w.heap.size w wr) (fun i _ => N - (intOf i).toNat)
      case atStart => exact ⟨0, Nat.zero_le _, rfl, rfl, HBF.out⟩
      case round =>
        obtain ⟨k, hk, rfl, hh, hb⟩ := hrel
        have HH := Lib.hid hh
        have HB := Lib.hid hb
        clear hh hb
        by_cases hlt : k < N
        · obtain ⟨p0, rfl, c0⟩ := at4 HL.out HH.out (k := k) (by rw [hL0.out]; exact hlt)
          obtain ⟨p1, rfl, c1⟩ := at4 HP.out HH.out (k := k) (by rw [hL1.out]; exact hlt)
          obtain ⟨p2, rfl, c2⟩ := at4 HQQ.out HH.out (k := k) (by rw [hL2.out]; exact hlt)
          obtain ⟨p3, rfl, c3⟩ := at4 HS.out HH.out (k := k) (by rw [hL3.out]; exact hlt)
          rw [HV1.out k hlt] at c0
          rw [HV2.out k hlt] at c1
          rw [HV3.out k hlt] at c2
          rw [HV4.out k hlt] at c3
          have b0 := HW1.out (0 + k * l.length)
          have b1 := HW2.out (0 + k * l.length)
          obtain ⟨X, hX⟩ : ∃ X, X = dot z l (0 + k * l.length) := ⟨_, rfl⟩
          obtain ⟨Y, hY⟩ : ∃ Y, Y = dot y l (0 + k * l.length) := ⟨_, rfl⟩
          rw [← hX] at c0 c2 c3 b0
          rw [← hY] at c1 c2 b1
          clear hX hY
          go_wp2
          go_quiet (fail)
          go_wp2
          go_roundw
          case rel => exact ⟨k + 1, by omega, by go_num, HH.out, Below.drewN HB.out _⟩
          case measure => simp [intOf]; omega
        · obtain rfl : k = N := by omega
          go_wp2
          go_ret
          exact ⟨rfl, HB.out⟩
end Go.Proofs.Ytiiiaeemblcniaa.fnDespreadSum
