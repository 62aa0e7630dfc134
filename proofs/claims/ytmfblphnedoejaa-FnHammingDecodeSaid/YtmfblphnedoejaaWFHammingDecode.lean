/- The walk of the law FnHammingDecode: the protected form of decoded bits differs from the received ones in as many bits as were corrected. -/
import Derived.Test.YtmfblphnedoejaaWk
import Derived.Test.YtmfblphnedoejaaPHam
import Derived.Test.YtmfblphnedoejaaDraw6
namespace Go.Proofs.Ytmfblphnedoejaa.fnHammingDecode
set_option maxRecDepth 20000
open Go.ChangeShapes Go.WideShapes Go.ChangeAt Go.RowKit
set_option linter.unusedVariables false
set_option linter.unusedSimpArgs false

theorem dec_ok {l : List UInt8} (h : bitsOK l = true) {N : Nat} (hN : l.length = 7 * N) : bitsOK (hdecTo l N) = true := by
  have h6 := bits_le h
  refine bits_of_at (by rw [hdecTo_len]; omega) (fun t ht => ?_)
  rw [hdecTo_len] at ht
  have e : t = 4 * (t / 4) + t % 4 := by omega
  have h4 : t % 4 < 4 := Nat.mod_lt _ (by omega)
  rw [e, hdec_at l h4 N (by omega)]
  have hc : ∀ j, j < 7 → bit ((cutL l (7 * (t / 4)) 7).getD j 0) := fun j hj => by rw [cutL_getD hj]; exact bitAt h _ (by omega)
  have hl7 : (cutL l (7 * (t / 4)) 7).length = 7 := cutL_len (by omega)
  generalize cutL l (7 * (t / 4)) 7 = b at *
  have hf : ∀ j, j < 7 → bit ((hfix b).getD j 0) := fun j hj => by
    unfold hfix
    split
    · exact hc j hj
    · have := syn7_lt b
      rw [flipD _ _ _ (by omega)]
      split
      · exact inv1_bit (hc j hj)
      · exact hc j hj
  rcases (show t % 4 = 0 ∨ t % 4 = 1 ∨ t % 4 = 2 ∨ t % 4 = 3 by omega) with e | e | e | e <;> rw [e]
  · exact hf 2 (by omega)
  · exact hf 4 (by omega)
  · exact hf 5 (by omega)
  · exact hf 6 (by omega)

set_option maxHeartbeats 4000000 in
theorem walk (a0 : Option Addr) (len0 cap0 : Nat) (z0 : List Int) (w : World) (hw0 : IsRow .u8 w a0 len0 cap0 z0) :
    Calls Try.prog 12 #[.slice a0 len0 cap0] w fun e w' => e = .returned (.bool true) ∧ Below w.heap.size w w' := by
  by_cases hlen : len0 ≤ 1048576
  rotate_left
  · go_enter Try.func12, Try.ntmps12
    go_wp2
    go_ret
    exact ⟨rfl, Below.refl _ _⟩
  go_enter Try.func12, Try.ntmps12
  go_wp2_with fail
  refine (drawHamD_any _ _ _ _ _ hw0).mono ?_
  rintro e w1 ⟨l, rfl, hl, hb⟩
  clear hw0
  have zl := str_size l
  have hm : (str l).size ≤ maxLen := by unfold maxLen; omega
  cases hE : hamDec l with
  | none =>
    have HI : Hid (∀ u : World, Calls Try.prog 37 #[.string (str l)] u fun e w' => e = .returned (.tuple #[.string ⟨#[]⟩, .int .i64 0, .bool false]) ∧ Below u.heap.size u w') := fun u => by
      have hh := hamDecI_any (str l) u hm
      rw [str_list, hE] at hh
      exact hh
    have HS : Hid (∀ u : World, Calls Try.prog 48 #[.string (str l)] u fun e w' => e = .returned (.tuple #[.string ⟨#[]⟩, .int .i64 0, .bool false]) ∧ Below u.heap.size u w') := fun u => by
      have hh := hamDecS_any (str l) u hm
      rw [str_list, hE] at hh
      exact hh
    clear hE
    go_wp2_with fail
    refine (HI.out _).mono ?_
    rintro e w2 ⟨rfl, k⟩
    replace hb := below_next hb k
    clear k
    (try clear hc hf)
    obtain ⟨hc, hf⟩ := bcell hb
    go_wp2_with fail
    refine (HS.out _).mono ?_
    rintro e w3 ⟨rfl, k⟩
    replace hb := below_next hb k
    clear k
    (try clear hc hf)
    obtain ⟨hc, hf⟩ := bcell hb
    go_wp2
    go_ret
    exact ⟨rfl, hb⟩
  | some ED =>
    obtain ⟨D, n⟩ := ED
    obtain ⟨N, hbl, hN, hD, hn⟩ : ∃ N, bitsOK l = true ∧ l.length = 7 * N ∧ D = hdecTo l N ∧ n = hcntTo l N := by
      unfold hamDec at hE
      split at hE
      · rename_i h
        simp only [Bool.and_eq_true, decide_eq_true_eq] at h
        have := Option.some.inj hE
        simp only [Prod.mk.injEq] at this
        exact ⟨l.length / 7, h.1, by omega, this.1.symm, this.2.symm⟩
      · cases hE
    have hl6 := bits_le hbl
    have hDl : D.length = 4 * N := by rw [hD, hdecTo_len]
    have hDb := dec_ok hbl hN
    rw [← hD] at hDb
    have zD := str_size D
    have hmD : (str D).size ≤ maxLen := by unfold maxLen; omega
    have hEn : hamEnc D = some (hamTo D N) := by
      unfold hamEnc
      rw [hDb, hDl, decide_eq_true (show 4 * N % 4 = 0 by omega), decide_eq_true (show 4 * N / 4 * 7 ≤ 600 by omega), show 4 * N / 4 = N by omega]
      rfl
    have hnear := near_all hN (bitAt hbl) N (Nat.le_refl _)
    rw [← hD, ← hn] at hnear
    obtain ⟨B, hBe⟩ : ∃ B, B = hamTo D N := ⟨_, rfl⟩
    have hBl : B.length = l.length := by rw [hBe, hamTo_len, hN]
    rw [← hBe] at hEn hnear
    have zB := str_size B
    rw [hBl] at zB
    have HI : Hid (∀ u : World, Calls Try.prog 37 #[.string (str l)] u fun e w' => e = .returned (.tuple #[.string (str D), .int .i64 (n : Int), .bool true]) ∧ Below u.heap.size u w') := fun u => by
      have hh := hamDecI_any (str l) u hm
      rw [str_list, hE] at hh
      exact hh
    have HS : Hid (∀ u : World, Calls Try.prog 48 #[.string (str l)] u fun e w' => e = .returned (.tuple #[.string (str D), .int .i64 (n : Int), .bool true]) ∧ Below u.heap.size u w') := fun u => by
      have hh := hamDecS_any (str l) u hm
      rw [str_list, hE] at hh
      exact hh
    have HB : Hid (∀ u : World, Calls Try.prog 35 #[.string (str D)] u fun e w' => e = .returned (.tuple #[.string (str B), .bool true]) ∧ Below u.heap.size u w') := fun u => by
      have hh := hamEncI_any (str D) u hmD
      rw [str_list, hEn] at hh
      exact hh
    have HNEAR := Lib.hid hnear
    have HNL := Lib.hid hN
    clear hE hEn hnear hD hn hBe hDb hbl hDl hN
    go_wp2_with fail
    refine (HI.out _).mono ?_
    rintro e w2 ⟨rfl, k⟩
    replace hb := below_next hb k
    clear k
    (try clear hc hf)
    obtain ⟨hc, hf⟩ := bcell hb
    go_wp2_with fail
    refine (HS.out _).mono ?_
    rintro e w3 ⟨rfl, k⟩
    replace hb := below_next hb k
    clear k
    (try clear hc hf)
    obtain ⟨hc, hf⟩ := bcell hb
    go_wp2_with fail
    refine (HB.out _).mono ?_
    rintro e w4 ⟨rfl, k⟩
    replace hb := below_next hb k
    clear k
    (try clear hc hf)
    obtain ⟨hc, hf⟩ := bcell hb
    clear hc hf
    go_wp2
    go_loopw [12, 13] (fun x i wr => ∃ k : Nat, i = .int .i64 (k : Int) ∧ x = .int .i64 (nErr B l k : Int) ∧ k ≤ l.length ∧ Below w.heap.size w wr) (fun _ i _ => l.length - (intOf i).toNat)
    case atStart => exact ⟨0, rfl, rfl, Nat.zero_le _, hb⟩
    case round =>
      clear hb
      obtain ⟨k, rfl, rfl, hk, hb⟩ := hrel
      have hne := nErr_le B l k
      by_cases hlt : k < l.length
      · have g1 := str_get B k (by omega)
        have g2 := str_get l k (by omega)
        have HX : Hid (nErr B l (k + 1) = nErr B l k + if B.getD k 0 = l.getD k 0 then 0 else 1) := Lib.hid rfl
        generalize B.getD k 0 = c at g1 HX
        generalize l.getD k 0 = d at g2 HX
        generalize nErr B l k = x at hne HX ⊢
        by_cases h0 : c = d
        · subst h0
          have HX2 : Hid (nErr B l (k + 1) = x) := Lib.hid (by rw [HX.out, if_pos rfl]; rfl)
          clear HX
          go_wp2
          refine wp_region_still_lit (by kernel_rfl) (by kernel_rfl) ?_
          repeat (refine wpStill_step (fun K hK => ?_); (try go_simp); (try simp only [IntWalk.iteOmega]); (try go_ints); (try simp (disch := omega) only [dif_pos]); (try go_simp); refine hK _ ?_; clear hK K)
          refine wpStill_nil ?_
          go_wp2
          go_roundw
          case rel => exact ⟨k + 1, by go_num, by rw [HX2.out], by omega, hb.drew⟩
          case measure => simp [intOf]; omega
        · have HX2 : Hid (nErr B l (k + 1) = x + 1) := Lib.hid (by rw [HX.out, if_neg h0])
          have hn0 : ((c.toNat : Int) != (d.toNat : Int)) = true := by
            simp only [bne_iff_ne, ne_eq]
            intro e
            exact h0 (UInt8.toNat_inj.mp (by omega))
          clear HX
          go_wp2
          refine wp_region_still_lit (by kernel_rfl) (by kernel_rfl) ?_
          repeat (refine wpStill_step (fun K hK => ?_); (try go_simp); (try simp only [IntWalk.iteOmega]); (try go_ints); (try simp (disch := omega) only [dif_pos]); (try go_simp); refine hK _ ?_; clear hK K)
          refine wpStill_nil ?_
          go_wp2
          go_roundw
          case rel => exact ⟨k + 1, by go_num, by rw [HX2.out]; go_num, by omega, hb.drew⟩
          case measure => simp [intOf]; omega
      · obtain rfl : k = l.length := by omega
        have e1 : nErr B l l.length = n := by rw [HNL.out]; exact HNEAR.out
        rw [e1]
        go_wp2
        go_ret
        exact ⟨rfl, hb⟩
end Go.Proofs.Ytmfblphnedoejaa.fnHammingDecode
