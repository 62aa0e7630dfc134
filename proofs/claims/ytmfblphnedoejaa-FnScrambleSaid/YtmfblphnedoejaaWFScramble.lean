/- The walk of the law FnScramble: scrambling again restores the bits, and scrambled zeros are the bits of the register. -/
import Derived.Test.YtmfblphnedoejaaWk
import Derived.Test.YtmfblphnedoejaaRun
import Derived.Test.YtmfblphnedoejaaDraw9
namespace Go.Proofs.Ytmfblphnedoejaa.fnScramble
set_option maxRecDepth 20000
open Go.ChangeShapes Go.WideShapes Go.ChangeAt Go.RowKit
set_option linter.unusedVariables false
set_option linter.unusedSimpArgs false

theorem sum_back {a b : List UInt8} (hl : b.length = a.length) (ha : ∀ k, k < a.length → bit (a.getD k 0)) (hb : ∀ k, k < a.length → bit (b.getD k 0)) : sumL (sumL a b) b = a := by
  apply ext_D
  · rw [sumL_len, sumL_len]
  · intro k hk
    rw [sumL_len, sumL_len] at hk
    rw [sumL_getD _ _ _ (by rw [sumL_len]; exact hk)]
    unfold sumAt
    rw [sumL_getD _ _ _ hk]
    unfold sumAt
    rcases ha k hk with e | e <;> rcases hb k hk with e' | e' <;> rw [e, e'] <;> decide
theorem sum_self {a b : List UInt8} (hl : b.length = a.length) (ha : ∀ k, k < a.length → bit (a.getD k 0)) (hb : ∀ k, k < a.length → bit (b.getD k 0)) : sumL (sumL a b) a = b := by
  apply ext_D
  · rw [sumL_len, sumL_len, hl]
  · intro k hk
    rw [sumL_len, sumL_len] at hk
    rw [sumL_getD _ _ _ (by rw [sumL_len]; exact hk)]
    unfold sumAt
    rw [sumL_getD _ _ _ hk]
    unfold sumAt
    rcases ha k hk with e | e <;> rcases hb k hk with e' | e' <;> rw [e, e'] <;> decide
theorem sum_zeros {n : Nat} {b : List UInt8} (hl : b.length = n) (hb : ∀ k, k < n → bit (b.getD k 0)) : sumL (List.replicate n 48) b = b := by
  apply ext_D
  · rw [sumL_len, List.length_replicate, hl]
  · intro k hk
    rw [sumL_len, List.length_replicate] at hk
    rw [sumL_getD _ _ _ (by rw [List.length_replicate]; exact hk)]
    unfold sumAt
    have e : (List.replicate n (48 : UInt8)).getD k 0 = 48 := by simp [List.getD_eq_getElem?_getD, hk]
    rw [e]
    rcases hb k hk with e' | e' <;> rw [e'] <;> decide
theorem tri_at {W u : World} {b : Nat} {z t s : Int} (h : Tri W b z t s) (hb : Below W.heap.size W u) : u.cell? ⟨b, 0, none⟩ = some (.int .i64 z) ∧ u.cell? ⟨b, 1, none⟩ = some (.int .i64 t) ∧ u.cell? ⟨b, 2, none⟩ = some (.int .i64 s) := by
  have := h.block (hb.block b h.2.2.2.2) hb.size
  exact ⟨this.1, this.2.1, this.2.2.1⟩
theorem relB {P : Program} {f : FuncId} {args : Array Value} {W0 u : World} {v : Value} (hu : Below W0.heap.size W0 u) (h : Calls P f args u fun e u' => e = .returned v ∧ Below u.heap.size u u') :
    Calls P f args u fun e u' => e = .returned v ∧ Below W0.heap.size W0 u' := h.mono fun e u' ⟨a, b⟩ => ⟨a, below_next hu b⟩

set_option maxHeartbeats 2000000 in
theorem ssRun_any (n T S P c : Nat) (w : World) (hP : P = 2 ^ n) (hn : 2 ≤ n) (h8 : n ≤ 8) (hT : T < P) (hS : S < P) (hc6 : c ≤ 600) (hr : regOK (n : Int) (T : Int) (S : Int) = true) :
    Calls Try.prog 46 #[.agg #[.int .i64 (n : Int), .int .i64 (T : Int), .int .i64 (S : Int)], .int .i64 (c : Int)] w fun e w' => e = .returned (.string (str (runL n T S c))) ∧ Below w.heap.size w w' := by
  have H := Lib.hid (fun u : World => runI_yes n T S P c u hP hn h8 hT hS hc6 hr)
  go_enter Try.func46, Try.ntmps46
  go_wp2_with fail
  refine (H.out _).mono ?_
  rintro e w1 ⟨rfl, k⟩
  go_wp2
  go_ret
  exact ⟨rfl, below_out k⟩

set_option maxHeartbeats 4000000 in
theorem walk (a0 : Option Addr) (len0 cap0 : Nat) (z0 : List Int) (w : World) (hw0 : IsRow .u8 w a0 len0 cap0 z0) :
    Calls Try.prog 11 #[.slice a0 len0 cap0] w fun e w' => e = .returned (.bool true) ∧ Below w.heap.size w w' := by
  by_cases hlen : len0 ≤ 1048576
  rotate_left
  · go_enter Try.func11, Try.ntmps11
    go_wp2
    go_ret
    exact ⟨rfl, Below.refl _ _⟩
  go_enter Try.func11, Try.ntmps11
  go_wp2_with fail
  refine (drawScram_any _ _ _ _ _ hw0).mono ?_
  rintro e w1 ⟨l, z, t, s, rfl, hl, hb1⟩
  clear hw0
  have zl := str_size l
  obtain ⟨W, hW⟩ : ∃ W, W = w1.alloc (.cells #[.int .i64 z, .int .i64 t, .int .i64 s] 40) := ⟨_, rfl⟩
  have hTri : Tri W w1.heap.size z t s := by rw [hW]; exact Tri.box z t s _
  have hbW : Below w.heap.size w W := by
    rw [hW]
    exact hb1.alloc hb1.size _
  have hwW := hbW.size
  have hlt := hTri.2.2.2.2
  have HT := Lib.hid hTri
  have HBW := Lib.hid hbW
  have hb := Below.refl W.heap.size W
  go_wp2_with fail
  rw [← hW]
  clear hW hTri hbW hb1
  obtain ⟨c0, c1, c2⟩ := tri_at HT.out hb
  cases hE : scram l z t s with
  | none =>
    have HI : Hid (∀ u : World, Calls Try.prog 44 #[.string (str l), .agg #[.int .i64 z, .int .i64 t, .int .i64 s]] u fun e w' => e = .returned (.tuple #[.string ⟨#[]⟩, .bool false]) ∧ Below u.heap.size u w') := fun u => by
      have hh := scramI_any l z t s u (by omega)
      rw [hE] at hh
      exact hh
    have HS : Hid (∀ u : World, Calls Try.prog 45 #[.string (str l), .agg #[.int .i64 z, .int .i64 t, .int .i64 s]] u fun e w' => e = .returned (.tuple #[.string ⟨#[]⟩, .bool false]) ∧ Below u.heap.size u w') := fun u => by
      have hh := scramS_any l z t s u (by omega)
      rw [hE] at hh
      exact hh
    clear hE
    refine (HI.out _).mono ?_
    rintro e u1 ⟨rfl, k⟩
    replace hb := below_next hb k
    clear k
    obtain ⟨hc, hf⟩ := bcell hb
    go_wp2_with fail
    refine (HS.out _).mono ?_
    rintro e w3 ⟨rfl, k⟩
    replace hb := below_next hb k
    clear k
    (try clear hc hf)
    obtain ⟨hc, hf⟩ := bcell hb
    go_wp2
    go_ret
    exact ⟨rfl, HBW.out.trans (hb.mono hwW)⟩
  | some S' =>
    obtain ⟨hbl, hreg, hS'⟩ : bitsOK l = true ∧ regOK z t s = true ∧ S' = sumL l (runL z.toNat t.toNat s.toNat l.length) := by
      unfold scram at hE
      split at hE
      · rename_i h
        simp only [Bool.and_eq_true] at h
        exact ⟨h.1, h.2, (Option.some.inj hE).symm⟩
      · cases hE
    obtain ⟨n, T, Q, P, rfl, rfl, rfl, hP, hn, h8, hTP, hSP, hP2⟩ := reg_in hreg
    simp only [Int.toNat_natCast] at hS'
    obtain ⟨R, hR⟩ : ∃ R, R = runL n T Q l.length := ⟨_, rfl⟩
    have hRl : R.length = l.length := by rw [hR, runL_len]
    have hl6 := bits_le hbl
    have hRb : bitsOK R = true := by rw [hR]; exact run_bits n T Q _ hl6
    rw [← hR] at hS'
    obtain ⟨Z, hZ⟩ : ∃ Z, Z = List.replicate l.length (48 : UInt8) := ⟨_, rfl⟩
    have hZl : Z.length = l.length := by rw [hZ, List.length_replicate]
    have hZb : bitsOK Z = true := by rw [hZ]; exact zeros_ok hl6
    have hSl : S'.length = l.length := by rw [hS', sumL_len]
    have hSb : bitsOK S' = true := by rw [hS']; exact sum_ok hbl
    have e2 : scram S' (n : Int) (T : Int) (Q : Int) = some l := by
      rw [scram_yes hSb hreg, hSl, ← hR, hS', sum_back hRl (bitAt hbl) (fun k hk => bitAt hRb k (by omega))]
    have e3 : scram Z (n : Int) (T : Int) (Q : Int) = some R := by
      rw [scram_yes hZb hreg, hZl, ← hR, hZ, sum_zeros hRl (fun k hk => bitAt hRb k (by omega))]
    have e4 : sumL S' l = R := by rw [hS']; exact sum_self hRl (bitAt hbl) (fun k hk => bitAt hRb k (by omega))
    have zS := str_size S'
    rw [hSl] at zS
    have HI : Hid (∀ u : World, Calls Try.prog 44 #[.string (str l), .agg #[.int .i64 (n : Int), .int .i64 (T : Int), .int .i64 (Q : Int)]] u fun e w' => e = .returned (.tuple #[.string (str S'), .bool true]) ∧ Below u.heap.size u w') := fun u => by
      have hh := scramI_any l n T Q u (by omega)
      rw [hE] at hh
      exact hh
    have HS : Hid (∀ u : World, Calls Try.prog 45 #[.string (str l), .agg #[.int .i64 (n : Int), .int .i64 (T : Int), .int .i64 (Q : Int)]] u fun e w' => e = .returned (.tuple #[.string (str S'), .bool true]) ∧ Below u.heap.size u w') := fun u => by
      have hh := scramS_any l n T Q u (by omega)
      rw [hE] at hh
      exact hh
    have HB : Hid (∀ u : World, Calls Try.prog 44 #[.string (str S'), .agg #[.int .i64 (n : Int), .int .i64 (T : Int), .int .i64 (Q : Int)]] u fun e w' => e = .returned (.tuple #[.string (str l), .bool true]) ∧ Below u.heap.size u w') := fun u => by
      have hh := scramI_any S' n T Q u (by omega)
      rw [e2] at hh
      exact hh
    have HZ : Hid (∀ u : World, Calls Try.prog 42 #[.int .i64 (l.length : Int)] u fun e w' => e = .returned (.string (str Z)) ∧ Below u.heap.size u w') := fun u => by
      have hh := ssZeros_any l.length u (by omega)
      rw [← hZ] at hh
      exact hh
    have HZS : Hid (∀ u : World, Calls Try.prog 44 #[.string (str Z), .agg #[.int .i64 (n : Int), .int .i64 (T : Int), .int .i64 (Q : Int)]] u fun e w' => e = .returned (.tuple #[.string (str R), .bool true]) ∧ Below u.heap.size u w') := fun u => by
      have hh := scramI_any Z n T Q u (by omega)
      rw [e3] at hh
      exact hh
    have HRUN : Hid (∀ u : World, Calls Try.prog 46 #[.agg #[.int .i64 (n : Int), .int .i64 (T : Int), .int .i64 (Q : Int)], .int .i64 (l.length : Int)] u fun e w' => e = .returned (.string (str R)) ∧ Below u.heap.size u w') := fun u => by
      have hh := ssRun_any n T Q P l.length u hP hn h8 hTP hSP hl6 hreg
      rw [← hR] at hh
      exact hh
    have HX : Hid (∀ u : World, Calls Try.prog 30 #[.string (str S'), .string (str l)] u fun e w' => e = .returned (.string (str R)) ∧ Below u.heap.size u w') := fun u => by
      have hh := ssXor_any S' l u (by omega) (by omega) (bits_mem hSb) (bits_mem hbl)
      rw [e4] at hh
      exact hh
    clear hE e2 e3 e4 hR hZ hS' hSb hZb hRb hbl hreg
    refine (HI.out _).mono ?_
    rintro e u1 ⟨rfl, k⟩
    replace hb := below_next hb k
    clear k c0 c1 c2
    obtain ⟨c0, c1, c2⟩ := tri_at HT.out hb
    go_wp2_with fail
    refine (HS.out _).mono ?_
    rintro e u2 ⟨rfl, k⟩
    replace hb := below_next hb k
    clear k c0 c1 c2
    obtain ⟨c0, c1, c2⟩ := tri_at HT.out hb
    go_wp2_with fail
    refine (HB.out _).mono ?_
    rintro e u3 ⟨rfl, k⟩
    replace hb := below_next hb k
    clear k c0 c1 c2
    go_wp2
    go_region_held3 (fun u => u.cell? ⟨w1.heap.size, 0, none⟩ = some (.int .i64 (n : Int)) ∧ u.cell? ⟨w1.heap.size, 1, none⟩ = some (.int .i64 (T : Int)) ∧ u.cell? ⟨w1.heap.size, 2, none⟩ = some (.int .i64 (Q : Int))) (exact tri_at HT.out (by first | assumption | exact Below.drew (by assumption))) (first | (go_at_call 42; refine (relB (W0 := W) (by first | assumption | exact Below.drew (by assumption)) (HZ.out _)).mono ?_; rintro e u4 ⟨rfl, hu1⟩) | (go_at_call 44; refine (relB (W0 := W) (by first | assumption | exact Below.drew (by assumption)) (HZS.out _)).mono ?_; rintro e u5 ⟨rfl, hu2⟩))
    all_goals
      clear hb
      have hb := hu2
      obtain ⟨c0, c1, c2⟩ := tri_at HT.out hb
      go_wp2_with fail
      refine (HRUN.out _).mono ?_
      rintro e u6 ⟨rfl, k⟩
      replace hb := below_next hb k
      clear k c0 c1 c2
      go_wp2_with fail
      refine (HX.out _).mono ?_
      rintro e u7 ⟨rfl, k⟩
      replace hb := below_next hb k
      go_wp2
      go_ret
      exact ⟨rfl, HBW.out.trans (hb.mono hwW)⟩
end Go.Proofs.Ytmfblphnedoejaa.fnScramble
