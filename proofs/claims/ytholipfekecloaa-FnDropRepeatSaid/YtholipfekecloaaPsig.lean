/- Contracts of PilotSignal. -/
import Derived.Test.YtholipfekecloaaTable
namespace Go.Proofs.Ytholipfekecloaa
set_option maxRecDepth 20000
open Go.ChangeShapes Go.WideShapes Go.ChangeAt Go.RowKit
set_option linter.unusedVariables false
set_option linter.unusedSimpArgs false

def psOK (s : ByteArray) (n x k g : Int) : Bool := offOK s n x && inB k 0 3000 && inB g (-1000) 1000
def psL (s : ByteArray) (n x k g : Int) : List Int := if psOK s n x k g then (List.range k.toNat).map fun i => g * pchip s.data.toList n.toNat x.toNat i else []
theorem ps_no {s : ByteArray} {n x k g : Int} (h : psOK s n x k g = false) : psL s n x k g = [] := if_neg (by simp [h])
theorem ps_yes {s : ByteArray} {m off k : Nat} {g : Int} (h : psOK s (m : Int) (off : Int) (k : Int) g = true) : psL s (m : Int) (off : Int) (k : Int) g = (List.range k).map fun i => g * pchip s.data.toList m off i := if_pos h
theorem psL_len (s : ByteArray) (n x k g : Int) : (psL s n x k g).length ≤ 3000 := by
  unfold psL
  split
  · rename_i h
    simp only [psOK, Bool.and_eq_true, inB, decide_eq_true_eq] at h
    simp; omega
  · simp
theorem ps_parts {s : ByteArray} {n x k g : Int} (h : psOK s n x k g = true) : offOK s n x = true ∧ 0 ≤ k ∧ k ≤ 3000 ∧ -1000 ≤ g ∧ g ≤ 1000 := by
  simp only [psOK, Bool.and_eq_true, inB, decide_eq_true_eq] at h
  exact ⟨h.1.1, h.1.2.1, h.1.2.2, h.2.1, h.2.2⟩
theorem ps_na {s : ByteArray} {n x k g : Int} (h : offOK s n x = false) : psOK s n x k g = false := by simp [psOK, h]
theorem ps_nk {s : ByteArray} {n x k g : Int} (h : ¬ (0 ≤ k ∧ k ≤ 3000)) : psOK s n x k g = false := by simp [psOK, inB_no h]
theorem ps_ng {s : ByteArray} {n x k g : Int} (h : ¬ (-1000 ≤ g ∧ g ≤ 1000)) : psOK s n x k g = false := by simp [psOK, inB_no h]
theorem ps_ok {s : ByteArray} {n x k g : Int} (h : offOK s n x = true) (h1 : 0 ≤ k ∧ k ≤ 3000) (h2 : -1000 ≤ g ∧ g ≤ 1000) : psOK s n x k g = true := by simp [psOK, h, inB_yes h1.1 h1.2, inB_yes h2.1 h2.2]
set_option maxHeartbeats 1000000 in
theorem psI_yes (s : ByteArray) (m off K : Nat) (g : Int) (w : World) (hs : s.size ≤ maxLen) (ho : offOK s (m : Int) (off : Int) = true) (hK : K ≤ 3000) (hg1 : -1000 ≤ g) (hg2 : g ≤ 1000) :
    Calls Try.prog 15 #[.agg #[.string s, .int .i64 (m : Int)], .int .i64 off, .int .i64 K, .int .i64 g] w (RetLB ((List.range K).map fun i => g * pchip s.data.toList m off i) true w) := by
  obtain ⟨m', off', e1, e2, hp, h0, h1, h2, h3, h4, h5⟩ := off_nat ho
  obtain rfl : m = m' := by omega
  obtain rfl : off = off' := by omega
  clear e1 e2
  have HSM : Hid (∀ (k : Nat) (u : World), k ≤ 5000 → Calls Try.prog 57 #[.agg #[.string s, .int .i64 (m : Int)], .int .i64 off, .int .i64 k] u fun e w' => e = .returned (.int .i64 (pchip s.data.toList m off k)) ∧ Below u.heap.size u w') := fun k u hk => sampI_any s m off k u hp hs hk (by omega)
  have hmk := fun u => run_make_row' (P := Try.prog) 32 3 (.int .i64 0) 8 Try.underlying32 info_int rfl .i64 .i64 K (by omega) (by omega) u
  have d1 : decide ((K : Int) < 0) = false := decide_eq_false (by omega)
  have d2 : decide ((3000 : Int) < (K : Int)) = false := decide_eq_false (by omega)
  have d3 : decide (g < -1000) = false := decide_eq_false (by omega)
  have d4 : decide ((1000 : Int) < g) = false := decide_eq_false (by omega)
  go_enter Try.func15, Try.ntmps15
  have hb := Below.refl (w.alloc (.cells #[.string s, .int .i64 (m:Int)] 24)).heap.size (w.alloc (.cells #[.string s, .int .i64 (m:Int)] 24))
  go_wp2_with fail
  refine (isOff_any _ _ _ _ hs).mono ?_
  rintro e w1 ⟨rfl, k⟩
  replace hb := below_next hb k
  clear k
  (try clear hc hf)
  obtain ⟨hc, hf⟩ := bcell hb
  clear hc hf
  go_wp2
  have hw1 := hb.size
  rw [alloc_size] at hw1
  clear d1 d2 d3 d4
  go_loopw [11, 36] (fun _ i wr => ∃ k : Nat, k ≤ K ∧ i = .int .i64 k ∧ wr.rowIs w1.heap.size 3 K (fun j => if j < k then intV (g * pchip s.data.toList m off j) else .int .i64 0) ∧ Below (w.alloc (.cells #[.string s, .int .i64 (m : Int)] 24)).heap.size (w.alloc (.cells #[.string s, .int .i64 (m : Int)] 24)) wr) (fun _ i _ => K - (intOf i).toNat)
  case atStart => exact ⟨0, Nat.zero_le _, rfl, (World.rowIs_made w1 _ _ _).congr (fun _ _ => rfl), hb.alloc hb.size _⟩
  case round =>
    clear hb hmk
    obtain ⟨k, hk, rfl, hrow, hb⟩ := hrel
    by_cases hlt : k < K
    · obtain ⟨hc, hf⟩ := bcell hb
      have hpt := pchip_two s.data.toList m off k
      go_wp2_with fail
      refine (HSM.out _ _ (by omega)).mono ?_
      rintro e w3 ⟨rfl, k3⟩
      replace hb := below_next hb k3
      replace hrow := rowIs_below hrow k3 hrow.lt
      have hmul : -1000 ≤ g * pchip s.data.toList m off k ∧ g * pchip s.data.toList m off k ≤ 1000 := by rcases hpt with h | h <;> rw [h] <;> omega
      clear hc hf k3 hpt
      have hc := hrow.cell hlt
      have hf := hrow.frozen k
      simp only [Nat.lt_irrefl, if_false] at hc
      go_wp2
      go_roundw
      case rel => exact ⟨k + 1, by omega, by go_num, row_next hrow rfl, hb.setCell (by simp; omega) _⟩
      case measure => simp [intOf]; omega
    · obtain rfl : k = K := by omega
      go_wp2
      go_ret2
      exact RetLB.mk (sl_of_row hrow (by omega) (by omega)) (below_out hb)
theorem psI_any (s : ByteArray) (n x k g : Int) (w : World) (hs : s.size ≤ maxLen) :
    Calls Try.prog 15 #[.agg #[.string s, .int .i64 n], .int .i64 x, .int .i64 k, .int .i64 g] w (RetLB (psL s n x k g) (psOK s n x k g) w) := by
  cases hv : psOK s n x k g
  · rw [ps_no hv]
    cases ho : offOK s n x
    · go_enter Try.func15, Try.ntmps15
      have hb := Below.refl (w.alloc (.cells #[.string s, .int .i64 n] 24)).heap.size (w.alloc (.cells #[.string s, .int .i64 n] 24))
      go_wp2_with fail
      refine (isOff_any _ _ _ _ hs).mono ?_
      rintro e w1 ⟨rfl, k⟩
      replace hb := below_next hb k
      clear k
      (try clear hc hf)
      obtain ⟨hc, hf⟩ := bcell hb
      go_wp2
      go_ret2
      exact RetLB.mk (Sl.nil _ _ _) (below_out hb)
    · have hq : k < 0 ∨ (¬ k < 0 ∧ 3000 < k) ∨ ((¬ k < 0 ∧ ¬ 3000 < k) ∧ g < -1000) ∨ ((¬ k < 0 ∧ ¬ 3000 < k) ∧ ¬ g < -1000 ∧ 1000 < g) := by
        by_cases h1 : 0 ≤ k ∧ k ≤ 3000
        · by_cases h2 : -1000 ≤ g ∧ g ≤ 1000
          · rw [ps_ok ho h1 h2] at hv; cases hv
          · omega
        · omega
      clear hv
      rcases hq with h | ⟨h, h'⟩ | ⟨⟨h, h'⟩, h''⟩ | ⟨⟨h, h'⟩, h'', h3⟩
      · have d1 : decide (k < 0) = true := decide_eq_true h
        go_enter Try.func15, Try.ntmps15
        have hb := Below.refl (w.alloc (.cells #[.string s, .int .i64 n] 24)).heap.size (w.alloc (.cells #[.string s, .int .i64 n] 24))
        go_wp2_with fail
        refine (isOff_any _ _ _ _ hs).mono ?_
        rintro e w1 ⟨rfl, k⟩
        replace hb := below_next hb k
        clear k
        (try clear hc hf)
        obtain ⟨hc, hf⟩ := bcell hb
        go_wp2
        go_ret2
        exact RetLB.mk (Sl.nil _ _ _) (below_out hb)
      · have d1 : decide (k < 0) = false := decide_eq_false h
        have d2 : decide ((3000 : Int) < k) = true := decide_eq_true h'
        go_enter Try.func15, Try.ntmps15
        have hb := Below.refl (w.alloc (.cells #[.string s, .int .i64 n] 24)).heap.size (w.alloc (.cells #[.string s, .int .i64 n] 24))
        go_wp2_with fail
        refine (isOff_any _ _ _ _ hs).mono ?_
        rintro e w1 ⟨rfl, k⟩
        replace hb := below_next hb k
        clear k
        (try clear hc hf)
        obtain ⟨hc, hf⟩ := bcell hb
        go_wp2
        go_ret2
        exact RetLB.mk (Sl.nil _ _ _) (below_out hb)
      · have d1 : decide (k < 0) = false := decide_eq_false h
        have d2 : decide ((3000 : Int) < k) = false := decide_eq_false h'
        have d3 : decide (g < -1000) = true := decide_eq_true h''
        go_enter Try.func15, Try.ntmps15
        have hb := Below.refl (w.alloc (.cells #[.string s, .int .i64 n] 24)).heap.size (w.alloc (.cells #[.string s, .int .i64 n] 24))
        go_wp2_with fail
        refine (isOff_any _ _ _ _ hs).mono ?_
        rintro e w1 ⟨rfl, k⟩
        replace hb := below_next hb k
        clear k
        (try clear hc hf)
        obtain ⟨hc, hf⟩ := bcell hb
        go_wp2
        go_ret2
        exact RetLB.mk (Sl.nil _ _ _) (below_out hb)
      · have d1 : decide (k < 0) = false := decide_eq_false h
        have d2 : decide ((3000 : Int) < k) = false := decide_eq_false h'
        have d3 : decide (g < -1000) = false := decide_eq_false h''
        have d4 : decide ((1000 : Int) < g) = true := decide_eq_true h3
        go_enter Try.func15, Try.ntmps15
        have hb := Below.refl (w.alloc (.cells #[.string s, .int .i64 n] 24)).heap.size (w.alloc (.cells #[.string s, .int .i64 n] 24))
        go_wp2_with fail
        refine (isOff_any _ _ _ _ hs).mono ?_
        rintro e w1 ⟨rfl, k⟩
        replace hb := below_next hb k
        clear k
        (try clear hc hf)
        obtain ⟨hc, hf⟩ := bcell hb
        go_wp2
        go_ret2
        exact RetLB.mk (Sl.nil _ _ _) (below_out hb)
  · obtain ⟨ho, k0, k3, g1, g2⟩ := ps_parts hv
    obtain ⟨m, off, rfl, rfl, _⟩ := off_nat ho
    obtain ⟨K, rfl⟩ : ∃ K : Nat, k = K := ⟨k.toNat, by omega⟩
    rw [ps_yes hv]
    exact psI_yes s m off K g w hs ho (by omega) g1 g2
set_option maxHeartbeats 2000000 in
theorem psS_any (s : ByteArray) (n x k g : Int) (w : World) (hs : s.size ≤ maxLen) :
    Calls Try.prog 16 #[.agg #[.string s, .int .i64 n], .int .i64 x, .int .i64 k, .int .i64 g] w (RetLB (psL s n x k g) (psOK s n x k g) w) := by
  have HO : Hid (∀ n : Int, Own ((w.alloc (.cells #[.string s, .int .i64 n] 24)).alloc (.cells #[] 3)) (w.heap.size + 1) 3 (w.heap.size + 1) 0 0 []) := fun n => by
    have := Own.lit (w := w.alloc (.cells #[.string s, .int .i64 n] 24)) (B := (w.alloc (.cells #[.string s, .int .i64 n] 24)).heap.size) 3 #[] 0 (Nat.le_refl _) (by unfold maxLen; omega) rfl
    rw [alloc_size] at this
    exact this
  cases hp : pilotOK s.data.toList n
  · have hno := ps_na (k := k) (g := g) (off_inv (x := x) hp)
    rw [ps_no hno, hno]
    clear hno
    go_enter Try.func16, Try.ntmps16
    have hb := (Below.refl (w.alloc (.cells #[.string s, .int .i64 n] 24)).heap.size (w.alloc (.cells #[.string s, .int .i64 n] 24))).alloc (Nat.le_refl _) (.cells #[] 3)
    have ho := HO.out n
    go_wp2_with fail
    refine (pilotS_any _ _ _ hs).mono ?_
    rintro e w1 ⟨rfl, k1⟩
    replace ho := ho.below k1 ho.lt.2
    replace hb := below_next hb k1
    go_wp2
    go_ret2
    exact RetLB.mk (Sl.of_own (l := []) (ho.mono (by omega)) ho.lt.2) (below_out hb)
  · cases hox : offOK s n x
    · have hno := ps_na (k := k) (g := g) hox
      rw [ps_no hno, hno]
      clear hno
      go_enter Try.func16, Try.ntmps16
      have hb := (Below.refl (w.alloc (.cells #[.string s, .int .i64 n] 24)).heap.size (w.alloc (.cells #[.string s, .int .i64 n] 24))).alloc (Nat.le_refl _) (.cells #[] 3)
      have ho := HO.out n
      go_wp2_with fail
      refine (pilotS_any _ _ _ hs).mono ?_
      rintro e w1 ⟨rfl, k1⟩
      replace ho := ho.below k1 ho.lt.2
      replace hb := below_next hb k1
      obtain ⟨hc, hf⟩ := bcell hb
      go_wp2_with fail
      refine (l5Off_any _ _ _ _ hp).mono ?_
      rintro e w2 ⟨rfl, k2⟩
      replace ho := ho.below k2 ho.lt.2
      replace hb := below_next hb k2
      go_wp2
      go_ret2
      exact RetLB.mk (Sl.of_own (l := []) (ho.mono (by omega)) ho.lt.2) (below_out hb)
    · cases hik : inB k 0 3000
      · have hno : psOK s n x k g = false := by simp [psOK, hik]
        rw [ps_no hno, hno]
        clear hno
        go_enter Try.func16, Try.ntmps16
        have hb := (Below.refl (w.alloc (.cells #[.string s, .int .i64 n] 24)).heap.size (w.alloc (.cells #[.string s, .int .i64 n] 24))).alloc (Nat.le_refl _) (.cells #[] 3)
        have ho := HO.out n
        go_wp2_with fail
        refine (pilotS_any _ _ _ hs).mono ?_
        rintro e w1 ⟨rfl, k1⟩
        replace ho := ho.below k1 ho.lt.2
        replace hb := below_next hb k1
        obtain ⟨hc, hf⟩ := bcell hb
        go_wp2_with fail
        refine (l5Off_any _ _ _ _ hp).mono ?_
        rintro e w2 ⟨rfl, k2⟩
        replace ho := ho.below k2 ho.lt.2
        replace hb := below_next hb k2
        go_wp2_with fail
        refine (l1In_any _ _ _ _).mono ?_
        rintro e w' ⟨rfl, rfl⟩
        go_wp2
        go_ret2
        exact RetLB.mk (Sl.of_own (l := []) (ho.mono (by omega)) ho.lt.2) (below_out hb)
      · cases hig : inB g (-1000) 1000
        · have hno : psOK s n x k g = false := by simp [psOK, hig]
          rw [ps_no hno, hno]
          clear hno
          go_enter Try.func16, Try.ntmps16
          have hb := (Below.refl (w.alloc (.cells #[.string s, .int .i64 n] 24)).heap.size (w.alloc (.cells #[.string s, .int .i64 n] 24))).alloc (Nat.le_refl _) (.cells #[] 3)
          have ho := HO.out n
          go_wp2_with fail
          refine (pilotS_any _ _ _ hs).mono ?_
          rintro e w1 ⟨rfl, k1⟩
          replace ho := ho.below k1 ho.lt.2
          replace hb := below_next hb k1
          obtain ⟨hc, hf⟩ := bcell hb
          go_wp2_with fail
          refine (l5Off_any _ _ _ _ hp).mono ?_
          rintro e w2 ⟨rfl, k2⟩
          replace ho := ho.below k2 ho.lt.2
          replace hb := below_next hb k2
          go_wp2_with fail
          refine (l1In_any _ _ _ _).mono ?_
          rintro e w' ⟨rfl, rfl⟩
          go_wp2_with fail
          refine (l1In_any _ _ _ _).mono ?_
          rintro e w' ⟨rfl, rfl⟩
          go_wp2
          go_ret2
          exact RetLB.mk (Sl.of_own (l := []) (ho.mono (by omega)) ho.lt.2) (below_out hb)
        · have hyes : psOK s n x k g = true := by simp [psOK, hox, hik, hig]
          obtain ⟨_, k0, k3, g1, g2⟩ := ps_parts hyes
          obtain ⟨m, off, rfl, rfl, _, h0, h1, h2, h3, h4, h5⟩ := off_nat hox
          obtain ⟨K, rfl⟩ : ∃ K : Nat, k = K := ⟨k.toNat, by omega⟩
          rw [ps_yes hyes, hyes]
          have HSM : Hid (∀ (k : Nat) (u : World), k ≤ 5000 → Calls Try.prog 59 #[.agg #[.string s, .int .i64 (m : Int)], .int .i64 off, .int .i64 k] u fun e w' => e = .returned (.int .i64 (pchip s.data.toList m off k)) ∧ Below u.heap.size u w') := fun k u hk => chipS_any s m off k u hp hk (by omega)
          clear hyes
          go_enter Try.func16, Try.ntmps16
          have hb := (Below.refl (w.alloc (.cells #[.string s, .int .i64 (m : Int)] 24)).heap.size (w.alloc (.cells #[.string s, .int .i64 (m : Int)] 24))).alloc (Nat.le_refl _) (.cells #[] 3)
          have ho := HO.out (m : Int)
          go_wp2_with fail
          refine (pilotS_any _ _ _ hs).mono ?_
          rintro e w1 ⟨rfl, k1⟩
          replace ho := ho.below k1 ho.lt.2
          replace hb := below_next hb k1
          obtain ⟨hc, hf⟩ := bcell hb
          go_wp2_with fail
          refine (l5Off_any _ _ _ _ hp).mono ?_
          rintro e w2 ⟨rfl, k2⟩
          replace ho := ho.below k2 ho.lt.2
          replace hb := below_next hb k2
          clear hc hf
          go_wp2_with fail
          refine (l1In_any _ _ _ _).mono ?_
          rintro e w' ⟨rfl, rfl⟩
          go_wp2_with fail
          refine (l1In_any _ _ _ _).mono ?_
          rintro e w' ⟨rfl, rfl⟩
          go_wp2
          clear hik hig
          go_loopw [10, 11] (fun v i wr => ∃ k g' cap : Nat, k ≤ K ∧ i = .int .i64 k ∧ v = .slice (some ⟨g', 0, none⟩) k cap ∧ Own wr (w.alloc (.cells #[.string s, .int .i64 (m : Int)] 24)).heap.size 3 g' k cap (((List.range k).map fun i => g * pchip s.data.toList m off i).map intV) ∧ Below (w.alloc (.cells #[.string s, .int .i64 (m : Int)] 24)).heap.size (w.alloc (.cells #[.string s, .int .i64 (m : Int)] 24)) wr) (fun _ i _ => K - (intOf i).toNat)
          case atStart => exact ⟨0, w.heap.size + 1, 0, Nat.zero_le _, rfl, rfl, ho.mono (by simp), hb⟩
          case round =>
            clear hb ho k1 k2
            obtain ⟨k, g', cap, hk, rfl, rfl, hown, hb⟩ := hrel
            by_cases hlt : k < K
            · obtain ⟨hc, hf⟩ := bcell hb
              have HN := Lib.hid (range_snoc (fun i => g * pchip s.data.toList m off i) k)
              have hpt := pchip_two s.data.toList m off k
              have hmul : -1000 ≤ g * pchip s.data.toList m off k ∧ g * pchip s.data.toList m off k ≤ 1000 := by rcases hpt with h | h <;> rw [h] <;> omega
              clear hpt
              go_wp2_with fail
              refine (HSM.out _ _ (by omega)).mono ?_
              rintro e w3 ⟨rfl, k3⟩
              replace hown := hown.below k3 hown.lt.2
              replace hb := below_next hb k3
              clear hc hf k3
              go_wp2_with (at_builtin; refine app1 32 3 Try.underlying32 info_int rfl rfl _ _ rfl (w.alloc (.cells #[.string s, .int .i64 (m : Int)] 24)).heap.size g' k cap _ _ rfl rfl hown hb (Nat.le_refl _) rfl (by omega) (by unfold maxLen; omega) ?_; intro g2 cap' w' hown' hb')
              rw [HN.out] at hown'
              clear hown hb
              go_wp2
              go_roundw
              case rel => exact ⟨k + 1, g2, cap', by omega, by go_num, rfl, hown', hb'⟩
              case measure => simp [intOf]; omega
            · obtain rfl : k = K := by omega
              go_wp2
              go_ret2
              exact RetLB.mk (Sl.of_own (hown.mono (by simp)) hown.lt.2) (below_out hb)
end Go.Proofs.Ytholipfekecloaa
