/- Periods of registers and the taps that are maximal: plain facts, and contracts of the reference's functions. -/
import Derived.Test.YtiiiaeemblcniaaRunR
import Derived.Test.YtiiiaeemblcniaaSig
import Derived.Test.YtiiiaeemblcniaaTri
import Derived.Deep.OwnRows
namespace Go.Proofs.Ytiiiaeemblcniaa
set_option maxRecDepth 20000
open Go.ChangeShapes Go.WideShapes Go.ChangeAt Go.RowKit
set_option linter.unusedVariables false
set_option linter.unusedSimpArgs false

/-- the step at which each state was visited first, behind k steps, or -1 -/
def seenTo (n T S P : Nat) : Nat → List Int
  | 0 => List.replicate P (-1)
  | k + 1 => (seenTo n T S P k).set (stAt n T S k) (k : Int)
theorem seenTo_len (n T S P : Nat) : ∀ k, (seenTo n T S P k).length = P
  | 0 => by simp [seenTo]
  | k + 1 => by simp only [seenTo, List.length_set]; exact seenTo_len n T S P k
def negs (l : List Int) : Nat := l.countP (fun x => decide (x < 0))
theorem negs_set : ∀ (l : List Int) (j : Nat) (v : Int), j < l.length → l.getD j 0 < 0 → 0 ≤ v → negs (l.set j v) + 1 = negs l
  | [], j, v, h, _, _ => by simp at h
  | a :: t, 0, v, _, h, hv => by
    simp only [List.getD_cons_zero] at h
    simp [negs, List.countP_cons, h, show ¬ v < 0 by omega]
  | a :: t, j + 1, v, hl, h, hv => by
    have := negs_set t j v (by simpa using hl) (by simpa using h) hv
    simp only [negs, List.set_cons_succ, List.countP_cons] at this ⊢
    omega
theorem negs_pos : ∀ (l : List Int) (j : Nat), l.getD j 0 < 0 → 1 ≤ negs l
  | [], j, h => by simp at h
  | a :: t, 0, h => by
    simp only [List.getD_cons_zero] at h
    simp [negs, List.countP_cons, h]
  | a :: t, j + 1, h => by
    have := negs_pos t j (by simpa using h)
    simp only [negs, List.countP_cons] at this ⊢
    omega
theorem negs_to {n T S P : Nat} (hs : ∀ k, stAt n T S k < P) : ∀ k, (∀ i, i < k → (seenTo n T S P i).getD (stAt n T S i) 0 < 0) → negs (seenTo n T S P k) + k = P
  | 0, _ => by
    simp only [seenTo, negs, Nat.add_zero]
    rw [List.countP_replicate]; simp
  | k + 1, h => by
    have ih := negs_to hs k (fun i hi => h i (by omega))
    have := negs_set (seenTo n T S P k) (stAt n T S k) (k : Int) (by rw [seenTo_len]; exact hs k) (h k (by omega)) (by omega)
    simp only [seenTo]
    omega
theorem seen_lt {n T S P : Nat} (hs : ∀ k, stAt n T S k < P) {k : Nat} (h : ∀ i, i < k → (seenTo n T S P i).getD (stAt n T S i) 0 < 0) (hk : (seenTo n T S P k).getD (stAt n T S k) 0 < 0) : k < P := by
  have h1 := negs_to hs k h
  have h2 := negs_pos _ _ hk
  omega
/-- the period, looked for from step k on -/
def perF (n T S P : Nat) : Nat → Nat → Int
  | 0, _ => 0
  | f + 1, k => if (seenTo n T S P k).getD (stAt n T S k) 0 < 0 then perF n T S P f (k + 1) else (k : Int) - (seenTo n T S P k).getD (stAt n T S k) 0
def perOf (n T S : Nat) : Int := perF n T S (2 ^ n) (2 ^ n + 1) 0
theorem perF_of {n T S P k : Nat} (hk : ∀ i, i < k → (seenTo n T S P i).getD (stAt n T S i) 0 < 0) (h : ¬ (seenTo n T S P k).getD (stAt n T S k) 0 < 0) : ∀ f j, j ≤ k → k < j + f → perF n T S P f j = (k : Int) - (seenTo n T S P k).getD (stAt n T S k) 0
  | 0, j, h1, h2 => by omega
  | f + 1, j, h1, h2 => by
    simp only [perF]
    by_cases e : j = k
    · subst e; rw [if_neg h]
    · rw [if_pos (hk j (by omega))]
      exact perF_of hk h f (j + 1) (by omega) (by omega)
theorem seen_ge (n T S P : Nat) : ∀ k j, j < P → -1 ≤ (seenTo n T S P k).getD j 0 ∧ (seenTo n T S P k).getD j 0 ≤ (k : Int)
  | 0, j, hj => by simp [seenTo, List.getD_eq_getElem?_getD, hj]
  | k + 1, j, hj => by
    have ih := seen_ge n T S P k j hj
    have hl := seenTo_len n T S P k
    simp only [seenTo, List.getD_eq_getElem?_getD, List.getElem?_set]
    by_cases e : stAt n T S k = j
    · rw [if_pos e, if_pos (by omega)]
      simp only [Option.getD_some]
      omega
    · rw [if_neg e, ← List.getD_eq_getElem?_getD]
      omega
/-- the taps of a size that are maximal, among the first k -/
def maxTo (n k : Nat) : List Int := ((List.range k).filter fun t => decide (1 ≤ t) && decide (perOf n t 1 = ((2 ^ n : Nat) : Int) - 1)).map fun (t : Nat) => Int.ofNat t
def maxL (n : Nat) : List Int := maxTo n (2 ^ n)
theorem maxTo_next (n k : Nat) (h : 1 ≤ k) : maxTo n (k + 1) = if perOf n k 1 = ((2 ^ n : Nat) : Int) - 1 then maxTo n k ++ [(k : Int)] else maxTo n k := by
  unfold maxTo
  rw [List.range_succ, List.filter_append, List.map_append]
  by_cases e : perOf n k 1 = ((2 ^ n : Nat) : Int) - 1
  · rw [if_pos e]; simp [h, e]
  · have e2 : (decide (1 ≤ k) && decide (perOf n k 1 = ((2 ^ n : Nat) : Int) - 1)) = false := by rw [decide_eq_false e, Bool.and_false]
    rw [if_neg e, List.filter_cons, e2]
    simp only [Bool.false_eq_true, if_false, List.filter_nil, List.map_nil, List.append_nil]
theorem maxTo_one (n : Nat) : maxTo n 1 = [] := by
  unfold maxTo
  simp [List.range_succ]
theorem maxTo_len (n : Nat) : ∀ k, (maxTo n k).length ≤ k := fun k => by
  unfold maxTo
  rw [List.length_map]
  exact Nat.le_trans (List.length_filter_le _ _) (by simp)
theorem maxTo_mem {n k : Nat} {t : Int} (h : t ∈ maxTo n k) : ∃ m : Nat, t = (m : Int) ∧ 1 ≤ m ∧ m < k ∧ perOf n m 1 = ((2 ^ n : Nat) : Int) - 1 := by
  unfold maxTo at h
  simp only [List.mem_map, List.mem_filter, List.mem_range, Bool.and_eq_true, decide_eq_true_eq] at h
  obtain ⟨m, ⟨h1, h2, h3⟩, rfl⟩ := h
  exact ⟨m, rfl, h2, h1, h3⟩
/-- how l1Walk ends -/
def WalkEnd (n T S P : Nat) (w : World) (e : Ending) (w' : World) : Prop := ∃ k g : Nat, (∀ i, i < k → (seenTo n T S P i).getD (stAt n T S i) 0 < 0) ∧ ¬ (seenTo n T S P k).getD (stAt n T S k) 0 < 0 ∧ k ≤ P ∧
  e = .returned (.tuple #[.slice (some ⟨g, 0, none⟩) P P, .int .i64 (k : Int), .agg #[.int .i64 (n : Int), .int .i64 (T : Int), .int .i64 (stAt n T S k : Int)]]) ∧ w'.rowIs g 3 P (fun j => intV ((seenTo n T S P k).getD j 0)) ∧ Below w.heap.size w w'
set_option maxHeartbeats 4000000 in
theorem walkS_any (n T S P : Nat) (w : World) (hP : P = 2 ^ n) (hn : 2 ≤ n) (h8 : n ≤ 8) (hT : T < P) (hS : S < P) :
    Calls Try.prog 96 #[.agg #[.int .i64 (n : Int), .int .i64 (T : Int), .int .i64 (S : Int)]] w (WalkEnd n T S P w) := by
  have hP2 : P ≤ 256 := pow_le hP h8
  have hmk := fun u => run_make_row' (P := Try.prog) 23 3 (.int .i64 0) 8 Try.underlying23 info_int rfl .i64 .i64 P (by omega) (by omega) u
  have H2 : Hid (∀ u : World, Calls Try.prog 79 #[.int .i64 (n : Int)] u fun e w' => e = .returned (.int .i64 (P : Int)) ∧ u = w') := Lib.hid fun u => by rw [hP]; exact two_any n u h8
  have HS := Lib.hid (fun (k : Nat) (u : World) => stepS_any n T (stAt n T S k) P u hP hn h8 hT (stAt_lt hP hn hS k))
  have HLT := Lib.hid (fun k : Nat => stAt_lt (T := T) hP hn hS k)
  clear hP hT hS
  go_enter Try.func96, Try.ntmps96
  go_wp2_with fail
  refine (H2.out _).mono ?_
  rintro e w' ⟨rfl, rfl⟩
  go_wp2
  go_loopw [6] (fun i wr => ∃ k : Nat, k ≤ P ∧ i = .int .i64 k ∧ RegAt wr w.heap.size n T S ∧ Tri wr (w.heap.size + 1) 0 0 0 ∧ wr.rowIs (w.heap.size + 2) 3 P (fun j => if j < k then .int .i64 (-1) else .int .i64 0) ∧ Below w.heap.size w wr) (fun i _ => P - (intOf i).toNat)
  case atStart =>
    refine ⟨0, Nat.zero_le _, rfl, ((RegAt.box n T S _).alloc _).alloc _, ?_, ?_, (((Below.refl _ _).alloc (Nat.le_refl _) _).alloc (by simp <;> omega) _).alloc (by simp; omega) _⟩
    · have := (Tri.box (u := w.alloc (.cells #[.int .i64 (n : Int), .int .i64 (T : Int), .int .i64 (S : Int)] 98)) 0 0 0 98).alloc (.cells (madeCells #[.int .i64 0] P) 3)
      simpa using this
    · have := (World.rowIs_made ((w.alloc (.cells #[.int .i64 (n : Int), .int .i64 (T : Int), .int .i64 (S : Int)] 98)).alloc (.cells #[.int .i64 0, .int .i64 0, .int .i64 0] 98)) (.int .i64 0) P 3)
      simp only [World.size_alloc] at this
      exact this.congr (fun _ _ => rfl)
  case round =>
    obtain ⟨k, hk, rfl, hreg, htri, hrow, hbl⟩ := hrel
    clear hmk
    by_cases hlt : k < P
    · have hc := hrow.cell hlt
      have hf := hrow.frozen k
      simp only [Nat.lt_irrefl, if_false] at hc
      have HR := Lib.hid hreg
      have HT := Lib.hid htri
      have HW := Lib.hid hrow
      have HB := Lib.hid hbl
      clear hreg htri hrow hbl
      go_wp2
      go_roundw
      case rel => exact ⟨k + 1, by omega, by go_num, HR.out.other (by simp <;> omega) _, HT.out.other (by simp <;> omega) _, row_next HW.out rfl, HB.out.setCell (by simp <;> omega) _⟩
      case measure => simp [intOf]; omega
    · obtain rfl : k = P := by omega
      have HR := Lib.hid hreg
      have HT := Lib.hid htri
      have HW : Hid (wr.rowIs (w.heap.size + 2) 3 k (fun j => intV ((seenTo n T S k 0).getD j 0))) := Lib.hid (hrow.congr (fun j hj => by rw [if_pos hj]; simp [seenTo, List.getD_eq_getElem?_getD, hj, intV]))
      have HB := Lib.hid hbl
      obtain ⟨w9, hw9⟩ : ∃ w9 : World, w9 = wr := ⟨_, rfl⟩
      rw [← hw9] at HR HT HW HB ⊢
      clear hreg htri hrow hbl hw9 hk hlt
      obtain ⟨P, rfl⟩ : ∃ P, P = k := ⟨_, rfl⟩
      go_wp2
      go_loopw [7] (fun i wr => ∃ k : Nat, i = .int .i64 k ∧ (∀ i, i < k → (seenTo n T S P i).getD (stAt n T S i) 0 < 0) ∧ RegAt wr w.heap.size n T (stAt n T S k) ∧ Tri wr (w.heap.size + 1) 0 0 0 ∧ wr.rowIs (w.heap.size + 2) 3 P (fun j => intV ((seenTo n T S P k).getD j 0)) ∧ Below w.heap.size w wr) (fun i _ => P - (intOf i).toNat)
      case atStart => exact ⟨0, rfl, fun i hi => absurd hi (Nat.not_lt_zero i), HR.out, HT.out, HW.out, HB.out⟩
      case round =>
        clear HR HT HW HB
        obtain ⟨k, rfl, hneg, hreg, htri, hrow, hbl⟩ := hrel
        have hst := HLT.out k
        have hc := hrow.cell hst
        have hf := hrow.frozen (stAt n T S k)
        have HNEG := Lib.hid hneg
        have HR := Lib.hid hreg
        have HT := Lib.hid htri
        have HW := Lib.hid hrow
        have HB := Lib.hid hbl
        obtain ⟨r0, r1, r2, r3, r4⟩ := hreg
        by_cases hv : (seenTo n T S P k).getD (stAt n T S k) 0 < 0
        · have hkP := seen_lt HLT.out hneg hv
          have HV := Lib.hid hv
          have HC := Lib.hid (HS.out k)
          have HN : Hid (stepR n T (stAt n T S k) = stAt n T S (k + 1)) := rfl
          obtain ⟨v, hve⟩ : ∃ v, v = (seenTo n T S P k).getD (stAt n T S k) 0 := ⟨_, rfl⟩
          have HW2 : Hid ((wr.setCell ⟨w.heap.size + 2, stAt n T S k, none⟩ (.int .i64 (k : Int))).rowIs (w.heap.size + 2) 3 P (fun j => intV ((seenTo n T S P (k + 1)).getD j 0))) := Lib.hid ((hrow.set (stAt n T S k) (.int .i64 (k : Int))).congr (fun j hj => by
            have hl := seenTo_len n T S P k
            simp only [seenTo, List.getD_eq_getElem?_getD, List.getElem?_set]
            by_cases e : j = stAt n T S k
            · rw [if_pos e, if_pos e.symm, if_pos (by omega)]; rfl
            · rw [if_neg e, if_neg (Ne.symm e)]))
          rw [← hve] at hv hc
          unfold intV at hc
          clear hneg htri hrow hbl hve
          go_wp2_with fail
          refine (HC.out _).mono ?_
          rintro e w1 ⟨rfl, k1⟩
          have HR1 := Lib.hid ((HR.out.other (p := ⟨w.heap.size + 2, stAt n T S k, none⟩) (by simp <;> omega) (.int .i64 (k : Int))).below k1)
          have HT1 := Lib.hid ((HT.out.other (p := ⟨w.heap.size + 2, stAt n T S k, none⟩) (by simp <;> omega) (.int .i64 (k : Int))).block (k1.block _ (by have := HT.out.2.2.2.2; simpa using this)) k1.size)
          have HW3 := Lib.hid (row_below HW2.out k1)
          have HB1 := Lib.hid ((HB.out.setCell (p := ⟨w.heap.size + 2, stAt n T S k, none⟩) (by simp <;> omega) (.int .i64 (k : Int))).trans (k1.mono (by simpa using HB.out.size)))
          clear k1 r0 r1 r2 r3 r4 hc hf HR HT HW HB HW2
          obtain ⟨r0, r1, r2, r3, r4⟩ := HR1.out
          go_wp2
          go_roundw
          case rel => exact ⟨k + 1, by go_num, fun i hi => by
            by_cases e : i = k
            · subst e; exact HV.out
            · exact HNEG.out i (by omega), (HR1.out.set0.set1.set _ (by rw [← HN.out])), ((HT1.out.other (by simp <;> omega) _).other (by simp <;> omega) _).other (by simp <;> omega) _, ((HW3.out.setOther (by simp <;> omega) _).setOther (by simp <;> omega) _).setOther (by simp <;> omega) _, ((HB1.out.setCell (by simp <;> omega) _).setCell (by simp <;> omega) _).setCell (by simp <;> omega) _⟩
          case measure => simp [intOf]; omega
        · have HV := Lib.hid hv
          have hkP : k ≤ P := by have := negs_to HLT.out k hneg; omega
          obtain ⟨d0, d1, d2, d3, d4⟩ := htri
          obtain ⟨v, hve⟩ : ∃ v, v = (seenTo n T S P k).getD (stAt n T S k) 0 := ⟨_, rfl⟩
          rw [← hve] at hv hc
          unfold intV at hc
          clear hneg hrow hbl hve
          go_wp2
          refine wp_region_still_tail 5 (by kernel_rfl) (by kernel_rfl) ?_
          simp only [List.take_succ_cons, List.take_zero, List.drop_succ_cons, List.drop_zero]
          repeat (refine wpStill_step (fun K hK => ?_); (try go_simp); (try simp only [IntWalk.iteOmega]); (try go_ints); (try simp (disch := omega) only [dif_pos]); (try go_simp); refine hK _ ?_; clear hK K)
          refine wpStill_nil ?_
          change wpList _ _ _ _ _ wr.drew
          go_wp2
          exact bodyPost_ret (v := .tuple #[.slice (some ⟨w.heap.size + 2, 0, none⟩) P P, .int .i64 (k : Int), .agg #[.int .i64 (n : Int), .int .i64 (T : Int), .int .i64 (stAt n T S k : Int)]]) (by simp [results, Try.results96, go_sem, d0, d1, d2]) rfl ⟨k, w.heap.size + 2, HNEG.out, Int.not_lt.2 HV.out, hkP, rfl, ((HW.out.drew.setOther (by simp <;> omega) _).setOther (by simp <;> omega) _).setOther (by simp <;> omega) _, ((HB.out.drew.setCell (by simp <;> omega) _).setCell (by simp <;> omega) _).setCell (by simp <;> omega) _⟩
set_option maxHeartbeats 4000000 in
theorem periodS_any (n T S P : Nat) (w : World) (hP : P = 2 ^ n) (hn : 2 ≤ n) (h8 : n ≤ 8) (hT : T < P) (hS : S < P) (hr : regOK (n : Int) (T : Int) (S : Int) = true) :
    Calls Try.prog 94 #[.agg #[.int .i64 (n : Int), .int .i64 (T : Int), .int .i64 (S : Int)]] w fun e w' => e = .returned (.int .i64 (perOf n T S)) ∧ Below w.heap.size w w' := by
  have HV := Lib.hid (fun u : World => regS_any (n : Int) (T : Int) (S : Int) u)
  rw [hr] at HV
  have HWK := Lib.hid (fun u : World => walkS_any n T S P u hP hn h8 hT hS)
  have HLT := Lib.hid (fun k : Nat => stAt_lt (T := T) hP hn hS k)
  have HPE := Lib.hid hP
  have hP2 : P ≤ 256 := pow_le hP h8
  clear hP hr hT hS
  go_enter Try.func94, Try.ntmps94
  have hb := Below.refl (w.alloc (.cells #[.int .i64 (n : Int), .int .i64 (T : Int), .int .i64 (S : Int)] 98)).heap.size (w.alloc (.cells #[.int .i64 (n : Int), .int .i64 (T : Int), .int .i64 (S : Int)] 98))
  go_wp2_with fail
  refine (HV.out _).mono ?_
  rintro e w1 ⟨rfl, k⟩
  replace hb := below_next hb k
  clear k
  (try clear hc hf)
  obtain ⟨hc, hf⟩ := bcell hb
  go_wp2_with fail
  refine (HWK.out _).mono ?_
  rintro e w2 ⟨k, g, hneg, hnn, hkP, rfl, hrow, k2⟩
  replace hb := below_next hb k2
  have hlast := HLT.out k
  have hcl := hrow.cell hlast
  have hgl := hrow.lt
  have hge := seen_ge n T S P k (stAt n T S k) hlast
  have HR : Hid (perOf n T S = (k : Int) - (seenTo n T S P k).getD (stAt n T S k) 0) := Lib.hid (by unfold perOf; rw [← HPE.out]; exact perF_of hneg hnn (P + 1) 0 (Nat.zero_le _) (by omega))
  have HB := Lib.hid hb
  generalize (seenTo n T S P k).getD (stAt n T S k) 0 = v at *
  unfold intV at hcl
  generalize stAt n T S k = q at *
  clear hneg hnn hrow k2 hc hf hb
  have hcl2 : (w2.alloc (.cells #[.int .i64 (n : Int), .int .i64 (T : Int), .int .i64 (q : Int)] 98)).cell? ⟨g, q, none⟩ = some (.int .i64 v) := by
    rw [World.cell?_alloc_lt _ _ _ (by exact hgl)]; exact hcl
  go_wp2
  go_ret
  exact ⟨ret_int HR.out.symm, below_out (HB.out.alloc HB.out.size _)⟩
set_option maxHeartbeats 1000000 in
theorem maxiS_any (n T P : Nat) (w : World) (hP : P = 2 ^ n) (hn : 2 ≤ n) (h8 : n ≤ 8) (hT : T < P) (hT1 : 1 ≤ T) :
    Calls Try.prog 93 #[.int .i64 (n : Int), .int .i64 (T : Int)] w fun e w' => e = .returned (.bool (decide (perOf n T 1 = ((2 ^ n : Nat) : Int) - 1))) ∧ Below w.heap.size w w' := by
  have h4 : 4 ≤ P := by rw [hP]; exact Nat.pow_le_pow_right (show 0 < 2 by omega) (show 2 ≤ n from hn)
  have hP2 : P ≤ 256 := pow_le hP h8
  have hr : regOK (n : Int) (T : Int) ((1 : Nat) : Int) = true := by
    have e : pw (n : Int) = (P : Int) := by unfold pw; rw [Int.toNat_natCast, ← hP]
    unfold regOK tapOK
    rw [e, inB_yes (by omega) (by omega), inB_yes (by omega) (by omega), inB_yes (by omega) (by omega)]
    rfl
  have HP := Lib.hid (fun u : World => periodS_any n T 1 P u hP hn h8 hT (by omega) hr)
  have H2 : Hid (∀ u : World, Calls Try.prog 79 #[.int .i64 (n : Int)] u fun e w' => e = .returned (.int .i64 (P : Int)) ∧ u = w') := Lib.hid fun u => by rw [hP]; exact two_any n u h8
  rw [← hP]
  generalize perOf n T 1 = v at *
  clear hr hP
  go_enter Try.func93, Try.ntmps93
  go_wp2_with fail
  refine (HP.out _).mono ?_
  rintro e w1 ⟨rfl, k1⟩
  go_wp2_with fail
  refine (H2.out _).mono ?_
  rintro e w' ⟨rfl, rfl⟩
  go_wp2
  go_ret
  exact ⟨ret_bool (by simp [Bool.beq_eq_decide_eq]), below_out k1⟩
set_option maxHeartbeats 2000000 in
theorem taps_any (n P : Nat) (w : World) (hP : P = 2 ^ n) (hn : 2 ≤ n) (h8 : n ≤ 8) :
    Calls Try.prog 89 #[.int .i64 (n : Int)] w fun e w' => ∃ g cap : Nat, e = .returned (.slice (some ⟨g, 0, none⟩) (maxL n).length cap) ∧ Own w' w.heap.size 3 g (maxL n).length cap ((maxL n).map intV) ∧ Below w.heap.size w w' := by
  have hP2 : P ≤ 256 := pow_le hP h8
  have h4 : 4 ≤ P := by rw [hP]; exact Nat.pow_le_pow_right (show 0 < 2 by omega) (show 2 ≤ n from hn)
  have HM := Lib.hid (fun (T : Nat) (h1 : 1 ≤ T) (h2 : T < P) (u : World) => maxiS_any n T P u hP hn h8 h2 h1)
  have HTP : Hid (∀ (T : Nat) (u : World), 1 ≤ T → Calls Try.prog 92 #[.int .i64 (n : Int), .int .i64 (T : Int)] u fun e w' => e = .returned (.bool (decide (T < P))) ∧ u = w') := Lib.hid fun T u h1 => by
    have hh := tapS_any (n : Int) (T : Int) u
    have e : tapOK (n : Int) (T : Int) = decide (T < P) := by
      unfold tapOK pw
      rw [Int.toNat_natCast, ← hP, inB_yes (by omega) (by omega), Bool.true_and]
      unfold inB
      rw [decide_eq_true (show (1 : Int) ≤ (T : Int) by omega), Bool.true_and]
      exact decide_eq_decide.2 (by omega)
    rw [e] at hh
    exact hh
  have HE : Hid (maxL n = maxTo n P) := Lib.hid (by unfold maxL; rw [hP])
  have HN := Lib.hid (fun (k : Nat) (h : 1 ≤ k) => maxTo_next n k h)
  rw [← hP] at HM HN
  rw [HE.out]
  clear hP
  go_enter Try.func89, Try.ntmps89
  go_wp2
  go_loopw [3, 4] (fun v i wr => ∃ (k g cap : Nat), i = .int .i64 (k : Int) ∧ v = .slice (some ⟨g, 0, none⟩) (maxTo n k).length cap ∧ 1 ≤ k ∧ k ≤ P ∧ Own wr w.heap.size 3 g (maxTo n k).length cap ((maxTo n k).map intV) ∧ Below w.heap.size w wr) (fun _ i _ => P - (intOf i).toNat)
  case atStart =>
    refine ⟨1, w.heap.size, 0, rfl, by rw [maxTo_one]; rfl, Nat.le_refl _, by omega, ?_, (Below.refl _ _).alloc (Nat.le_refl _) _⟩
    rw [maxTo_one]
    exact Own.lit (w := w) (B := w.heap.size) 3 #[] 0 (Nat.le_refl _) (Nat.zero_le _) rfl
  case round =>
    obtain ⟨k, g, cap, rfl, rfl, h1, hk, hown, hb⟩ := hrel
    have hT := HTP.out k wr h1
    have hlen := maxTo_len n k
    by_cases hlt : k < P
    · have HT : Hid (∀ u : World, Calls Try.prog 92 #[.int .i64 (n : Int), .int .i64 (k : Int)] u fun e w' => e = .returned (.bool true) ∧ u = w') := Lib.hid fun u => by
        have := HTP.out k u h1
        rw [decide_eq_true hlt] at this
        exact this
      have hm := HM.out k h1 hlt
      have hnx := HN.out k h1
      clear hT
      by_cases hp : perOf n k 1 = (P : Int) - 1
      · rw [decide_eq_true hp] at hm
        rw [if_pos hp] at hnx
        have HM2 := Lib.hid hm
        have HNX := Lib.hid hnx
        clear hm hnx hp
        go_wp2_with fail
        refine (HT.out _).mono ?_
        rintro e w' ⟨rfl, rfl⟩
        go_wp2_with fail
        refine (HM2.out _).mono ?_
        rintro e w1 ⟨rfl, k1⟩
        have hown1 := hown.below k1 hown.lt.2
        have hb1 := hb.trans (k1.mono hb.size)
        clear hown hb k1
        go_wp2_with (at_builtin; refine app1 (w0 := w) 23 3 Try.underlying23 info_int rfl rfl _ _ rfl w.heap.size g (maxTo n k).length cap _ _ rfl rfl hown1 hb1 (Nat.le_refl _) rfl (by omega) (by unfold maxLen; omega) ?_; intro g2 cap2 w2 hown2 hb2)
        clear hown1 hb1
        have e : (maxTo n (k + 1)).length = (maxTo n k).length + 1 := by rw [HNX.out]; simp
        rw [← e] at hown2 ⊢
        go_wp2
        go_roundw
        case rel => exact ⟨k + 1, g2, cap2, by go_num, rfl, by omega, by omega, by rw [HNX.out] at hown2 ⊢; simpa [intV] using hown2, hb2⟩
        case measure => simp [intOf]; omega
      · rw [decide_eq_false hp] at hm
        rw [if_neg hp] at hnx
        have HM2 := Lib.hid hm
        have HNX := Lib.hid hnx
        clear hm hnx hp
        go_wp2_with fail
        refine (HT.out _).mono ?_
        rintro e w' ⟨rfl, rfl⟩
        go_wp2_with fail
        refine (HM2.out _).mono ?_
        rintro e w1 ⟨rfl, k1⟩
        have hown1 := hown.below k1 hown.lt.2
        have hb1 := hb.trans (k1.mono hb.size)
        clear hown hb k1
        go_wp2
        go_roundw
        case rel => exact ⟨k + 1, g, cap, by go_num, by rw [HNX.out], by omega, by omega, by rw [HNX.out]; exact hown1, hb1⟩
        case measure => simp [intOf]; omega
    · obtain rfl : k = P := by omega
      rw [decide_eq_false (Nat.lt_irrefl k)] at hT
      have HT := Lib.hid hT
      clear hT
      go_wp2_with fail
      refine (HT.out).mono ?_
      rintro e w' ⟨rfl, rfl⟩
      go_wp2
      go_ret
      exact ⟨g, cap, rfl, hown, hb⟩
set_option maxHeartbeats 1000000 in
theorem seqS3_any (n T P : Nat) (w : World) (hP : P = 2 ^ n) (hn : 2 ≤ n) (h8 : n ≤ 8) (hT : T < P) :
    Calls Try.prog 81 #[.int .i64 (n : Int), .int .i64 (T : Int)] w fun e w' => e = .returned (.string (str (runL n T 1 (P - 1)))) ∧ Below w.heap.size w w' := by
  have h4 : 4 ≤ P := by rw [hP]; exact Nat.pow_le_pow_right (show 0 < 2 by omega) (show 2 ≤ n from hn)
  have hP2 : P ≤ 256 := pow_le hP h8
  have HR := Lib.hid (fun u : World => runS_any n T 1 P (P - 1) u hP hn h8 hT (by omega) (by omega))
  have H2 : Hid (∀ u : World, Calls Try.prog 79 #[.int .i64 (n : Int)] u fun e w' => e = .returned (.int .i64 (P : Int)) ∧ u = w') := Lib.hid fun u => by rw [hP]; exact two_any n u h8
  obtain ⟨Q, rfl⟩ : ∃ Q, P = Q + 1 := ⟨P - 1, by omega⟩
  simp only [Nat.add_sub_cancel] at HR ⊢
  clear hP
  go_enter Try.func81, Try.ntmps81
  go_wp2_with fail
  refine (H2.out _).mono ?_
  rintro e w' ⟨rfl, rfl⟩
  go_wp2_with fail
  have e1 : ((Q + 1 : Nat) : Int) - 1 = (Q : Int) := by omega
  refine (HR.out _).mono ?_
  rintro e w1 ⟨rfl, k1⟩
  go_wp2
  go_ret
  exact ⟨rfl, k1⟩
end Go.Proofs.Ytiiiaeemblcniaa
