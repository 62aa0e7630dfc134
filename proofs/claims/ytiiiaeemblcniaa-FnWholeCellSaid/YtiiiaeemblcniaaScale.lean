/- The contract of ScaleSignal; scores and tables of scaled signals. -/
import Derived.Test.YtiiiaeemblcniaaTable
import Derived.Test.YtiiiaeemblcniaaBest
namespace Go.Proofs.Ytiiiaeemblcniaa
set_option maxRecDepth 20000
open Go.ChangeShapes Go.WideShapes Go.ChangeAt Go.RowKit
set_option linter.unusedVariables false
set_option linter.unusedSimpArgs false

/-- numbers if they are a signal -/
def okN (l : List Int) : List Int := if sigOK l then l else []
theorem okN_yes {l : List Int} (h : sigOK l = true) : okN l = l := if_pos h
theorem okN_no {l : List Int} (h : sigOK l = false) : okN l = [] := if_neg (by simp [h])
theorem sNone_any {w : World} {lo : Nat} {v : Value} {l : List Int} (h : Sl w lo w.heap.size v l) (hl : l.length ≤ 1048576) :
    Calls Try.prog 58 #[v] w fun e w' => ∃ v', e = .returned (.tuple #[v', .bool (sigOK l)]) ∧ Sl w' lo w'.heap.size v' (okN l) ∧ w = w' := by
  obtain ⟨A, c, rfl, hr, hc⟩ := h.reads
  have HV := Lib.hid (sigI_any A c l w hr hl)
  cases hv : sigOK l
  · rw [hv] at HV
    rw [okN_no hv]
    go_enter Try.func58, Try.ntmps58
    go_wp2_with fail
    refine (HV.out).mono ?_
    rintro e w' ⟨rfl, rfl⟩
    go_wp2
    go_ret2
    exact ⟨_, rfl, Sl.nil _ _ _, rfl⟩
  · rw [hv] at HV
    rw [okN_yes hv]
    have HS := Lib.hid h
    clear h
    go_enter Try.func58, Try.ntmps58
    go_wp2_with fail
    refine (HV.out).mono ?_
    rintro e w' ⟨rfl, rfl⟩
    go_wp2
    go_ret2
    exact ⟨_, rfl, HS.out, rfl⟩
theorem blk_add (a : Addr) (j : Nat) : (a.add j).block = a.block := by unfold Addr.add; split <;> rfl
/-- a signal times a gain -/
def mulL (z : List Int) (g : Int) : List Int := z.map (g * ·)
def scOK (z : List Int) (g : Int) : Bool := sigOK z && inB g (-1000000) 1000000 && sigOK (mulL z g)
def scL (z : List Int) (g : Int) : List Int := if scOK z g then mulL z g else []
theorem scL_yes {z : List Int} {g : Int} (h : scOK z g = true) : scL z g = mulL z g := if_pos h
theorem scL_no {z : List Int} {g : Int} (h : scOK z g = false) : scL z g = [] := if_neg (by simp [h])
theorem sc_parts {z : List Int} {g : Int} (h : scOK z g = true) : sigOK z = true ∧ sigOK (mulL z g) = true := by
  unfold scOK at h
  simp only [Bool.and_eq_true] at h
  exact ⟨h.1.1, h.2⟩
theorem mul_getD (z : List Int) (g : Int) (k : Nat) : (mulL z g).getD k 0 = g * z.getD k 0 := by
  unfold mulL
  simp only [List.getD_eq_getElem?_getD, List.getElem?_map]
  cases z[k]? <;> simp
theorem scT_mul (z : List Int) (g : Int) (l : List UInt8) (m off fr : Nat) : ∀ k, scT (mulL z g) l m off fr k = g * scT z l m off fr k
  | 0 => by simp [scT]
  | k + 1 => by rw [scT, scT, scT_mul z g l m off fr k, mul_getD, Int.mul_add, Int.mul_assoc]
theorem score_mul (z : List Int) (g : Int) (l : List UInt8) (m off fr : Nat) : score (mulL z g) l m off fr = g * score z l m off fr := scT_mul _ _ _ _ _ _ _
theorem tab_mul (z : List Int) (g : Int) (l : List UInt8) (m : Nat) : tabL (mulL z g) l m = mulL (tabL z l m) g := by
  unfold tabL
  show _ = (List.map _ _).map _
  rw [List.map_map]
  exact List.map_congr_left fun off _ => score_mul z g l m off 0
theorem best_mul (l : List Int) (g : Int) (hg : 0 < g) : ∀ k, bestN (mulL l g) k = bestN l k
  | 0 => rfl
  | k + 1 => by
    rw [bestN, bestN, best_mul l g hg k, mul_getD, mul_getD]
    simp only [Int.mul_lt_mul_left hg]
theorem best_spec (l : List Int) : ∀ n i, i ≤ n → l.getD i 0 ≤ l.getD (bestN l n) 0 ∧ (i < bestN l n → l.getD i 0 < l.getD (bestN l n) 0)
  | 0, i, h => by
    obtain rfl : i = 0 := by omega
    exact ⟨Int.le_refl _, fun h => by simp [bestN] at h⟩
  | n + 1, i, h => by
    rw [bestN]
    split
    · rename_i hlt
      by_cases he : i = n + 1
      · subst he
        exact ⟨Int.le_refl _, fun h => by omega⟩
      · have := best_spec l n i (by omega)
        exact ⟨by omega, fun _ => by omega⟩
    · rename_i hlt
      by_cases he : i = n + 1
      · subst he
        have := bestN_le l n
        exact ⟨by omega, fun h => by omega⟩
      · exact best_spec l n i (by omega)
set_option maxHeartbeats 2000000 in
theorem scaleI_any (A : Option Addr) (c : Nat) (z : List Int) (g : Int) (w : World) (hr : Reads w w.heap.size A z) (hl : z.length ≤ 1048576) :
    Calls Try.prog 50 #[.slice A z.length c, .int .i64 g] w (RetLB (scL z g) (scOK z g) w) := by
  have HR := Lib.hid hr
  clear hr
  cases hz : sigOK z
  · have e : scOK z g = false := by unfold scOK; rw [hz]; rfl
    rw [scL_no e, e]
    clear e
    go_enter Try.func50, Try.ntmps50
    go_wp2_with fail
    refine (sigI_any _ _ _ _ HR.out hl).mono ?_
    rintro e w' ⟨rfl, rfl⟩
    go_wp2
    go_ret2
    exact RetLB.mk (Sl.nil _ _ _) (Below.refl _ _)
  · cases hg : inB g (-1000000) 1000000
    · have e : scOK z g = false := by unfold scOK; rw [hz, hg]; rfl
      rw [scL_no e, e]
      have hq : g < -1000000 ∨ ¬ g < -1000000 ∧ 1000000 < g := by unfold inB at hg; simp only [Bool.and_eq_false_iff, decide_eq_false_iff_not] at hg; omega
      clear e hg
      rcases hq with h | ⟨h, h'⟩
      · have d1 : decide (g < -1000000) = true := decide_eq_true h
        go_enter Try.func50, Try.ntmps50
        go_wp2_with fail
        refine (sigI_any _ _ _ _ HR.out hl).mono ?_
        rintro e w' ⟨rfl, rfl⟩
        go_wp2
        go_ret2
        exact RetLB.mk (Sl.nil _ _ _) (Below.refl _ _)
      · have d1 : decide (g < -1000000) = false := decide_eq_false h
        have d2 : decide ((1000000 : Int) < g) = true := decide_eq_true h'
        go_enter Try.func50, Try.ntmps50
        go_wp2_with fail
        refine (sigI_any _ _ _ _ HR.out hl).mono ?_
        rintro e w' ⟨rfl, rfl⟩
        go_wp2
        go_ret2
        exact RetLB.mk (Sl.nil _ _ _) (Below.refl _ _)
    · have hgb : -1000000 ≤ g ∧ g ≤ 1000000 := by unfold inB at hg; simp only [Bool.and_eq_true, decide_eq_true_eq] at hg; omega
      obtain ⟨hg1, hg2⟩ := hgb
      have d1 : decide (g < -1000000) = false := decide_eq_false (by omega)
      have d2 : decide ((1000000 : Int) < g) = false := decide_eq_false (by omega)
      have e : scOK z g = sigOK (mulL z g) := by unfold scOK; rw [hz, hg]; rfl
      have e2 : scL z g = okN (mulL z g) := by unfold scL okN; rw [e]
      rw [e, e2]
      have HZ := Lib.hid hz
      have hz3 := sig_len hz
      obtain ⟨N, hN⟩ : ∃ N, N = z.length := ⟨_, rfl⟩
      have HN := Lib.hid hN
      have HSG := Lib.hid (fun u (hu : Reads u u.heap.size A z) => sigI_any A c z u hu hl)
      rw [← hN] at hl hz3
      have hmk := fun u => run_make_row' (P := Try.prog) 23 3 (.int .i64 0) 8 Try.underlying23 info_int rfl .i64 .i64 N (by omega) (by omega) u
      rw [← hN] at HSG
      rw [hz] at HSG
      rw [← hN]
      clear e e2 hg hz hN
      go_enter Try.func50, Try.ntmps50
      go_wp2_with fail
      refine (HSG.out _ HR.out).mono ?_
      rintro e w' ⟨rfl, rfl⟩
      go_wp2
      go_loopw [7, 8, 25] (fun _ _ i wr => ∃ k : Nat, k ≤ N ∧ i = .int .i64 k ∧ wr.rowIs w.heap.size 3 N (fun j => if j < k then intV (g * z.getD j 0) else .int .i64 0) ∧ Below w.heap.size w wr) (fun _ _ i _ => N - (intOf i).toNat)
      case atStart => exact ⟨0, Nat.zero_le _, rfl, (World.rowIs_made w _ _ _).congr (fun _ _ => rfl), (Below.refl _ _).alloc (Nat.le_refl _) _⟩
      case round =>
        clear hmk
        obtain ⟨k, hk, rfl, hrow, hb⟩ := hrel
        by_cases hlt : k < N
        · obtain ⟨ad, rfl, hadb, hcell⟩ := HR.out (by rw [← HN.out]; omega)
          have c2 := hcell k (by rw [← HN.out]; omega)
          have hx := sig_at HZ.out k
          have hc := hrow.cell hlt
          have hf := hrow.frozen k
          simp only [Nat.lt_irrefl, if_false] at hc
          have c1 : wr.cell? (ad.add k) = some (.int .i64 (z.getD k 0)) := by rw [hb.cell (by rw [blk_add]; exact hadb)]; exact c2
          obtain ⟨x, hxe⟩ : ∃ x, x = z.getD k 0 := ⟨_, rfl⟩
          rw [← hxe] at c1 hx
          have hprod : -1000000000000 ≤ g * x ∧ g * x ≤ 1000000000000 := by
            have h1 : (g * x).natAbs ≤ 1000000 * 1000000 := by rw [Int.natAbs_mul]; exact Nat.mul_le_mul (by omega) (by omega)
            omega
          obtain ⟨p1, p2⟩ := hprod
          have HXE := Lib.hid hxe
          clear hxe c2 hcell
          go_wp2
          go_roundw
          case rel => exact ⟨k + 1, by omega, by go_num, row_next hrow (by rw [HXE.out]; rfl), hb.setCell (by simp) _⟩
          case measure => simp [intOf]; omega
        · obtain rfl : k = N := by omega
          have hsl : Sl wr w.heap.size wr.heap.size (.slice (some ⟨w.heap.size, 0, none⟩) k k) ((List.range k).map fun j => g * z.getD j 0) := sl_of_row hrow (Nat.le_refl _) (by omega)
          have hml : ((List.range k).map fun j => g * z.getD j 0) = mulL z g := by
            unfold mulL
            apply List.ext_getElem
            · simp [HN.out]
            · intro j h1 h2
              simp at h2
              simp [List.getD_eq_getElem?_getD, h2]
          rw [hml] at hsl
          have HSL := Lib.hid hsl
          have hlen : (mulL z g).length ≤ 1048576 := by rw [mulL, List.length_map, ← HN.out]; omega
          clear hsl hml
          go_wp2_with fail
          refine (sNone_any HSL.out hlen).mono ?_
          rintro e w3 ⟨v3, rfl, hs4, rfl⟩
          have HS4 := Lib.hid hs4
          clear hs4
          go_wp2
          go_ret2
          exact RetLB.mk HS4.out hb
end Go.Proofs.Ytiiiaeemblcniaa
