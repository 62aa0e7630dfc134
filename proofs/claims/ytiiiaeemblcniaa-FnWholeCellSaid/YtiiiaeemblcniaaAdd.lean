/- The contract of AddSignals; scores of sums. -/
import Derived.Test.YtiiiaeemblcniaaDrawA
import Derived.Test.YtiiiaeemblcniaaScale
namespace Go.Proofs.Ytiiiaeemblcniaa
set_option maxRecDepth 20000
open Go.ChangeShapes Go.WideShapes Go.ChangeAt Go.RowKit
set_option linter.unusedVariables false
set_option linter.unusedSimpArgs false

/-- the sum of two signals -/
def adL (a b : List Int) : List Int := (List.range (max a.length b.length)).map fun j => a.getD j 0 + b.getD j 0
theorem adL_len (a b : List Int) : (adL a b).length = max a.length b.length := by simp [adL]
theorem adL_getD (a b : List Int) (k : Nat) : (adL a b).getD k 0 = a.getD k 0 + b.getD k 0 := by
  by_cases h : k < max a.length b.length
  · unfold adL; simp [List.getD_eq_getElem?_getD, h]
  · have h1 : a.getD k 0 = 0 := by rw [List.getD_eq_getElem?_getD, List.getElem?_eq_none (by omega)]; rfl
    have h2 : b.getD k 0 = 0 := by rw [List.getD_eq_getElem?_getD, List.getElem?_eq_none (by omega)]; rfl
    rw [h1, h2, List.getD_eq_getElem?_getD, List.getElem?_eq_none (by rw [adL_len]; omega)]; rfl
theorem scT_ad (a b : List Int) (l : List UInt8) (m off fr : Nat) : ∀ k, scT (adL a b) l m off fr k = scT a l m off fr k + scT b l m off fr k
  | 0 => by simp [scT]
  | k + 1 => by rw [scT, scT, scT, scT_ad a b l m off fr k, adL_getD, Int.add_mul]; omega
theorem score_ad (a b : List Int) (l : List UInt8) (m off fr : Nat) : score (adL a b) l m off fr = score a l m off fr + score b l m off fr := scT_ad _ _ _ _ _ _ _
def asOK (a b : List Int) : Bool := sigOK a && sigOK b && sigOK (adL a b)
def asL (a b : List Int) : List Int := if asOK a b then adL a b else []
theorem asL_yes {a b : List Int} (h : asOK a b = true) : asL a b = adL a b := if_pos h
theorem asL_no {a b : List Int} (h : asOK a b = false) : asL a b = [] := if_neg (by simp [h])
theorem as_sig {a b : List Int} (h : asOK a b = true) : sigOK (adL a b) = true := by unfold asOK at h; simp only [Bool.and_eq_true] at h; exact h.2
set_option maxHeartbeats 2000000 in
theorem addI_any (A C : Option Addr) (ca cb : Nat) (a b : List Int) (w : World) (ha : Reads w w.heap.size A a) (hb : Reads w w.heap.size C b) (hla : a.length ≤ 1048576) (hlb : b.length ≤ 1048576) :
    Calls Try.prog 28 #[.slice A a.length ca, .slice C b.length cb] w (RetLB (asL a b) (asOK a b) w) := by
  have HA := Lib.hid ha
  have HB := Lib.hid hb
  clear ha hb
  cases hz : sigOK a
  · have e : asOK a b = false := by unfold asOK; rw [hz]; rfl
    rw [asL_no e, e]
    clear e
    go_enter Try.func28, Try.ntmps28
    go_wp2_with fail
    refine (sigI_any _ _ _ _ HA.out hla).mono ?_
    rintro e w' ⟨rfl, rfl⟩
    go_wp2
    go_ret2
    exact RetLB.mk (Sl.nil _ _ _) (Below.refl _ _)
  · cases hy : sigOK b
    · have e : asOK a b = false := by unfold asOK; rw [hz, hy]; rfl
      rw [asL_no e, e]
      clear e
      go_enter Try.func28, Try.ntmps28
      go_wp2_with fail
      refine (sigI_any _ _ _ _ HA.out hla).mono ?_
      rintro e w' ⟨rfl, rfl⟩
      go_wp2_with fail
      refine (sigI_any _ _ _ _ HB.out hlb).mono ?_
      rintro e w' ⟨rfl, rfl⟩
      go_wp2
      go_ret2
      exact RetLB.mk (Sl.nil _ _ _) (Below.refl _ _)
    · have e : asOK a b = sigOK (adL a b) := by unfold asOK; rw [hz, hy]; rfl
      have e2 : asL a b = okN (adL a b) := by unfold asL okN; rw [e]
      rw [e, e2]
      have hz3 := sig_len hz
      have hy3 := sig_len hy
      have HZA := Lib.hid hz
      have HZB := Lib.hid hy
      have HSA := Lib.hid (sigI_any A ca a w HA.out hla)
      have HSB := Lib.hid (sigI_any C cb b w HB.out hlb)
      rw [hz] at HSA
      rw [hy] at HSB
      obtain ⟨la, hla'⟩ : ∃ la, la = a.length := ⟨_, rfl⟩
      obtain ⟨lb, hlb'⟩ : ∃ lb, lb = b.length := ⟨_, rfl⟩
      have EA := Lib.hid hla'.symm
      have EB := Lib.hid hlb'.symm
      rw [← hla'] at hz3 HSA ⊢
      rw [← hlb'] at hy3 HSB ⊢
      obtain ⟨n, hn⟩ : ∃ n, n = max la lb := ⟨_, rfl⟩
      have HN := Lib.hid hn.symm
      have hna : la ≤ n := by omega
      have hnb : lb ≤ n := by omega
      have hn2 : n ≤ 20000 := by omega
      have hmk := fun u => run_make_row' (P := Try.prog) 23 3 (.int .i64 0) 8 Try.underlying23 info_int rfl .i64 .i64 n (by omega) (by omega) u
      obtain ⟨c, hc, hcs, hcz⟩ := World.rowIs_made w (.int .i64 0) n 3
      have hbW : Below w.heap.size w (w.alloc (.cells (madeCells #[.int .i64 0] n) 3)) := (Below.refl _ _).alloc (Nat.le_refl _) _
      have HBW := Lib.hid hbW
      have HC := Lib.hid hc
      have HZ := Lib.hid hcz
      clear hbW hc hcz hn e e2 hz hy hla' hlb' hla hlb
      rcases (show (la < lb ∧ lb = n) ∨ (¬ la < lb ∧ la = n) by have := HN.out; omega) with ⟨hab, rfl⟩ | ⟨hab, rfl⟩
      all_goals
        go_enter Try.func28, Try.ntmps28
        go_wp2_with fail
        refine (HSA.out).mono ?_
        rintro e w' ⟨rfl, rfl⟩
        go_wp2_with fail
        refine (HSB.out).mono ?_
        rintro e w' ⟨rfl, rfl⟩
        go_wp2_with (refine wpList_copy_splice rfl _ _ _ _ rfl 3 Try.underlying23 rfl _ _ _ _ _ _ rfl rfl w.heap.size 0 c.toList 3 (by simpa using HC.out) (a.map intV) (by rw [List.length_map, EA.out]; exact (Nat.min_eq_left hna).symm) (fun hp => ⟨rfl, by have hp2 : 0 < a.length := by { rw [List.length_map] at hp; exact hp }; obtain ⟨ad, h1, h2, h3⟩ := HA.out hp2; refine ⟨ad, h1, fun j v hv => ?_⟩; rw [List.getElem?_map] at hv; obtain ⟨y, hy, rfl⟩ := Option.map_eq_some_iff.1 hv; have hj : j < a.length := by { by_cases hj : j < a.length; exact hj; rw [List.getElem?_eq_none (by omega)] at hy; cases hy }; rw [HBW.out.cell (by rw [add_block]; exact h2), h3 j hj, List.getD_eq_getElem?_getD, hy]; rfl⟩) (by rw [List.length_map, EA.out, Array.length_toList, hcs]; omega) (by intro v hv; obtain ⟨y, _, rfl⟩ := List.mem_map.1 hv; rfl) w.heap.size w HBW.out (Nat.le_refl _) ?_; intro w2 hs2 hb2)
        have hrow := splice_row hcs HZ.out (by rw [EA.out]; exact hna) hs2.out
        clear hs2 HC
        go_loopw [7, 8, 28] (fun _ _ i wr => ∃ k : Nat, k ≤ lb ∧ i = .int .i64 k ∧ wr.rowIs w.heap.size 3 (max la lb) (fun j => intV (if j < k then a.getD j 0 + b.getD j 0 else a.getD j 0)) ∧ Below w.heap.size w wr) (fun _ _ i _ => lb - (intOf i).toNat)
        case atStart => exact ⟨0, Nat.zero_le _, rfl, by rw [HN.out]; exact hrow.congr (fun _ _ => rfl), hb2⟩
        case round =>
          clear hrow hb2
          obtain ⟨k, hk, rfl, hrow, hb⟩ := hrel
          by_cases hlt : k < lb
          · have hkn : k < max la lb := by omega
            rw [HN.out] at hkn
            have bx := sig_at HZA.out k
            have by_ := sig_at HZB.out k
            obtain ⟨x, hx⟩ : ∃ x, x = a.getD k 0 := ⟨_, rfl⟩
            obtain ⟨y, hy⟩ : ∃ y, y = b.getD k 0 := ⟨_, rfl⟩
            rw [← hx] at bx
            rw [← hy] at by_
            have hc : wr.cell? ⟨w.heap.size, k, none⟩ = some (.int .i64 x) := by rw [hrow.cell (i := k) (by omega)]; show some (intV _) = _; rw [if_neg (Nat.lt_irrefl k), ← hx]; rfl
            have hf := hrow.frozen k
            obtain ⟨ad, rfl, hadb, hcell⟩ := HB.out (by rw [EB.out]; omega)
            have hd : wr.cell? (ad.add k) = some (.int .i64 y) := by rw [hb.cell (by rw [add_block]; exact hadb), hy]; exact hcell k (by rw [EB.out]; exact hlt)
            have HX := Lib.hid hx
            have HY := Lib.hid hy
            have HR := Lib.hid hrow
            clear hcell hx hy hrow
            go_wp2
            go_roundw
            case rel =>
              have hfin : (wr.setCell ⟨w.heap.size, k, none⟩ (.int .i64 (x + y))).rowIs w.heap.size 3 (max la lb) (fun j => intV (if j < k + 1 then a.getD j 0 + b.getD j 0 else a.getD j 0)) := by
                refine World.rowIs.congr (HR.out.set k (.int .i64 (x + y))) (fun j _ => ?_)
                by_cases hj : j = k
                · subst hj
                  rw [if_pos rfl, if_pos (Nat.lt_succ_self _), HX.out, HY.out]; rfl
                · rw [if_neg hj]
                  by_cases hj2 : j < k
                  · rw [if_pos hj2, if_pos (by omega)]
                  · rw [if_neg hj2, if_neg (by omega)]
              exact ⟨k + 1, by omega, by go_num, hfin, hb.setCell (Nat.le_refl _) _⟩
            case measure => simp [intOf]; omega
          · obtain rfl : k = lb := by omega
            have hsl := sl_of_row (lo := w.heap.size) (f := fun j => if j < k then a.getD j 0 + b.getD j 0 else a.getD j 0) (hrow.congr (fun j hj => by rw [if_pos hj])) (Nat.le_refl _) (by omega)
            have hml : ((List.range (max la k)).map fun j => if j < k then a.getD j 0 + b.getD j 0 else a.getD j 0) = adL a b := by
              unfold adL
              rw [EA.out, EB.out]
              apply List.map_congr_left
              intro j _
              split
              · rfl
              · have h2 : b.getD j 0 = 0 := by rw [List.getD_eq_getElem?_getD, List.getElem?_eq_none (by rw [EB.out]; omega)]; rfl
                rw [h2, Int.add_zero]
            rw [hml, HN.out] at hsl
            have HSL := Lib.hid hsl
            have hlen : (adL a b).length ≤ 1048576 := by rw [adL_len, EA.out, EB.out]; omega
            clear hsl hml hrow
            go_wp2_with fail
            refine (sNone_any HSL.out hlen).mono ?_
            rintro e w3 ⟨v3, rfl, hs4, rfl⟩
            have HS4 := Lib.hid hs4
            clear hs4
            go_wp2
            go_ret2
            exact RetLB.mk HS4.out hb
end Go.Proofs.Ytiiiaeemblcniaa
