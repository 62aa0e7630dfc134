/- Contracts of the helpers of the laws that compare numbers and take the samples of a pilot. -/
import Derived.Test.YtiiiaeemblcniaaPsig
namespace Go.Proofs.Ytiiiaeemblcniaa
set_option maxRecDepth 20000
open Go.ChangeShapes Go.WideShapes Go.ChangeAt Go.RowKit
set_option linter.unusedVariables false
set_option linter.unusedSimpArgs false

theorem eq_all' {la lb : List Int} (hl : la.length = lb.length) (h : ∀ j, j < la.length → la.getD j 0 = lb.getD j 0) : la = lb := by
  apply List.ext_getElem hl
  intro i h1 h2
  have := h i h1
  rw [List.getD_eq_getElem?_getD, List.getD_eq_getElem?_getD, List.getElem?_eq_getElem h1, List.getElem?_eq_getElem h2] at this
  exact this
set_option maxHeartbeats 400000 in
theorem ssIntsI_any (A A' : Option Addr) (c c' : Nat) (la lb : List Int) (w : World) (ha : Reads w w.heap.size A la) (hb : Reads w w.heap.size A' lb) (hl : la.length ≤ 1048576) (hl' : lb.length ≤ 1048576) :
    Calls Try.prog 23 #[.slice A la.length c, .slice A' lb.length c'] w fun e w' => e = .returned (.bool (decide (la = lb))) ∧ Below w.heap.size w w' := by
  by_cases hlen : la.length = lb.length
  · have d1 : ((la.length : Int) != (lb.length : Int)) = false := by simp [hlen]
    have HA := Lib.hid ha
    have HB := Lib.hid hb
    have HL := Lib.hid hlen
    clear ha hb hlen
    go_enter Try.func23, Try.ntmps23
    go_wp2
    go_loopw [5] (fun i wr => ∃ k : Nat, k ≤ la.length ∧ i = .int .i64 k ∧ (∀ j, j < k → la.getD j 0 = lb.getD j 0) ∧ Below w.heap.size w wr) (fun i _ => la.length - (intOf i).toNat)
    case atStart => exact ⟨0, Nat.zero_le _, rfl, fun j hj => absurd hj (by omega), Below.refl _ _⟩
    case round =>
      obtain ⟨k, hk, rfl, hall, hbl⟩ := hrel
      have HE := Lib.hid hall
      clear hall
      by_cases hlt : k < la.length
      · have hlt2 : k < lb.length := by have := HL.out; omega
        obtain ⟨ad, rfl, hbk, hcell⟩ := (HA.out.below hbl (Nat.le_refl _)).at_ hlt
        obtain ⟨ad', rfl, hbk', hcell'⟩ := (HB.out.below hbl (Nat.le_refl _)).at_ hlt2
        obtain ⟨x, hx⟩ : ∃ x, x = la.getD k 0 := ⟨_, rfl⟩
        obtain ⟨y, hy⟩ : ∃ y, y = lb.getD k 0 := ⟨_, rfl⟩
        rw [← hx] at hcell
        rw [← hy] at hcell'
        have HX := Lib.hid hx
        have HY := Lib.hid hy
        clear hx hy
        by_cases hxy : x = y
        · have b1 : (x != y) = false := by simp [hxy]
          have HXY := Lib.hid hxy
          clear hxy
          go_wp2
          refine wp_region_still_lit (by kernel_rfl) (by kernel_rfl) ?_
          repeat (refine wpStill_step (fun K hK => ?_); (try go_simp); (try simp only [IntWalk.iteOmega]); (try go_ints); (try simp (disch := omega) only [dif_pos]); (try go_simp); refine hK _ ?_; clear hK K)
          refine wpStill_nil ?_
          go_wp2
          go_roundw
          case rel => exact ⟨k + 1, by omega, by go_num, fun j hj => by
                              rcases Nat.lt_or_ge j k with h | h
                              · exact HE.out j h
                              · obtain rfl : j = k := by omega
                                rw [← HX.out, ← HY.out, HXY.out], hbl.drew⟩
          case measure => simp [intOf]; omega
        · have b1 : (x != y) = true := by simp [hxy]
          have HXY := Lib.hid hxy
          clear hxy
          go_wp2
          refine wp_region_still_lit (by kernel_rfl) (by kernel_rfl) ?_
          repeat (refine wpStill_step (fun K hK => ?_); (try go_simp); (try simp only [IntWalk.iteOmega]); (try go_ints); (try simp (disch := omega) only [dif_pos]); (try go_simp); refine hK _ ?_; clear hK K)
          refine wpStill_nil ?_
          go_wp2
          go_ret
          exact ⟨ret_bool (decide_eq_false fun e => HXY.out (by rw [HX.out, HY.out, e])).symm, hbl.drew⟩
      · obtain rfl : k = la.length := by omega
        go_wp2
        go_ret
        exact ⟨ret_bool (decide_eq_true (eq_all' HL.out HE.out)).symm, hbl⟩
  · have d1 : ((la.length : Int) != (lb.length : Int)) = true := by simp; omega
    have e : decide (la = lb) = false := decide_eq_false fun e => hlen (by rw [e])
    rw [e]
    clear e hlen
    go_enter Try.func23, Try.ntmps23
    go_wp2
    go_ret
    exact ⟨rfl, Below.refl _ _⟩
/-- two slices that the law holds have the same numbers -/
theorem ssIntsS_any {w : World} {lo hi lo' hi' : Nat} {v v' : Value} {l : List Int} (h : Sl w lo hi v l) (h' : Sl w lo' hi' v' l) (hh : hi ≤ w.heap.size) (hh' : hi' ≤ w.heap.size) (hl : l.length ≤ 1048576) :
    Calls Try.prog 23 #[v, v'] w fun e w' => e = .returned (.bool true) ∧ Below w.heap.size w w' := by
  obtain ⟨A, c, rfl, hr, _⟩ := h.reads
  obtain ⟨A', c', rfl, hr', _⟩ := h'.reads
  refine (ssIntsI_any A A' c c' l l w (hr.more hh) (hr'.more hh') hl hl).mono fun e w' ⟨he, hb⟩ => ⟨by rw [he]; simp, hb⟩
end Go.Proofs.Ytiiiaeemblcniaa
