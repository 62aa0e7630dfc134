/- Contracts of BestOffset. -/
import Derived.Test.YtmecbiphejjkmaaTable
import Derived.Deep.QuietTactic
import Derived.BigQuiet
namespace Go.Proofs.Ytmecbiphejjkmaa
set_option maxRecDepth 20000
open Go.ChangeShapes Go.WideShapes Go.ChangeAt Go.RowKit
set_option linter.unusedVariables false
set_option linter.unusedSimpArgs false

/-- the index of the first one of the greatest among the first k + 1 numbers -/
def bestN (l : List Int) : Nat → Nat
  | 0 => 0
  | k + 1 => if l.getD (bestN l k) 0 < l.getD (k + 1) 0 then k + 1 else bestN l k
theorem bestN_le (l : List Int) (k : Nat) : bestN l k ≤ k := by
  induction k with
  | zero => exact Nat.le_refl _
  | succ k ih => simp only [bestN]; split <;> omega
def bestI (l : List Int) : Int := if l.length = 0 then -1 else (bestN l (l.length - 1) : Int)
/-- the best one before the round k -/
def bestAt (l : List Int) (k : Nat) : Int := if k = 0 then -1 else (bestN l (k - 1) : Int)
theorem bestAt_end (l : List Int) : bestAt l l.length = bestI l := rfl
theorem best_step (l : List Int) (k b : Nat) (hk : 1 ≤ k) (hb : b = bestN l (k - 1)) : bestAt l (k + 1) = if l.getD b 0 < l.getD k 0 then (k : Int) else (b : Int) := by
  obtain ⟨j, rfl⟩ : ∃ j, k = j + 1 := ⟨k - 1, by omega⟩
  rw [Nat.add_sub_cancel] at hb
  show ((bestN l (j + 1) : Nat) : Int) = _
  rw [bestN, ← hb]
  split <;> rfl
set_option maxHeartbeats 1000000 in
theorem great_any (A : Option Addr) (c : Nat) (l : List Int) (w : World) (hr : Reads w w.heap.size A l) (hl : l.length ≤ 1048576) :
    Calls Try.prog 63 #[.slice A l.length c] w fun e w' => e = .returned (.int .i64 (bestI l)) ∧ w = w' := by
  have HR := Lib.hid hr
  clear hr
  go_enter Try.func63, Try.ntmps63
  go_wp2
  go_loop [3, 4, 5, 8] (fun b _ _ i => ∃ k : Nat, k ≤ l.length ∧ i = .int .i64 k ∧ b = .int .i64 (bestAt l k)) (fun _ _ _ i => l.length - (intOf i).toNat)
  case atStart => exact ⟨0, Nat.zero_le _, rfl, rfl⟩
  case round =>
    obtain ⟨k, hk, rfl, rfl⟩ := hrel
    by_cases hlt : k < l.length
    · obtain ⟨ad, rfl, hbk, hcell⟩ := HR.out.at_ hlt
      by_cases h0 : k = 0
      · subst h0
        have HB : Hid (bestAt l (0 + 1) = 0) := rfl
        have e1 : bestAt l 0 = -1 := rfl
        rw [e1]
        clear e1
        obtain ⟨x, hx⟩ : ∃ x, x = l.getD 0 0 := ⟨_, rfl⟩
        rw [← hx] at hcell
        clear hx
        have hcell0 : w.cell? ad = some (.int .i64 x) := by simpa [Addr.add] using hcell
        go_wp2
        go_round
        case rel => exact ⟨0 + 1, by omega, by go_num, by rw [HB.out]; rfl⟩
        case measure => simp [intOf]; omega
      · have hk1 : 1 ≤ k := by omega
        have hbl := bestN_le l (k - 1)
        obtain ⟨b, hbe⟩ : ∃ b, b = bestN l (k - 1) := ⟨_, rfl⟩
        obtain ⟨ad', e', _, hcb⟩ := HR.out.at_ (k := b) (by omega)
        injection e' with e'
        subst e'
        have e1 : bestAt l k = (b : Int) := by rw [hbe]; exact if_neg h0
        rw [e1]
        have HN := Lib.hid (best_step l k b hk1 hbe)
        rw [← hbe] at hbl
        obtain ⟨x, hx⟩ : ∃ x, x = l.getD k 0 := ⟨_, rfl⟩
        obtain ⟨y, hy⟩ : ∃ y, y = l.getD b 0 := ⟨_, rfl⟩
        rw [← hx] at hcell HN
        rw [← hy] at hcb HN
        clear hx hy hbe e1
        by_cases hxy : y < x
        · have HN2 : Hid (bestAt l (k + 1) = (k : Int)) := by have := HN.out; rw [if_pos hxy] at this; exact this
          go_wp2
          go_round
          case rel => exact ⟨k + 1, by omega, by go_num, by rw [HN2.out]⟩
          case measure => simp [intOf]; omega
        · have HN2 : Hid (bestAt l (k + 1) = (b : Int)) := by have := HN.out; rw [if_neg hxy] at this; exact this
          go_wp2
          go_round
          case rel => exact ⟨k + 1, by omega, by go_num, by rw [HN2.out]⟩
          case measure => simp [intOf]; omega
    · obtain rfl : k = l.length := by omega
      go_wp2
      go_ret
      exact ⟨rfl, rfl⟩
theorem bestI_any (A : Option Addr) (c : Nat) (z : List Int) (s : ByteArray) (n : Int) (w : World) (hr : Reads w w.heap.size A z) (hl : z.length ≤ 1048576) (hs : s.size ≤ maxLen) :
    Calls Try.prog 35 #[.slice A z.length c, .agg #[.string s, .int .i64 n]] w fun e w' => e = .returned (.int .i64 (bestI (tableL z s n))) ∧ Below w.heap.size w w' := by
  have HR := Lib.hid hr
  clear hr
  go_enter Try.func35, Try.ntmps35
  have hb := Below.refl (w.alloc (.cells #[.string s, .int .i64 n] 25)).heap.size (w.alloc (.cells #[.string s, .int .i64 n] 25))
  go_wp2_with fail
  refine (tabI_any _ _ _ _ _ _ (reads_up HR.out hb) hl hs).mono ?_
  rintro e w1 ⟨v, rfl, hv, k⟩
  replace hb := below_next hb k
  obtain ⟨A', c', rfl, hr'⟩ := sl_in hv (Nat.le_refl _)
  have hlen := tableL_len z s n
  go_wp2_with fail
  refine (great_any _ _ _ _ hr' (by omega)).mono ?_
  rintro e w' ⟨rfl, rfl⟩
  go_wp2
  go_ret
  exact ⟨rfl, below_out hb⟩
set_option maxHeartbeats 1000000 in
theorem bestS_any (A : Option Addr) (c : Nat) (z : List Int) (s : ByteArray) (n : Int) (w : World) (hr : Reads w w.heap.size A z) (hl : z.length ≤ 1048576) (hs : s.size ≤ maxLen) :
    Calls Try.prog 36 #[.slice A z.length c, .agg #[.string s, .int .i64 n]] w fun e w' => e = .returned (.int .i64 (bestI (tableL z s n))) ∧ Below w.heap.size w w' := by
  have HR := Lib.hid hr
  clear hr
  have hlen := tableL_len z s n
  obtain ⟨l, hle⟩ : ∃ l, l = tableL z s n := ⟨_, rfl⟩
  have HT : Hid (∀ u : World, Below (w.alloc (.cells #[.string s, .int .i64 n] 25)).heap.size (w.alloc (.cells #[.string s, .int .i64 n] 25)) u → Calls Try.prog 13 #[.slice A z.length c, .agg #[.string s, .int .i64 n]] u (RetL l u)) := fun u hu => by
    rw [hle]; exact tabS_any _ _ _ _ _ _ (reads_up HR.out hu) hl hs
  rw [← hle] at hlen ⊢
  clear hle
  go_enter Try.func36, Try.ntmps36
  have hb := Below.refl (w.alloc (.cells #[.string s, .int .i64 n] 25)).heap.size (w.alloc (.cells #[.string s, .int .i64 n] 25))
  go_wp2_with fail
  refine (HT.out _ hb).mono ?_
  rintro e w1 ⟨v, rfl, hv, k⟩
  replace hb := below_next hb k
  obtain ⟨A', c', rfl, hr'⟩ := sl_in hv (Nat.le_refl _)
  have HR' := Lib.hid hr'
  clear hr' hv k
  go_wp2
  go_loopw [6, 7] (fun b i wr => ∃ k : Nat, k ≤ l.length ∧ i = .int .i64 k ∧ b = .int .i64 (bestAt l k) ∧ Below w1.heap.size w1 wr) (fun _ i _ => l.length - (intOf i).toNat)
  case atStart => exact ⟨0, Nat.zero_le _, rfl, rfl, Below.refl _ _⟩
  case round =>
    obtain ⟨k, hk, rfl, rfl, hb1⟩ := hrel
    by_cases hlt : k < l.length
    · have hR2 := HR'.out.below hb1 (Nat.le_refl _)
      obtain ⟨ad, rfl, hbk, hcell⟩ := hR2.at_ hlt
      by_cases h0 : k = 0
      · subst h0
        have HB : Hid (bestAt l (0 + 1) = 0) := rfl
        have e1 : bestAt l 0 = -1 := rfl
        rw [e1]
        clear e1 hR2
        obtain ⟨x, hx⟩ : ∃ x, x = l.getD 0 0 := ⟨_, rfl⟩
        rw [← hx] at hcell
        clear hx
        have hcell0 : wr.cell? ad = some (.int .i64 x) := by simpa [Addr.add] using hcell
        go_wp2
        go_quiet (fail)
        go_wp2
        go_roundw
        case rel => exact ⟨0 + 1, by omega, by go_num, by rw [HB.out]; rfl, Below.drewN hb1 _⟩
        case measure => simp [intOf]; omega
      · have hk1 : 1 ≤ k := by omega
        have hbl := bestN_le l (k - 1)
        obtain ⟨b, hbe⟩ : ∃ b, b = bestN l (k - 1) := ⟨_, rfl⟩
        obtain ⟨ad', e', _, hcb⟩ := hR2.at_ (k := b) (by omega)
        injection e' with e'
        subst e'
        have e1 : bestAt l k = (b : Int) := by rw [hbe]; exact if_neg h0
        rw [e1]
        have HN := Lib.hid (best_step l k b hk1 hbe)
        rw [← hbe] at hbl
        obtain ⟨x, hx⟩ : ∃ x, x = l.getD k 0 := ⟨_, rfl⟩
        obtain ⟨y, hy⟩ : ∃ y, y = l.getD b 0 := ⟨_, rfl⟩
        rw [← hx] at hcell HN
        rw [← hy] at hcb HN
        clear hx hy hbe e1 hR2
        have d0 : decide ((b : Int) < 0) = false := decide_eq_false (by omega)
        have i1 : (b : Int) < (l.length : Int) := by omega
        have i2 : (k : Int) < (l.length : Int) := by omega
        have i3 : (0 : Int) ≤ (k : Int) := by omega
        by_cases hxy : y < x
        · have HN2 : Hid (bestAt l (k + 1) = (k : Int)) := by have := HN.out; rw [if_pos hxy] at this; exact this
          have d1 : decide (y < x) = true := decide_eq_true hxy
          go_wp2
          go_quiet (fail)
          go_wp2
          go_roundw
          case rel => exact ⟨k + 1, by omega, by go_num, by rw [HN2.out], Below.drewN hb1 _⟩
          case measure => simp [intOf]; omega
        · have HN2 : Hid (bestAt l (k + 1) = (b : Int)) := by have := HN.out; rw [if_neg hxy] at this; exact this
          have d1 : decide (y < x) = false := decide_eq_false hxy
          go_wp2
          go_quiet (fail)
          go_wp2
          go_roundw
          case rel => exact ⟨k + 1, by omega, by go_num, by rw [HN2.out], Below.drewN hb1 _⟩
          case measure => simp [intOf]; omega
    · obtain rfl : k = l.length := by omega
      go_wp2
      go_ret
      exact ⟨rfl, below_out (below_next hb hb1)⟩
end Go.Proofs.Ytmecbiphejjkmaa
