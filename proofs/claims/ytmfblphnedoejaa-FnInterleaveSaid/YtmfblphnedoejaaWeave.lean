/- Contracts of the reference's InterleaveBits. -/
import Derived.Test.YtmfblphnedoejaaInter
import Derived.Test.YtmfblphnedoejaaMem
namespace Go.Proofs.Ytmfblphnedoejaa
set_option maxRecDepth 20000
open Go.ChangeShapes Go.WideShapes Go.ChangeAt Go.RowKit
set_option linter.unusedVariables false
set_option linter.unusedSimpArgs false

/-- the first k bits, read in columns -/
def weaveTo (R C : Nat) (l : List UInt8) (k : Nat) : List UInt8 := (List.range k).map fun j => l.getD (pAt R C j) 0
theorem weaveTo_len (R C : Nat) (l : List UInt8) (k : Nat) : (weaveTo R C l k).length = k := by simp [weaveTo]
theorem weaveTo_next {R C c r : Nat} (s : ByteArray) (hr : r < R) (hc : c < C) (h : r * C + c < s.size) :
    (weaveTo R C s.data.toList (c * R + r)).map byteV ++ [.int .u8 ((s[r * C + c].toNat : Nat) : Int)] = (weaveTo R C s.data.toList (c * R + r + 1)).map byteV := by
  have e : pAt R C (c * R + r) = r * C + c := by
    unfold pAt
    rw [Nat.mul_comm c R, Nat.mul_add_mod, Nat.mod_eq_of_lt hr, Nat.mul_add_div (by omega), Nat.div_eq_of_lt hr, Nat.add_zero]
  rw [weaveTo, weaveTo, List.range_succ, List.map_append, List.map_append]
  simp only [List.map_cons, List.map_nil]
  rw [e, getD_at s _ h]
  rfl
theorem weave_facts {R C c r n : Nat} (hr : r < R) (hc : c < C) (hn : n = R * C) (hn6 : n ≤ 600) : r * C + c < n ∧ (r : Int) * (C : Int) + (c : Int) < (n : Int) ∧ 0 ≤ (r : Int) * (C : Int) + (c : Int) ∧ 0 ≤ (r : Int) * (C : Int) ∧ (r : Int) * (C : Int) ≤ 600 ∧ c * R + r < n := by
  have h1 : (r + 1) * C ≤ R * C := Nat.mul_le_mul_right C hr
  have h2 : (c + 1) * R ≤ C * R := Nat.mul_le_mul_right R hc
  rw [Nat.succ_mul] at h1 h2
  rw [Nat.mul_comm C R] at h2
  have e1 : (r : Int) * (C : Int) = ((r * C : Nat) : Int) := by simp
  rw [e1]
  generalize r * C = a at *
  generalize R * C = b at *
  generalize c * R = d at *
  omega

set_option maxHeartbeats 1000000 in
theorem weave_any (s : ByteArray) (R C : Nat) (w : World) (h6 : s.size ≤ 600) (hR : 1 ≤ R) (hR4 : R ≤ 40) (hc : s.size = R * C) :
    Calls Try.prog 65 #[.string s, .int .i64 R] w fun e w' => e = .returned (.string ⟨(permL R C s.data.toList).toArray⟩) ∧ Below w.heap.size w w' := by
  have hmk : ∀ u : World, (Instr.makeSlice 22 (.int .i64 0) (.int .i64 (s.size : Int))).run Try.prog u = .ok (.slice (some ⟨u.heap.size, 0, none⟩) 0 s.size) (u.alloc (.cells (madeCells #[.int .u8 0] s.size) 5)) := fun u => run_make0 Try.underlying22 info_u8 rfl s.size (by omega) (by omega) u
  have HC := Lib.hid hc
  have hq : (s.size : Int) / (R : Int) = (C : Int) := by rw [hc]; rw [Int.natCast_mul, Int.mul_ediv_cancel_left _ (by omega)]
  have hcb : C ≤ 600 := by have : 1 * C ≤ R * C := Nat.mul_le_mul_right C hR; omega
  have hw : weaveTo R C s.data.toList (C * R) = permL R C s.data.toList := by
    unfold weaveTo permL; rw [data_length, hc, Nat.mul_comm]
  have HW := Lib.hid hw
  clear hc hw
  go_enter Try.func65, Try.ntmps65
  go_wp2
  go_loopw [5, 6] (fun v i wr => ∃ c g cap : Nat, c ≤ C ∧ i = .int .i64 c ∧ v = .slice (some ⟨g, 0, none⟩) (c * R) cap ∧ Own wr w.heap.size 5 g (c * R) cap ((weaveTo R C s.data.toList (c * R)).map byteV) ∧ Below w.heap.size w wr) (fun _ i _ => C - (intOf i).toNat)
  case atStart =>
    refine ⟨0, w.heap.size, s.size, Nat.zero_le _, rfl, by simp, ?_, (Below.refl _ _).alloc (Nat.le_refl _) _⟩
    have h0 := Own.made (w := w) (B := w.heap.size) 5 (madeCells #[.int .u8 0] s.size) s.size (Nat.le_refl _) (by unfold maxLen; omega) (size_madeCells _ _)
    have e : 0 * R = 0 := Nat.zero_mul R
    rw [e]
    exact h0
  case round =>
    obtain ⟨c, g, cap, hc, rfl, rfl, hown, hb⟩ := hrel
    obtain ⟨w1, rfl⟩ : ∃ w1 : World, w1 = wr := ⟨_, rfl⟩
    clear hmk
    by_cases hlt : c < C
    · go_wp2
      go_loopw [5, 7] (fun v i wr => ∃ r g cap : Nat, r ≤ R ∧ i = .int .i64 r ∧ v = .slice (some ⟨g, 0, none⟩) (c * R + r) cap ∧ Own wr w.heap.size 5 g (c * R + r) cap ((weaveTo R C s.data.toList (c * R + r)).map byteV) ∧ Below w.heap.size w wr) (fun _ i _ => R - (intOf i).toNat)
      case atStart => exact ⟨0, g, cap, Nat.zero_le _, rfl, rfl, hown, hb⟩
      case round =>
        clear hown hb
        obtain ⟨r, g, cap, hr, rfl, rfl, hown, hb⟩ := hrel
        by_cases hlr : r < R
        · obtain ⟨f1, f2, f3, f4, f5, f6⟩ := weave_facts hlr hlt HC.out h6
          have HN := Lib.hid (weaveTo_next (R := R) (C := C) s hlr hlt f1)
          go_wp2_with (at_builtin; refine app1 22 5 Try.underlying22 info_u8 rfl rfl _ _ rfl w.heap.size g (c * R + r) cap _ _ rfl rfl hown hb (Nat.le_refl _) rfl (by omega) (by unfold maxLen; omega) ?_; intro g' cap' w' hown' hb')
          rw [HN.out] at hown'
          clear hown hb
          go_wp2
          go_roundw
          case rel => exact ⟨r + 1, g', cap', by omega, by go_num, rfl, hown', hb'⟩
          case measure => simp [intOf]; omega
        · obtain rfl : r = R := by omega
          have e : c * r + r = (c + 1) * r := (Nat.succ_mul c r).symm
          rw [e] at hown ⊢
          clear e
          go_wp2
          go_roundw
          case rel => exact ⟨c + 1, g, cap, by omega, by go_num, rfl, hown, hb⟩
          case measure => simp [intOf]; omega
    · obtain rfl : c = C := by omega
      rw [HW.out] at hown
      have hconv := conv_own (P := Try.prog) (src := 22) (dst := 9) (permL R c s.data.toList) (by rw [permL_len, data_length, HC.out, Nat.mul_comm]) hown Try.underlying22 Try.underlying5 Try.underlying9
      clear hown
      go_wp2
      go_ret
      exact ⟨rfl, hb⟩
theorem inS_any (s : ByteArray) (n : Int) (w : World) (hs : s.size ≤ 1048576) :
    Calls Try.prog 17 #[.string s, .int .i64 n] w fun e w' => e = .returned (strRes (interL s.data.toList n)) ∧ Below w.heap.size w w' := by
  have hm : s.size ≤ maxLen := by unfold maxLen; omega
  cases hR : rowsOK s.data.toList n
  · rw [inter_no hR]
    go_enter Try.func17, Try.ntmps17
    go_wp2_with (go_at_call 64; refine (l6Rows_any _ _ _ hm).mono ?_; rintro e w' ⟨rfl, rfl⟩)
    go_ret2
    exact ⟨rfl, Below.refl _ _⟩
  · rw [inter_yes hR]
    obtain ⟨hb, r, c, rfl, h1, h4, hc, hq0, h6⟩ := rows_split hR
    rw [hq0, Int.toNat_natCast]
    clear hq0 hb
    have HC := Lib.hid hc
    clear hc
    go_enter Try.func17, Try.ntmps17
    go_wp2_with (first | (go_at_call 64; refine (l6Rows_any _ _ _ hm).mono ?_; rintro e w' ⟨rfl, rfl⟩) | (go_at_call 65; refine (weave_any _ r c _ h6 h1 h4 HC.out).mono ?_; rintro e w' ⟨rfl, hb⟩))
    go_ret2
    exact ⟨rfl, hb⟩
end Go.Proofs.Ytmfblphnedoejaa
