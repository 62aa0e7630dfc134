/- Contracts of FindFrame on both sides. -/
import Derived.Test.YtfcnpbcnpielcaaParse
namespace Go.Proofs.Ytfcnpbcnpielcaa
set_option maxRecDepth 20000
open Go.ChangeShapes Go.WideShapes Go.ChangeAt Go.RowKit
set_option linter.unusedVariables false
set_option linter.unusedSimpArgs false

/-- the first of the places a, a + 1, .. (f of them) where a frame begins, or -1 -/
def findN (l : List UInt8) : Nat → Nat → Int
  | 0, _ => -1
  | f + 1, a => if (parseL l a).isSome then (a : Int) else findN l f (a + 1)
def find (l : List UInt8) (from_ : Int) : Int := if bitsOK l && decide (0 ≤ from_) then findN l (l.length - from_.toNat) from_.toNat else -1
theorem find_no {l : List UInt8} {n : Int} (h : ¬ (bitsOK l = true ∧ 0 ≤ n)) : find l n = -1 := by
  unfold find
  rw [if_neg]
  simp only [Bool.and_eq_true, decide_eq_true_eq]
  exact h
theorem find_yes {l : List UInt8} (a : Nat) (hb : bitsOK l = true) : find l (a : Int) = findN l (l.length - a) a := by
  unfold find
  rw [if_pos (by simp [hb]), Int.toNat_natCast]
theorem findN_here {l : List UInt8} {f a : Nat} {x : List UInt8 × Nat} (hf : 1 ≤ f) (h : parseL l a = some x) : findN l f a = (a : Int) := by
  obtain ⟨g, rfl⟩ : ∃ g, f = g + 1 := ⟨f - 1, by omega⟩
  simp [findN, h]
theorem findN_next {l : List UInt8} {f a : Nat} (hf : 1 ≤ f) (h : parseL l a = none) : findN l f a = findN l (f - 1) (a + 1) := by
  obtain ⟨g, rfl⟩ : ∃ g, f = g + 1 := ⟨f - 1, by omega⟩
  simp [findN, h]
set_option maxHeartbeats 1000000 in
theorem findS_in (l : List UInt8) (a : Nat) (w : World) (hb : bitsOK l = true) (ha : (a : Int) ≤ 9223372036854775807) :
    Calls Try.prog 23 #[.string (str l), .int .i64 (a : Int)] w fun e w' => e = .returned (.int .i64 (findN l (l.length - a) a)) ∧ Below w.heap.size w w' := by
  have z0 := str_size l
  have h6 := bits_le hb
  have HL := Lib.hid (fun u : World => l1Bits_yes l u hb)
  have HP := Lib.hid (fun (k : Nat) (hk : k ≤ l.length) (u : World) => parseS_in l k u hb hk)
  go_enter Try.func23, Try.ntmps23
  go_wp2_with fail
  refine (HL.out _).mono ?_
  rintro e w' ⟨rfl, rfl⟩
  go_wp2
  go_loopw [1, 5, 6, 7] (fun i _ _ _ wr => ∃ k : Nat, (a ≤ k ∧ (k = a ∨ k ≤ l.length)) ∧ i = .int .i64 k ∧ findN l (l.length - a) a = findN l (l.length - k) k ∧ Below w.heap.size w wr) (fun i _ _ _ _ => l.length - (intOf i).toNat)
  case atStart => exact ⟨a, ⟨Nat.le_refl _, .inl rfl⟩, rfl, rfl, Below.refl _ _⟩
  case round =>
    obtain ⟨k, ⟨hk, hk2⟩, rfl, he, hbl⟩ := hrel
    have HE := Lib.hid he
    clear he
    by_cases hlt : k < l.length
    · obtain ⟨x1, x2, x3, hx⟩ := parRes_form (parseL l k)
      have HX := Lib.hid hx
      clear hx
      have H3 : Hid (x3 = (parseL l k).isSome) := by
        have := HX.out
        cases hp : parseL l k with
        | none => rw [hp] at this; simp [parRes] at this; exact this.2.2
        | some q => obtain ⟨q1, q2⟩ := q; rw [hp] at this; simp [parRes] at this; exact this.2.2
      cases hp : parseL l k with
      | none =>
        have HN := Lib.hid (findN_next (l := l) (f := l.length - k) (by omega) hp)
        obtain rfl : x3 = false := by rw [H3.out, hp]; rfl
        clear hp H3
        go_wp2_with fail
        refine (HP.out k (by omega) _).mono ?_
        rintro e w1 ⟨he, k1⟩
        rw [HX.out] at he
        subst he
        replace hbl := below_next hbl k1
        clear k1
        go_wp2
        go_roundw
        case rel => exact ⟨k + 1, ⟨by omega, .inr (by omega)⟩, by go_num, by rw [HE.out, HN.out, Nat.sub_sub], hbl⟩
        case measure => simp [intOf]; omega
      | some q =>
        have HN := Lib.hid (findN_here (l := l) (f := l.length - k) (by omega) hp)
        obtain rfl : x3 = true := by rw [H3.out, hp]; rfl
        clear hp H3
        go_wp2_with fail
        refine (HP.out k (by omega) _).mono ?_
        rintro e w1 ⟨he, k1⟩
        rw [HX.out] at he
        subst he
        replace hbl := below_next hbl k1
        clear k1
        go_wp2
        go_ret
        exact ⟨ret_int (by rw [HE.out, HN.out]), hbl⟩
    · have h0 : l.length - k = 0 := by omega
      rw [h0] at HE
      clear h0
      go_wp2
      go_ret
      exact ⟨ret_int (by rw [HE.out]; rfl), hbl⟩
theorem findS_any (l : List UInt8) (at_ : Int) (w : World) (hl : l.length ≤ 2000000) (h1 : -9223372036854775808 ≤ at_) (h2 : at_ ≤ 9223372036854775807) :
    Calls Try.prog 23 #[.string (str l), .int .i64 at_] w fun e w' => e = .returned (.int .i64 (find l at_)) ∧ Below w.heap.size w w' := by
  have z0 := str_size l
  have hm : (str l).size ≤ maxLen := by rw [str_size]; unfold maxLen; omega
  have HL := Lib.hid (fun u : World => (l1Bits_any (str l) u hm : Calls Try.prog 30 #[.string (str l)] u fun e w' => e = .returned (.bool (bitsOK (str l).data.toList)) ∧ u = w'))
  rw [str_list] at HL
  by_cases h3 : at_ < 0
  · rw [find_no (by omega)]
    cases hb : bitsOK l
    all_goals
      rw [hb] at HL
      go_enter Try.func23, Try.ntmps23
      go_wp2_with fail
      refine (HL.out _).mono ?_
      rintro e w' ⟨rfl, rfl⟩
      go_wp2
      go_ret
      exact ⟨rfl, Below.refl _ _⟩
  · cases hb : bitsOK l
    · rw [find_no (by rw [hb]; simp)]
      rw [hb] at HL
      go_enter Try.func23, Try.ntmps23
      go_wp2_with fail
      refine (HL.out _).mono ?_
      rintro e w' ⟨rfl, rfl⟩
      go_wp2
      go_ret
      exact ⟨rfl, Below.refl _ _⟩
    · obtain ⟨a, rfl⟩ : ∃ a : Nat, at_ = (a : Int) := ⟨at_.toNat, by omega⟩
      rw [find_yes a hb]
      exact findS_in l a w hb (by omega)
theorem findS_arr (s : ByteArray) (at_ : Int) (w : World) (hl : s.size ≤ 2000000) (h1 : -9223372036854775808 ≤ at_) (h2 : at_ ≤ 9223372036854775807) :
    Calls Try.prog 23 #[.string s, .int .i64 at_] w fun e w' => e = .returned (.int .i64 (find s.data.toList at_)) ∧ Below w.heap.size w w' := by
  have := findS_any s.data.toList at_ w (by rw [data_length]; exact hl) h1 h2
  rw [str_of] at this
  exact this
set_option maxHeartbeats 1000000 in
theorem findI_in (l : List UInt8) (a : Nat) (w : World) (hb : bitsOK l = true) (ha : (a : Int) ≤ 9223372036854775807) :
    Calls Try.prog 25 #[.string (str l), .int .i64 (a : Int)] w fun e w' => e = .returned (.int .i64 (findN l (l.length - a) a)) ∧ Below w.heap.size w w' := by
  have z0 := str_size l
  have h6 := bits_le hb
  have HL := Lib.hid (fun u : World => isBits_yes l u hb)
  have HP := Lib.hid (fun (k : Nat) (hk : k ≤ l.length) (u : World) => parseI_in l k u hb hk)
  go_enter Try.func25, Try.ntmps25
  go_wp2_with fail
  refine (HL.out _).mono ?_
  rintro e w' ⟨rfl, rfl⟩
  go_wp2
  go_loopw [5, 6, 7, 8] (fun i _ _ _ wr => ∃ k : Nat, (a ≤ k ∧ (k = a ∨ k ≤ l.length)) ∧ i = .int .i64 k ∧ findN l (l.length - a) a = findN l (l.length - k) k ∧ Below w.heap.size w wr) (fun i _ _ _ _ => l.length - (intOf i).toNat)
  case atStart => exact ⟨a, ⟨Nat.le_refl _, .inl rfl⟩, rfl, rfl, Below.refl _ _⟩
  case round =>
    obtain ⟨k, ⟨hk, hk2⟩, rfl, he, hbl⟩ := hrel
    have HE := Lib.hid he
    clear he
    by_cases hlt : k < l.length
    · obtain ⟨x1, x2, x3, hx⟩ := parRes_form (parseL l k)
      have HX := Lib.hid hx
      clear hx
      have H3 : Hid (x3 = (parseL l k).isSome) := by
        have := HX.out
        cases hp : parseL l k with
        | none => rw [hp] at this; simp [parRes] at this; exact this.2.2
        | some q => obtain ⟨q1, q2⟩ := q; rw [hp] at this; simp [parRes] at this; exact this.2.2
      cases hp : parseL l k with
      | none =>
        have HN := Lib.hid (findN_next (l := l) (f := l.length - k) (by omega) hp)
        obtain rfl : x3 = false := by rw [H3.out, hp]; rfl
        clear hp H3
        go_wp2_with fail
        refine (HP.out k (by omega) _).mono ?_
        rintro e w1 ⟨he, k1⟩
        rw [HX.out] at he
        subst he
        replace hbl := below_next hbl k1
        clear k1
        go_wp2
        go_roundw
        case rel => exact ⟨k + 1, ⟨by omega, .inr (by omega)⟩, by go_num, by rw [HE.out, HN.out, Nat.sub_sub], hbl⟩
        case measure => simp [intOf]; omega
      | some q =>
        have HN := Lib.hid (findN_here (l := l) (f := l.length - k) (by omega) hp)
        obtain rfl : x3 = true := by rw [H3.out, hp]; rfl
        clear hp H3
        go_wp2_with fail
        refine (HP.out k (by omega) _).mono ?_
        rintro e w1 ⟨he, k1⟩
        rw [HX.out] at he
        subst he
        replace hbl := below_next hbl k1
        clear k1
        go_wp2
        go_ret
        exact ⟨ret_int (by rw [HE.out, HN.out]), hbl⟩
    · have h0 : l.length - k = 0 := by omega
      rw [h0] at HE
      clear h0
      go_wp2
      go_ret
      exact ⟨ret_int (by rw [HE.out]; rfl), hbl⟩
theorem findI_any (l : List UInt8) (at_ : Int) (w : World) (hl : l.length ≤ 2000000) (h1 : -9223372036854775808 ≤ at_) (h2 : at_ ≤ 9223372036854775807) :
    Calls Try.prog 25 #[.string (str l), .int .i64 at_] w fun e w' => e = .returned (.int .i64 (find l at_)) ∧ Below w.heap.size w w' := by
  have z0 := str_size l
  have hm : (str l).size ≤ maxLen := by rw [str_size]; unfold maxLen; omega
  have HL := Lib.hid (fun u : World => (isBits_any (str l) u hm : Calls Try.prog 33 #[.string (str l)] u fun e w' => e = .returned (.bool (bitsOK (str l).data.toList)) ∧ u = w'))
  rw [str_list] at HL
  by_cases h3 : at_ < 0
  · rw [find_no (by omega)]
    cases hb : bitsOK l
    all_goals
      rw [hb] at HL
      go_enter Try.func25, Try.ntmps25
      go_wp2
      go_ret
      exact ⟨rfl, Below.refl _ _⟩
  · cases hb : bitsOK l
    · rw [find_no (by rw [hb]; simp)]
      rw [hb] at HL
      go_enter Try.func25, Try.ntmps25
      go_wp2_with fail
      refine (HL.out _).mono ?_
      rintro e w' ⟨rfl, rfl⟩
      go_wp2
      go_ret
      exact ⟨rfl, Below.refl _ _⟩
    · obtain ⟨a, rfl⟩ : ∃ a : Nat, at_ = (a : Int) := ⟨at_.toNat, by omega⟩
      rw [find_yes a hb]
      exact findI_in l a w hb (by omega)
theorem findI_arr (s : ByteArray) (at_ : Int) (w : World) (hl : s.size ≤ 2000000) (h1 : -9223372036854775808 ≤ at_) (h2 : at_ ≤ 9223372036854775807) :
    Calls Try.prog 25 #[.string s, .int .i64 at_] w fun e w' => e = .returned (.int .i64 (find s.data.toList at_)) ∧ Below w.heap.size w w' := by
  have := findI_any s.data.toList at_ w (by rw [data_length]; exact hl) h1 h2
  rw [str_of] at this
  exact this
end Go.Proofs.Ytfcnpbcnpielcaa
