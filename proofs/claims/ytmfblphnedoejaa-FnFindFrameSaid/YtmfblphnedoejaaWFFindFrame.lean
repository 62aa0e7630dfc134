/- The walk of the law FnFindFrame: from the index up to the next frame none begins, and if there is none, none begins at all. -/
import Derived.Test.YtmfblphnedoejaaWk
import Derived.Test.YtmfblphnedoejaaPFind
import Derived.Test.YtmfblphnedoejaaDraw7
namespace Go.Proofs.Ytmfblphnedoejaa.fnFindFrame
set_option maxRecDepth 20000
open Go.ChangeShapes Go.WideShapes Go.ChangeAt Go.RowKit
set_option linter.unusedVariables false
set_option linter.unusedSimpArgs false

set_option maxHeartbeats 8000000 in
theorem walk (a0 : Option Addr) (len0 cap0 : Nat) (z0 : List Int) (w : World) (hw0 : IsRow .u8 w a0 len0 cap0 z0) :
    Calls Try.prog 14 #[.slice a0 len0 cap0] w fun e w' => e = .returned (.bool true) ∧ Below w.heap.size w w' := by
  by_cases hlen : len0 ≤ 1048576
  rotate_left
  · go_enter Try.func14, Try.ntmps14
    go_wp2
    go_ret
    exact ⟨rfl, Below.refl _ _⟩
  go_enter Try.func14, Try.ntmps14
  go_wp2_with fail
  refine (drawFind_any _ _ _ _ _ hw0).mono ?_
  rintro e w1 ⟨l, n, rfl, hl, hn1, hn2, hb⟩
  clear hw0
  have zl := str_size l
  by_cases hneg : n < 0
  · obtain rfl : n = -1 := by omega
    have hE : find l (-1) = -1 := find_no (by omega)
    have HI : Hid (∀ u : World, Calls Try.prog 54 #[.string (str l), .int .i64 (-1)] u fun e w' => e = .returned (.int .i64 (-1)) ∧ Below u.heap.size u w') := fun u => by
      have hh := findI_any l (-1) u (by omega) (by omega) (by omega)
      rw [hE] at hh
      exact hh
    have HS : Hid (∀ u : World, Calls Try.prog 55 #[.string (str l), .int .i64 (-1)] u fun e w' => e = .returned (.int .i64 (-1)) ∧ Below u.heap.size u w') := fun u => by
      have hh := findS_any l (-1) u (by omega) (by omega) (by omega)
      rw [hE] at hh
      exact hh
    clear hE
    go_wp2_with fail
    refine (HI.out _).mono ?_
    rintro e w2 ⟨rfl, k⟩
    replace hb := below_next hb k
    clear k
    (try clear hc hf)
    obtain ⟨hc, hf⟩ := bcell hb
    go_wp2_with fail
    refine (HS.out _).mono ?_
    rintro e w3 ⟨rfl, k⟩
    replace hb := below_next hb k
    clear k
    (try clear hc hf)
    obtain ⟨hc, hf⟩ := bcell hb
    go_wp2_with fail
    refine (HS.out _).mono ?_
    rintro e w4 ⟨rfl, k⟩
    replace hb := below_next hb k
    clear k
    (try clear hc hf)
    obtain ⟨hc, hf⟩ := bcell hb
    go_wp2
    go_ret
    exact ⟨rfl, hb⟩
  obtain ⟨f, rfl⟩ : ∃ f : Nat, n = (f : Int) := ⟨n.toNat, by omega⟩
  rcases find_spec l f with ⟨hE, hno⟩ | ⟨m, hE, hm1, hm2, hno⟩
  · have HI : Hid (∀ u : World, Calls Try.prog 54 #[.string (str l), .int .i64 (f : Int)] u fun e w' => e = .returned (.int .i64 (-1)) ∧ Below u.heap.size u w') := fun u => by
      have hh := findI_any l f u (by omega) (by omega) (by omega)
      rw [hE] at hh
      exact hh
    have HS : Hid (∀ u : World, Calls Try.prog 55 #[.string (str l), .int .i64 (f : Int)] u fun e w' => e = .returned (.int .i64 (-1)) ∧ Below u.heap.size u w') := fun u => by
      have hh := findS_any l f u (by omega) (by omega) (by omega)
      rw [hE] at hh
      exact hh
    have HP : Hid (∀ k : Nat, f ≤ k → k < l.length → ∀ u : World, Calls Try.prog 41 #[.string (str l), .int .i64 (k : Int)] u fun e w' => e = .returned (.tuple #[.string ⟨#[]⟩, .int .i64 0, .bool false]) ∧ Below u.heap.size u w') := Lib.hid fun k h1 h2 u => by
      have := parseI_any l k u (by omega) (by omega) (by omega)
      rw [hno k h1 h2] at this
      exact this
    clear hE hno
    go_wp2_with fail
    refine (HI.out _).mono ?_
    rintro e w2 ⟨rfl, k⟩
    replace hb := below_next hb k
    clear k
    (try clear hc hf)
    obtain ⟨hc, hf⟩ := bcell hb
    go_wp2_with fail
    refine (HS.out _).mono ?_
    rintro e w3 ⟨rfl, k⟩
    replace hb := below_next hb k
    clear k
    (try clear hc hf)
    obtain ⟨hc, hf⟩ := bcell hb
    clear hc hf
    go_wp2
    go_loopw [7, 8, 9, 10] (fun i _ _ _ wr => ∃ k : Nat, i = .int .i64 (k : Int) ∧ f ≤ k ∧ (k = f ∨ k ≤ l.length) ∧ Below w.heap.size w wr) (fun i _ _ _ _ => l.length - (intOf i).toNat)
    case atStart => exact ⟨f, rfl, Nat.le_refl _, .inl rfl, hb⟩
    case round =>
      clear hb
      obtain ⟨k, rfl, hk, hk2, hb⟩ := hrel
      by_cases hlt : k < l.length
      · go_wp2_with fail
        refine (HP.out k hk hlt _).mono ?_
        rintro e w5 ⟨rfl, k⟩
        replace hb := below_next hb k
        clear k
        (try clear hc hf)
        obtain ⟨hc, hf⟩ := bcell hb
        go_wp2
        go_roundw
        case rel => exact ⟨k + 1, by go_num, by omega, by omega, hb⟩
        case measure => simp [intOf]; omega
      · go_wp2
        go_ret
        exact ⟨rfl, hb⟩
  · have HI : Hid (∀ u : World, Calls Try.prog 54 #[.string (str l), .int .i64 (f : Int)] u fun e w' => e = .returned (.int .i64 (m : Int)) ∧ Below u.heap.size u w') := fun u => by
      have hh := findI_any l f u (by omega) (by omega) (by omega)
      rw [hE] at hh
      exact hh
    have HS : Hid (∀ u : World, Calls Try.prog 55 #[.string (str l), .int .i64 (f : Int)] u fun e w' => e = .returned (.int .i64 (m : Int)) ∧ Below u.heap.size u w') := fun u => by
      have hh := findS_any l f u (by omega) (by omega) (by omega)
      rw [hE] at hh
      exact hh
    have HP : Hid (∀ k : Nat, f ≤ k → k < m → ∀ u : World, Calls Try.prog 41 #[.string (str l), .int .i64 (k : Int)] u fun e w' => e = .returned (.tuple #[.string ⟨#[]⟩, .int .i64 0, .bool false]) ∧ Below u.heap.size u w') := Lib.hid fun k h1 h2 u => by
      have := parseI_any l k u (by omega) (by omega) (by omega)
      rw [hno k h1 h2] at this
      exact this
    clear hE hno
    have hd0 : ((m : Int) == -1) = false := beq_eq_false_iff_ne.2 (by omega)
    have hd1 : decide ((f : Int) ≤ (m : Int)) = true := decide_eq_true (by omega)
    have hd2 : decide ((m : Int) < (l.length : Int)) = true := decide_eq_true (by omega)
    go_wp2_with fail
    refine (HI.out _).mono ?_
    rintro e w2 ⟨rfl, k⟩
    replace hb := below_next hb k
    clear k
    (try clear hc hf)
    obtain ⟨hc, hf⟩ := bcell hb
    go_wp2_with fail
    refine (HS.out _).mono ?_
    rintro e w3 ⟨rfl, k⟩
    replace hb := below_next hb k
    clear k
    (try clear hc hf)
    obtain ⟨hc, hf⟩ := bcell hb
    clear hc hf
    go_wp2
    go_loopw [7, 8, 9, 10] (fun i _ _ _ wr => ∃ k : Nat, i = .int .i64 (k : Int) ∧ f ≤ k ∧ k ≤ m ∧ Below w.heap.size w wr) (fun i _ _ _ _ => m - (intOf i).toNat)
    case atStart => exact ⟨f, rfl, Nat.le_refl _, hm1, hb⟩
    case round =>
      clear hb
      obtain ⟨k, rfl, hk, hk2, hb⟩ := hrel
      by_cases hlt : k < m
      · go_wp2_with fail
        refine (HP.out k hk hlt _).mono ?_
        rintro e w5 ⟨rfl, k⟩
        replace hb := below_next hb k
        clear k
        (try clear hc hf)
        obtain ⟨hc, hf⟩ := bcell hb
        go_wp2
        go_roundw
        case rel => exact ⟨k + 1, by go_num, by omega, by omega, hb⟩
        case measure => simp [intOf]; omega
      · go_wp2
        go_ret
        exact ⟨rfl, hb⟩
end Go.Proofs.Ytmfblphnedoejaa.fnFindFrame
