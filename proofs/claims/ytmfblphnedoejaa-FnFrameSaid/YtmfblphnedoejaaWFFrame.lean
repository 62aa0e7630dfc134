/- The walk of the law FnFrame: a payload is read from its frame, whatever is before and behind it, and not without the last bit. -/
import Derived.Test.YtmfblphnedoejaaWk
import Derived.Test.YtmfblphnedoejaaPFrame
import Derived.Test.YtmfblphnedoejaaDraw4
namespace Go.Proofs.Ytmfblphnedoejaa.fnFrame
set_option maxRecDepth 20000
open Go.ChangeShapes Go.WideShapes Go.ChangeAt Go.RowKit
set_option linter.unusedVariables false
set_option linter.unusedSimpArgs false

theorem take_ok {l : List UInt8} (h : bitsOK l = true) (k : Nat) : bitsOK (l.take k) = true :=
  bitsOK_mk (by have := bits_le h; rw [List.length_take]; omega) (fun c hc => by rcases bits_mem h c (List.mem_of_mem_take hc) with h | h <;> rw [h] <;> rfl)

set_option maxHeartbeats 8000000 in
theorem walk (a0 : Option Addr) (len0 cap0 : Nat) (z0 : List Int) (a1 : Option Addr) (len1 cap1 : Nat) (z1 : List Int) (w : World) (hw0 : IsRow .u8 w a0 len0 cap0 z0) (hw1 : IsRow .u8 w a1 len1 cap1 z1) :
    Calls Try.prog 10 #[.slice a0 len0 cap0, .slice a1 len1 cap1] w fun e w' => e = .returned (.bool true) ∧ Below w.heap.size w w' := by
  by_cases hlen : len0 ≤ 1048576
  rotate_left
  · go_enter Try.func10, Try.ntmps10
    go_wp2
    go_ret
    exact ⟨rfl, Below.refl _ _⟩
  by_cases hlen1 : len1 ≤ 1048576
  rotate_left
  · go_enter Try.func10, Try.ntmps10
    go_wp2
    go_ret
    exact ⟨rfl, Below.refl _ _⟩
  clear hw1
  go_enter Try.func10, Try.ntmps10
  go_wp2_with fail
  refine (drawFrame_any _ _ _ _ _ hw0).mono ?_
  rintro e w1 ⟨l, rfl, hl, hb⟩
  clear hw0
  have zl := str_size l
  have hm : (str l).size ≤ maxLen := by unfold maxLen; omega
  cases hE : frameOf l with
  | none =>
    have HI : Hid (∀ u : World, Calls Try.prog 39 #[.string (str l)] u fun e w' => e = .returned (.tuple #[.string ⟨#[]⟩, .bool false]) ∧ Below u.heap.size u w') := fun u => by
      have hh := frameI_any (str l) u hm
      rw [str_list, hE] at hh
      exact hh
    have HS : Hid (∀ u : World, Calls Try.prog 40 #[.string (str l)] u fun e w' => e = .returned (.tuple #[.string ⟨#[]⟩, .bool false]) ∧ Below u.heap.size u w') := fun u => by
      have hh := frameS_any (str l) u hm
      rw [str_list, hE] at hh
      exact hh
    clear hE
    go_wp2_with fail
    refine (HI.out _).mono ?_
    rintro e w2 ⟨rfl, k⟩
    replace hb := below_next hb k
    clear k
    (try clear hc hf)
    obtain ⟨hc, hf⟩ := bcell hb
    go_wp2_with fail
    refine (HS.out _).mono ?_
    rintro e w3 ⟨rfl, k⟩
    replace hb := below_next hb k
    clear k
    (try clear hc hf)
    obtain ⟨hc, hf⟩ := bcell hb
    go_wp2
    go_ret
    exact ⟨rfl, hb⟩
  | some F =>
    obtain ⟨hpo, hF⟩ : payOK l = true ∧ F = frameL l := by
      unfold frameOf at hE
      split at hE
      · exact ⟨‹_›, (Option.some.inj hE).symm⟩
      · cases hE
    have hp100 := (pay_parts hpo).2
    have hFl : F.length = l.length + 23 := by rw [hF, frame_len]
    have hFb : bitsOK F = true := by rw [hF]; exact frame_ok hpo
    obtain ⟨q, hq, hq29⟩ : ∃ q : Nat, (len1 : Int) % 30 = (q : Int) ∧ q ≤ 29 := ⟨len1 % 30, by omega, by omega⟩
    obtain ⟨Z, hZ⟩ : ∃ Z, Z = List.replicate q (48 : UInt8) := ⟨_, rfl⟩
    have hZl : Z.length = q := by rw [hZ, List.length_replicate]
    have hZb : bitsOK Z = true := by rw [hZ]; exact zeros_ok (by omega)
    have zF := str_size F
    have zZ := str_size Z
    rw [hZl] at zZ
    obtain ⟨A, hA⟩ : ∃ A, A = Z ++ F := ⟨_, rfl⟩
    obtain ⟨B, hB⟩ : ∃ B, B = A ++ Z := ⟨_, rfl⟩
    have hAl : A.length = q + F.length := by rw [hA, List.length_append, hZl]
    have hBl : B.length = q + F.length + q := by rw [hB, List.length_append, hZl, hAl]
    have hBb : bitsOK B = true := by rw [hB, hA]; exact app_ok (app_ok hZb hFb (by omega)) hZb (by rw [List.length_append]; omega)
    have s1 : str Z ++ str F = str A := by rw [str_add, hA]
    have s2 : str A ++ str Z = str B := by rw [str_add, hB]
    have zA := str_size A
    have zB := str_size B
    rw [hAl] at zA
    obtain ⟨G, hG⟩ : ∃ G, G = F.take (l.length + 22) := ⟨_, rfl⟩
    have hex : (str F).extract 0 (l.length + 22) = str G := by rw [hG]; exact str_take F _
    have hGb : bitsOK G = true := by rw [hG]; exact take_ok hFb _
    have hGl : G.length ≤ 600 := bits_le hGb
    have p1 : parse B (q : Int) = some (l, q + (l.length + 23)) := by
      rw [parse_yes q hBb (by omega)]
      have := parse_among (z := Z) hp100
      rw [← hF, ← hA, ← hB, hZl, hFl] at this
      exact this
    have p2 : parse G 0 = none := by
      have := parse_yes 0 hGb (Nat.zero_le _)
      rw [show ((0 : Nat) : Int) = 0 from rfl] at this
      rw [this, hG, hF, show l.length + 22 = (frameL l).length - 1 by rw [frame_len]; omega]
      exact parse_short hp100
    have HI : Hid (∀ u : World, Calls Try.prog 39 #[.string (str l)] u fun e w' => e = .returned (.tuple #[.string (str F), .bool true]) ∧ Below u.heap.size u w') := fun u => by
      have hh := frameI_any (str l) u hm
      rw [str_list, hE] at hh
      exact hh
    have HS : Hid (∀ u : World, Calls Try.prog 40 #[.string (str l)] u fun e w' => e = .returned (.tuple #[.string (str F), .bool true]) ∧ Below u.heap.size u w') := fun u => by
      have hh := frameS_any (str l) u hm
      rw [str_list, hE] at hh
      exact hh
    have HZ : Hid (∀ u : World, Calls Try.prog 42 #[.int .i64 (q : Int)] u fun e w' => e = .returned (.string (str Z)) ∧ Below u.heap.size u w') := fun u => by
      have hh := ssZeros_any q u (by omega)
      rw [← hZ] at hh
      exact hh
    have P1 : Hid (∀ u : World, Calls Try.prog 41 #[.string (str B), .int .i64 (q : Int)] u fun e w' => e = .returned (.tuple #[.string (str l), .int .i64 ((q : Int) + ((l.length : Int) + 23)), .bool true]) ∧ Below u.heap.size u w') := fun u => by
      have hh := parseI_any B q u (by omega) (by omega) (by omega)
      rw [p1] at hh
      exact hh
    have P2 : Hid (∀ u : World, Calls Try.prog 41 #[.string (str G), .int .i64 0] u fun e w' => e = .returned (.tuple #[.string ⟨#[]⟩, .int .i64 0, .bool false]) ∧ Below u.heap.size u w') := fun u => by
      have hh := parseI_any G 0 u (by omega) (by omega) (by omega)
      rw [p2] at hh
      exact hh
    clear hE p1 p2 hZ hA hB hG hF hZb hFb hBb hGb hpo hAl hBl hZl
    have e5 : ((q : Int) + ((l.length : Int) + 23) == (q : Int) + ((l.length : Int) + 23)) = true := by simp
    have e7 : (((l.length : Int) + 23) == 23 + (l.length : Int)) = true := by simp; omega
    go_wp2_with fail
    refine (HI.out _).mono ?_
    rintro e w2 ⟨rfl, k⟩
    replace hb := below_next hb k
    clear k
    (try clear hc hf)
    obtain ⟨hc, hf⟩ := bcell hb
    go_wp2_with fail
    refine (HS.out _).mono ?_
    rintro e w3 ⟨rfl, k⟩
    replace hb := below_next hb k
    clear k
    (try clear hc hf)
    obtain ⟨hc, hf⟩ := bcell hb
    go_wp2_with fail
    refine (HZ.out _).mono ?_
    rintro e w4 ⟨rfl, k⟩
    replace hb := below_next hb k
    clear k
    (try clear hc hf)
    obtain ⟨hc, hf⟩ := bcell hb
    go_wp2_with fail
    refine (P1.out _).mono ?_
    rintro e w5 ⟨rfl, k⟩
    replace hb := below_next hb k
    clear k
    (try clear hc hf)
    obtain ⟨hc, hf⟩ := bcell hb
    go_wp2_with fail
    refine (P2.out _).mono ?_
    rintro e w6 ⟨rfl, k⟩
    replace hb := below_next hb k
    clear k
    (try clear hc hf)
    obtain ⟨hc, hf⟩ := bcell hb
    go_wp2
    go_ret
    exact ⟨rfl, hb⟩
end Go.Proofs.Ytmfblphnedoejaa.fnFrame
