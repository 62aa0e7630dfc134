/- Contracts of the functions that copy, compare and mark slices of numbers, and of the tests of signals. -/
import Derived.Test.YtiiiaeemblcniaaBits
import Derived.Test.YtiiiaeemblcniaaMem
import Derived.WalkSpells
import Derived.IntWalk
import Derived.Outline
import Derived.StillTailTactics
namespace Go.Proofs.Ytiiiaeemblcniaa
set_option maxRecDepth 20000
open Go.ChangeShapes Go.WideShapes Go.ChangeAt Go.RowKit
set_option linter.unusedVariables false
set_option linter.unusedSimpArgs false

theorem info_int : (Try.prog.info? 3).map (fun i => (i.zero, i.size, i.bytes)) = some (some (.int .i64 0), 1, 8) := by kernel_rfl
/-- a slice of numbers that a call made: it holds l, and its block is from lo on and below hi (or it is nil) -/
def Sl (w : World) (lo hi : Nat) (v : Value) (l : List Int) : Prop := w.ownsRow lo 3 1 v l.length (l.map intV) ∧ ∀ g, v.ownBlock = some g → g < hi
theorem Sl.nil (w : World) (lo hi : Nat) : Sl w lo hi (.slice none 0 0) [] := ⟨World.ownsRow_nil _ _ _ _, fun g h => by simp [Value.ownBlock] at h⟩
theorem Sl.of_own {w : World} {lo hi g n cap : Nat} {l : List Int} (h : Own w lo 3 g n cap (l.map intV)) (hg : g < hi) : Sl w lo hi (.slice (some ⟨g, 0, none⟩) n cap) l := by
  have hn : n = l.length := by have := h.len; simpa using this.symm
  subst hn
  exact ⟨h, fun g' h' => by simp [Value.ownBlock] at h'; omega⟩
theorem Sl.form {w : World} {lo hi : Nat} {v : Value} {l : List Int} (h : Sl w lo hi v l) : (v = .slice none 0 0 ∧ l = []) ∨ ∃ g cap, v = .slice (some ⟨g, 0, none⟩) l.length cap ∧ Own w lo 3 g l.length cap (l.map intV) ∧ lo ≤ g ∧ g < hi := by
  obtain ⟨h1, h2⟩ := h
  have h1' := h1
  rcases h1.2 with ⟨rfl, h0⟩ | ⟨g, cap, cur, rfl, hb, _⟩
  · exact .inl ⟨rfl, List.eq_nil_of_length_eq_zero h0⟩
  · exact .inr ⟨g, cap, rfl, h1', hb, h2 g rfl⟩
theorem Sl.reads {w : World} {lo hi : Nat} {v : Value} {l : List Int} (h : Sl w lo hi v l) : ∃ A c, v = .slice A l.length c ∧ Reads w hi A l ∧ l.length ≤ c := by
  rcases h.form with ⟨rfl, rfl⟩ | ⟨g, cap, rfl, ho, _, hg⟩
  · exact ⟨none, 0, rfl, fun h => by simp at h, Nat.le_refl _⟩
  · exact ⟨_, _, rfl, Reads.of_own ho hg, ho.cap.1⟩
theorem Sl.below {w w' : World} {lo hi B : Nat} {v : Value} {l : List Int} (h : Sl w lo hi v l) (hb : Below B w w') (hB : hi ≤ B) : Sl w' lo hi v l := by
  rcases h.form with ⟨rfl, rfl⟩ | ⟨g, cap, rfl, ho, _, hg⟩
  · exact Sl.nil _ _ _
  · exact Sl.of_own (ho.below hb (by omega)) hg
theorem Sl.kept {w w' : World} {lo hi : Nat} {row : Option Nat} {v : Value} {l : List Int} (h : Sl w lo hi v l) (hb : w.grownBy w' row) (hne : ∀ g, row = some g → g < lo ∨ hi ≤ g) : Sl w' lo hi v l := by
  refine ⟨h.1.kept hb ?_, h.2⟩
  rcases h.form with ⟨rfl, rfl⟩ | ⟨g, cap, rfl, ho, hlo, hg⟩
  · exact .inl rfl
  · refine .inr fun e => ?_
    have := hne g (by rw [← e]; rfl)
    omega
theorem Sl.mono {w : World} {lo hi lo' hi' : Nat} {v : Value} {l : List Int} (h : Sl w lo hi v l) (h1 : lo' ≤ lo) (h2 : hi ≤ hi') : Sl w lo' hi' v l := by
  rcases h.form with ⟨rfl, rfl⟩ | ⟨g, cap, rfl, ho, hlo, hg⟩
  · exact Sl.nil _ _ _
  · exact Sl.of_own (ho.mono h1) (by omega)
/-- numbers of a signal -/
def inSam (n : Int) : Bool := inB n (-1000000) 1000000
def sigOK (l : List Int) : Bool := decide (l.length ≤ 3000) && l.all inSam
theorem sig_len {l : List Int} (h : sigOK l = true) : l.length ≤ 3000 := by simp [sigOK] at h; exact h.1
theorem sig_at {l : List Int} (h : sigOK l = true) (k : Nat) : -1000000 ≤ l.getD k 0 ∧ l.getD k 0 ≤ 1000000 := by
  rw [List.getD_eq_getElem?_getD]
  by_cases hk : k < l.length
  · simp only [sigOK, Bool.and_eq_true, List.all_eq_true] at h
    have := h.2 l[k] (List.getElem_mem hk)
    rw [List.getElem?_eq_getElem hk]
    simpa [inSam, inB] using this
  · rw [List.getElem?_eq_none (by omega)]; simp
theorem sig_long {l : List Int} (h : ¬ l.length ≤ 3000) : sigOK l = false := by simp [sigOK, h]
theorem take_next {l : List Int} {k : Nat} (h : k < l.length) : l.take (k + 1) = l.take k ++ [l.getD k 0] := by
  rw [List.take_succ_eq_append_getElem h, List.getD_eq_getElem?_getD, List.getElem?_eq_getElem h]; rfl
theorem all_next {l : List Int} {k : Nat} (h : k < l.length) (ha : (l.take k).all inSam = true) (hx : inSam (l.getD k 0) = true) : (l.take (k + 1)).all inSam = true := by
  rw [take_next h, List.all_append, ha]; simp only [List.all_cons, List.all_nil, Bool.and_true, Bool.true_and]; exact hx
theorem all_not {l : List Int} {k : Nat} (h : k < l.length) (hx : inSam (l.getD k 0) = false) : l.all inSam = false := by
  rw [List.all_eq_false]
  refine ⟨l[k], List.getElem_mem h, ?_⟩
  rw [List.getD_eq_getElem?_getD, List.getElem?_eq_getElem h] at hx
  simpa using hx
theorem sig_all {l : List Int} (h : (l.take l.length).all inSam = true) : sigOK l = decide (l.length ≤ 3000) := by
  rw [List.take_length] at h; rw [sigOK, h, Bool.and_true]
theorem sig_not {l : List Int} {k : Nat} (h : k < l.length) (hx : inSam (l.getD k 0) = false) : sigOK l = false := by
  rw [sigOK, all_not h hx, Bool.and_false]

set_option maxHeartbeats 400000 in
theorem within_any (A : Option Addr) (c : Nat) (l : List Int) (w : World) (hr : Reads w w.heap.size A l) (hl : l.length ≤ 1048576) :
    Calls Try.prog 67 #[.slice A l.length c, .int .i64 (-1000000), .int .i64 1000000] w fun e w' => e = .returned (.bool (l.all inSam)) ∧ w = w' := by
  have HR := Lib.hid hr
  clear hr
  go_enter Try.func67, Try.ntmps67
  go_wp2
  go_loop [8, 11] (fun _ i => ∃ k : Nat, k ≤ l.length ∧ i = .int .i64 k ∧ (l.take k).all inSam = true) (fun _ i => l.length - (intOf i).toNat)
  case atStart => exact ⟨0, Nat.zero_le _, rfl, by simp⟩
  case round =>
    obtain ⟨k, hk, rfl, hall⟩ := hrel
    have HA := Lib.hid hall
    clear hall
    by_cases hlt : k < l.length
    · obtain ⟨ad, rfl, hbk, hcell⟩ := HR.out.at_ hlt
      obtain ⟨x, hx⟩ : ∃ x, x = l.getD k 0 := ⟨_, rfl⟩
      rw [← hx] at hcell
      have HX := Lib.hid hx
      clear hx
      by_cases h1 : -1000000 ≤ x
      · by_cases h2 : x ≤ 1000000
        · go_wp2
          go_round
          case rel => exact ⟨k + 1, by omega, by go_num, all_next hlt HA.out (by rw [← HX.out]; exact inB_yes h1 h2)⟩
          case measure => simp [intOf]; omega
        · go_wp2
          go_ret
          exact ⟨ret_bool (all_not hlt (by rw [← HX.out]; exact inB_no (by omega))).symm, rfl⟩
      · go_wp2
        go_ret
        exact ⟨ret_bool (all_not hlt (by rw [← HX.out]; exact inB_no (by omega))).symm, rfl⟩
    · obtain rfl : k = l.length := by omega
      go_wp2
      go_ret
      exact ⟨ret_bool (by have := HA.out; rw [List.take_length] at this; rw [this]), rfl⟩
theorem sigI_any (A : Option Addr) (c : Nat) (l : List Int) (w : World) (hr : Reads w w.heap.size A l) (hl : l.length ≤ 1048576) :
    Calls Try.prog 38 #[.slice A l.length c] w fun e w' => e = .returned (.bool (sigOK l)) ∧ w = w' := by
  by_cases h : l.length ≤ 3000
  · have e : sigOK l = l.all inSam := by rw [sigOK, decide_eq_true h, Bool.true_and]
    rw [e]
    have d1 : decide ((l.length : Int) ≤ 3000) = true := decide_eq_true (by omega)
    clear e
    go_enter Try.func38, Try.ntmps38
    go_wp2_with fail
    refine (within_any _ _ _ _ hr hl).mono ?_
    rintro e w' ⟨rfl, rfl⟩
    go_wp2
    go_ret
    exact ⟨rfl, rfl⟩
  · rw [sig_long h]
    have d1 : decide ((l.length : Int) ≤ 3000) = false := decide_eq_false (by omega)
    go_enter Try.func38, Try.ntmps38
    go_wp2
    go_ret
    exact ⟨rfl, rfl⟩
set_option maxHeartbeats 400000 in
theorem sigS_any (A : Option Addr) (c : Nat) (l : List Int) (w : World) (hr : Reads w w.heap.size A l) (hl : l.length ≤ 1048576) :
    Calls Try.prog 64 #[.slice A l.length c] w fun e w' => e = .returned (.bool (sigOK l)) ∧ w = w' := by
  have HR := Lib.hid hr
  clear hr
  go_enter Try.func64, Try.ntmps64
  go_wp2
  go_loop [3] (fun i => ∃ k : Nat, k ≤ l.length ∧ i = .int .i64 k ∧ (l.take k).all inSam = true) (fun i => l.length - (intOf i).toNat)
  case atStart => exact ⟨0, Nat.zero_le _, rfl, by simp⟩
  case round =>
    obtain ⟨k, hk, rfl, hall⟩ := hrel
    have HA := Lib.hid hall
    clear hall
    by_cases hlt : k < l.length
    · obtain ⟨ad, rfl, hbk, hcell⟩ := HR.out.at_ hlt
      obtain ⟨x, hx⟩ : ∃ x, x = l.getD k 0 := ⟨_, rfl⟩
      rw [← hx] at hcell
      have HX := Lib.hid hx
      clear hx
      by_cases h1 : -1000000 ≤ x ∧ x ≤ 1000000
      · have hi := inB_yes h1.1 h1.2
        go_wp2_with fail
        refine (l1In_any _ _ _ _).mono ?_
        rintro e w' ⟨rfl, rfl⟩
        go_wp2
        go_round
        case rel => exact ⟨k + 1, by omega, by go_num, all_next hlt HA.out (by rw [← HX.out]; exact hi)⟩
        case measure => simp [intOf]; omega
      · have hi := inB_no h1
        go_wp2_with fail
        refine (l1In_any _ _ _ _).mono ?_
        rintro e w' ⟨rfl, rfl⟩
        go_wp2
        go_ret
        exact ⟨ret_bool (sig_not hlt (by rw [← HX.out]; exact hi)).symm, rfl⟩
    · obtain rfl : k = l.length := by omega
      go_wp2
      go_ret
      exact ⟨ret_bool (by rw [sig_all HA.out]; exact decide_eq_decide.2 (by omega)), rfl⟩
end Go.Proofs.Ytiiiaeemblcniaa
