/- Contracts of offsets and of OffsetDistance. -/
import Derived.Test.YtholipfekecloaaPilot
import Derived.WalkSpells
import Derived.Outline
namespace Go.Proofs.Ytholipfekecloaa
set_option maxRecDepth 20000
open Go.ChangeShapes Go.WideShapes Go.ChangeAt Go.RowKit
set_option linter.unusedVariables false
set_option linter.unusedSimpArgs false

/-- an offset of a pilot -/
def offOK (s : ByteArray) (n x : Int) : Bool := decide (0 ≤ x) && decide (x < pilotLen s n)
theorem off_neg {s : ByteArray} {n x : Int} (h : ¬ 0 ≤ x) : offOK s n x = false := by simp [offOK, h]
theorem off_pos {s : ByteArray} {n x : Int} (h : 0 ≤ x) : offOK s n x = decide (x < pilotLen s n) := by simp [offOK, h]
theorem off_inv {s : ByteArray} {n x : Int} (h : pilotOK s.data.toList n = false) : offOK s n x = false := by
  simp [offOK, pilotLen_no h]; omega
theorem off_in {s : ByteArray} {n x : Int} (h : pilotOK s.data.toList n = true) : offOK s n x = inB x 0 ((s.size : Int) * n - 1) := by
  simp only [offOK, pilotLen_yes h, inB]
  congr 1
  exact decide_eq_decide.2 (by omega)
theorem off_parts {s : ByteArray} {n x : Int} (h : offOK s n x = true) : pilotOK s.data.toList n = true ∧ 0 ≤ x ∧ x < (s.size : Int) * n := by
  cases hp : pilotOK s.data.toList n
  · rw [off_inv hp] at h; cases h
  · simp only [offOK, pilotLen_yes hp, Bool.and_eq_true, decide_eq_true_eq] at h
    exact ⟨rfl, h.1, h.2⟩
theorem plen_bd (s : ByteArray) (n : Int) : -1 ≤ pilotLen s n ∧ pilotLen s n ≤ 2040 := by
  cases hp : pilotOK s.data.toList n
  · rw [pilotLen_no hp]; omega
  · rw [pilotLen_yes hp]; obtain ⟨_, _, _, _, _, h5, h6⟩ := pilot_parts hp; omega
set_option maxHeartbeats 400000 in
theorem isOff_any (s : ByteArray) (n x : Int) (w : World) (hs : s.size ≤ maxLen) :
    Calls Try.prog 50 #[.agg #[.string s, .int .i64 n], .int .i64 x] w fun e w' => e = .returned (.bool (offOK s n x)) ∧ Below w.heap.size w w' := by
  by_cases h : 0 ≤ x
  · rw [off_pos h]
    go_enter Try.func50, Try.ntmps50
    have hb := Below.refl (w.alloc (.cells #[.string s, .int .i64 n] 24)).heap.size (w.alloc (.cells #[.string s, .int .i64 n] 24))
    go_wp2_with fail
    refine (plenI_any _ _ _ hs).mono ?_
    rintro e w1 ⟨rfl, k⟩
    replace hb := below_next hb k
    clear k
    (try clear hc hf)
    obtain ⟨hc, hf⟩ := bcell hb
    go_wp2
    go_ret
    exact ⟨ret_bool (by simp), below_out hb⟩
  · rw [off_neg h]
    go_enter Try.func50, Try.ntmps50
    go_wp2
    go_ret
    exact ⟨rfl, (Below.refl _ _).alloc (Nat.le_refl _) _⟩
set_option maxHeartbeats 400000 in
theorem l5Off_any (s : ByteArray) (n x : Int) (w : World) (hp : pilotOK s.data.toList n = true) :
    Calls Try.prog 53 #[.agg #[.string s, .int .i64 n], .int .i64 x] w fun e w' => e = .returned (.bool (offOK s n x)) ∧ Below w.heap.size w w' := by
  rw [off_in hp]
  obtain ⟨_, h1, h2, h3, h4, h5, h6⟩ := pilot_parts hp
  go_enter Try.func53, Try.ntmps53
  have hb := Below.refl (w.alloc (.cells #[.string s, .int .i64 n] 24)).heap.size (w.alloc (.cells #[.string s, .int .i64 n] 24))
  go_wp2_with fail
  refine (l5Length_any _ _ _ (by omega) (by omega)).mono ?_
  rintro e w1 ⟨rfl, k⟩
  replace hb := below_next hb k
  clear k
  (try clear hc hf)
  obtain ⟨hc, hf⟩ := bcell hb
  go_wp2_with fail
  refine (l1In_any _ _ _ _).mono ?_
  rintro e w' ⟨rfl, rfl⟩
  go_wp2
  go_ret
  exact ⟨rfl, below_out hb⟩
theorem abs_any (x : Int) (w : World) (h0 : -1000000000 ≤ x) (h1 : x ≤ 1000000000) : Calls Try.prog 51 #[.int .i64 x] w fun e w' => e = .returned (.int .i64 (max x (-x))) ∧ w = w' := by
  go_enter Try.func51, Try.ntmps51
  go_wp2
  all_goals
    go_ret
    exact ⟨ret_int (by omega), rfl⟩
/-- what OffsetDistance returns -/
def offDist (s : ByteArray) (n a b : Int) : Int := if offOK s n a && offOK s n b then min (max (a - b) (-(a - b))) (pilotLen s n - max (a - b) (-(a - b))) else -1
theorem dist_na {s : ByteArray} {n a b : Int} (h : offOK s n a = false) : offDist s n a b = -1 := by simp [offDist, h]
theorem dist_nb {s : ByteArray} {n a b : Int} (h : offOK s n b = false) : offDist s n a b = -1 := by simp [offDist, h]
theorem dist_yes {s : ByteArray} {n a b : Int} (h : offOK s n a = true) (h' : offOK s n b = true) : offDist s n a b = min (max (a - b) (-(a - b))) ((s.size : Int) * n - max (a - b) (-(a - b))) := by
  simp [offDist, h, h', pilotLen_yes (off_parts h).1]
set_option maxHeartbeats 400000 in
theorem distI_any (s : ByteArray) (n a b : Int) (w : World) (hs : s.size ≤ maxLen) :
    Calls Try.prog 11 #[.agg #[.string s, .int .i64 n], .int .i64 a, .int .i64 b] w fun e w' => e = .returned (.int .i64 (offDist s n a b)) ∧ Below w.heap.size w w' := by
  cases ha : offOK s n a
  · rw [dist_na ha]
    go_enter Try.func11, Try.ntmps11
    have hb := Below.refl (w.alloc (.cells #[.string s, .int .i64 n] 24)).heap.size (w.alloc (.cells #[.string s, .int .i64 n] 24))
    go_wp2_with fail
    refine (isOff_any _ _ _ _ hs).mono ?_
    rintro e w1 ⟨rfl, k⟩
    replace hb := below_next hb k
    clear k
    (try clear hc hf)
    obtain ⟨hc, hf⟩ := bcell hb
    go_wp2
    go_ret
    exact ⟨rfl, below_out hb⟩
  · cases hbb : offOK s n b
    · rw [dist_nb hbb]
      go_enter Try.func11, Try.ntmps11
      have hb := Below.refl (w.alloc (.cells #[.string s, .int .i64 n] 24)).heap.size (w.alloc (.cells #[.string s, .int .i64 n] 24))
      go_wp2_with fail
      refine (isOff_any _ _ _ _ hs).mono ?_
      rintro e w1 ⟨rfl, k⟩
      replace hb := below_next hb k
      clear k
      (try clear hc hf)
      obtain ⟨hc, hf⟩ := bcell hb
      go_wp2_with fail
      refine (isOff_any _ _ _ _ hs).mono ?_
      rintro e w2 ⟨rfl, k⟩
      replace hb := below_next hb k
      clear k
      (try clear hc hf)
      obtain ⟨hc, hf⟩ := bcell hb
      go_wp2
      go_ret
      exact ⟨rfl, below_out hb⟩
    · rw [dist_yes ha hbb]
      obtain ⟨hp, a1, a2⟩ := off_parts ha
      obtain ⟨_, b1, b2⟩ := off_parts hbb
      obtain ⟨_, h1, h2, h3, h4, h5, h6⟩ := pilot_parts hp
      have hl := pilotLen_yes hp
      have HL := Lib.hid hl
      clear hl
      go_enter Try.func11, Try.ntmps11
      have hb := Below.refl (w.alloc (.cells #[.string s, .int .i64 n] 24)).heap.size (w.alloc (.cells #[.string s, .int .i64 n] 24))
      go_wp2_with fail
      refine (isOff_any _ _ _ _ hs).mono ?_
      rintro e w1 ⟨rfl, k⟩
      replace hb := below_next hb k
      clear k
      (try clear hc hf)
      obtain ⟨hc, hf⟩ := bcell hb
      go_wp2_with fail
      refine (isOff_any _ _ _ _ hs).mono ?_
      rintro e w2 ⟨rfl, k⟩
      replace hb := below_next hb k
      clear k
      (try clear hc hf)
      obtain ⟨hc, hf⟩ := bcell hb
      go_wp2_with fail
      refine (abs_any _ _ (by omega) (by omega)).mono ?_
      rintro e w' ⟨rfl, rfl⟩
      have hpl := plen_bd s n
      go_wp2_with fail
      refine (plenI_any _ _ _ hs).mono ?_
      rintro e w3 ⟨rfl, k⟩
      replace hb := below_next hb k
      clear k
      (try clear hc hf)
      obtain ⟨hc, hf⟩ := bcell hb
      rw [HL.out]
      go_wp2
      all_goals
        go_ret
        exact ⟨ret_int (by omega), below_out hb⟩
set_option maxHeartbeats 400000 in
theorem distS_any (s : ByteArray) (n a b : Int) (w : World) (hs : s.size ≤ maxLen) :
    Calls Try.prog 12 #[.agg #[.string s, .int .i64 n], .int .i64 a, .int .i64 b] w fun e w' => e = .returned (.int .i64 (offDist s n a b)) ∧ Below w.heap.size w w' := by
  cases hp : pilotOK s.data.toList n
  · rw [dist_na (off_inv hp)]
    go_enter Try.func12, Try.ntmps12
    have hb := Below.refl (w.alloc (.cells #[.string s, .int .i64 n] 24)).heap.size (w.alloc (.cells #[.string s, .int .i64 n] 24))
    go_wp2_with fail
    refine (pilotS_any _ _ _ hs).mono ?_
    rintro e w1 ⟨rfl, k⟩
    replace hb := below_next hb k
    clear k
    (try clear hc hf)
    obtain ⟨hc, hf⟩ := bcell hb
    go_wp2
    go_ret
    exact ⟨rfl, below_out hb⟩
  · cases ha : offOK s n a
    · rw [dist_na ha]
      go_enter Try.func12, Try.ntmps12
      have hb := Below.refl (w.alloc (.cells #[.string s, .int .i64 n] 24)).heap.size (w.alloc (.cells #[.string s, .int .i64 n] 24))
      go_wp2_with fail
      refine (pilotS_any _ _ _ hs).mono ?_
      rintro e w1 ⟨rfl, k⟩
      replace hb := below_next hb k
      clear k
      (try clear hc hf)
      obtain ⟨hc, hf⟩ := bcell hb
      go_wp2_with fail
      refine (l5Off_any _ _ _ _ hp).mono ?_
      rintro e w2 ⟨rfl, k⟩
      replace hb := below_next hb k
      clear k
      (try clear hc hf)
      obtain ⟨hc, hf⟩ := bcell hb
      go_wp2
      go_ret
      exact ⟨rfl, below_out hb⟩
    · cases hbb : offOK s n b
      · rw [dist_nb hbb]
        go_enter Try.func12, Try.ntmps12
        have hb := Below.refl (w.alloc (.cells #[.string s, .int .i64 n] 24)).heap.size (w.alloc (.cells #[.string s, .int .i64 n] 24))
        go_wp2_with fail
        refine (pilotS_any _ _ _ hs).mono ?_
        rintro e w1 ⟨rfl, k⟩
        replace hb := below_next hb k
        clear k
        (try clear hc hf)
        obtain ⟨hc, hf⟩ := bcell hb
        go_wp2_with fail
        refine (l5Off_any _ _ _ _ hp).mono ?_
        rintro e w2 ⟨rfl, k⟩
        replace hb := below_next hb k
        clear k
        (try clear hc hf)
        obtain ⟨hc, hf⟩ := bcell hb
        go_wp2_with fail
        refine (l5Off_any _ _ _ _ hp).mono ?_
        rintro e w3 ⟨rfl, k⟩
        replace hb := below_next hb k
        clear k
        (try clear hc hf)
        obtain ⟨hc, hf⟩ := bcell hb
        go_wp2
        go_ret
        exact ⟨rfl, below_out hb⟩
      · rw [dist_yes ha hbb]
        obtain ⟨_, a1, a2⟩ := off_parts ha
        obtain ⟨_, b1, b2⟩ := off_parts hbb
        obtain ⟨_, h1, h2, h3, h4, h5, h6⟩ := pilot_parts hp
        go_enter Try.func12, Try.ntmps12
        have hb := Below.refl (w.alloc (.cells #[.string s, .int .i64 n] 24)).heap.size (w.alloc (.cells #[.string s, .int .i64 n] 24))
        go_wp2_with fail
        refine (pilotS_any _ _ _ hs).mono ?_
        rintro e w1 ⟨rfl, k⟩
        replace hb := below_next hb k
        clear k
        (try clear hc hf)
        obtain ⟨hc, hf⟩ := bcell hb
        go_wp2_with fail
        refine (l5Off_any _ _ _ _ hp).mono ?_
        rintro e w2 ⟨rfl, k⟩
        replace hb := below_next hb k
        clear k
        (try clear hc hf)
        obtain ⟨hc, hf⟩ := bcell hb
        go_wp2_with fail
        refine (l5Off_any _ _ _ _ hp).mono ?_
        rintro e w3 ⟨rfl, k⟩
        replace hb := below_next hb k
        clear k
        (try clear hc hf)
        obtain ⟨hc, hf⟩ := bcell hb
        go_wp2_with fail
        all_goals
          refine (l5Length_any _ _ _ (by omega) (by omega)).mono ?_
          rintro e w4 ⟨rfl, k⟩
          have hb4 := below_next hb k
          clear k
          go_wp2
          all_goals
            go_ret
            exact ⟨ret_int (by omega), below_out hb4⟩
end Go.Proofs.Ytholipfekecloaa
