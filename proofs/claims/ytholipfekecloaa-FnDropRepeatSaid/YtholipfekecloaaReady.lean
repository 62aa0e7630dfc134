/- What the walks of laws over signals and pilots share; contracts of ScoreAt. -/
import Derived.Test.YtholipfekecloaaChip
namespace Go.Proofs.Ytholipfekecloaa
set_option maxRecDepth 20000
open Go.ChangeShapes Go.WideShapes Go.ChangeAt Go.RowKit
set_option linter.unusedVariables false
set_option linter.unusedSimpArgs false

theorem block_lt {w : World} {a : Addr} {v : Value} (h : w.cell? a = some v) : a.block < w.heap.size := by
  rcases Nat.lt_or_ge a.block w.heap.size with h1 | h1
  · exact h1
  · simp [World.cell?, Array.getElem?_eq_none h1] at h
/-- a slice of numbers that came in is read -/
theorem isRow_reads {w : World} {a : Option Addr} {len cap : Nat} {z : List Int} (h : IsRow .i64 w a len cap z) : ∃ l : List Int, len = l.length ∧ Reads w w.heap.size a l ∧ len ≤ maxLen := by
  rcases h with ⟨rfl, rfl, rfl, rfl⟩ | ⟨x, rfl, h1, h2, h3, h4, h5⟩
  · exact ⟨[], rfl, fun h => by simp at h, Nat.zero_le _⟩
  · have hl : (z.take len).length = len := by rw [List.length_take]; omega
    refine ⟨z.take len, hl.symm, fun h => ?_, by omega⟩
    have hb : x.block < w.heap.size := by
      have := block_lt (h4 0 (by omega))
      unfold Addr.add at this
      split at this <;> exact this
    refine ⟨x, rfl, hb, fun j hj => ?_⟩
    rw [hl] at hj
    rw [h4 j (by omega)]
    simp [List.getD_eq_getElem?_getD, List.getElem?_take, hj]
theorem lcells {w u : World} {s : ByteArray} {n : Int} {t : TypeId} (h : Below (w.alloc (.cells #[.string s, .int .i64 n] t)).heap.size (w.alloc (.cells #[.string s, .int .i64 n] t)) u) :
    u.cell? ⟨w.heap.size, 0, none⟩ = some (.string s) ∧ u.cell? ⟨w.heap.size, 1, none⟩ = some (.int .i64 n) := by
  have h0 := (bcell h).1 w.heap.size 0 (by simp)
  have h1 := (bcell h).1 w.heap.size 1 (by simp)
  simp at h0 h1
  exact ⟨h0, h1⟩
/-- a number and whether there is one, as two results -/
def intRes (o : Option Int) : Value := match o with
  | some v => .tuple #[.int .i64 v, .bool true]
  | none => .tuple #[.int .i64 0, .bool false]
theorem intRes_form (o : Option Int) : ∃ x b, intRes o = .tuple #[.int .i64 x, .bool b] := by cases o <;> exact ⟨_, _, rfl⟩
/-- an offset of a valid pilot, in numbers -/
theorem off_nat {s : ByteArray} {n x : Int} (h : offOK s n x = true) : ∃ m off : Nat, n = m ∧ x = off ∧ pilotOK s.data.toList (m : Int) = true ∧ off < s.size * m ∧ 1 ≤ m ∧ m ≤ 8 ∧ 1 ≤ s.size ∧ s.size ≤ 255 ∧ s.size * m ≤ 2040 := by
  obtain ⟨hp, h0, h1⟩ := off_parts h
  obtain ⟨m, rfl, a1, a2, a3, a4, a5, a6⟩ := pilot_nat hp
  have e : (s.size : Int) * (m : Int) = ((s.size * m : Nat) : Int) := by simp
  rw [e] at h1
  exact ⟨m, x.toNat, rfl, by omega, hp, by omega, a1, a2, a3, a4, a6⟩
theorem sl_in {w : World} {lo hi : Nat} {v : Value} {l : List Int} (h : Sl w lo hi v l) (hh : hi ≤ w.heap.size) : ∃ A c, v = .slice A l.length c ∧ Reads w w.heap.size A l := by
  obtain ⟨A, c, e, hr, _⟩ := h.reads
  exact ⟨A, c, e, hr.more hh⟩
theorem sl_rd {w : World} {lo hi g n c : Nat} {l : List Int} (h : Sl w lo hi (.slice (some ⟨g, 0, none⟩) n c) l) (hh : hi ≤ w.heap.size) : Reads w w.heap.size (some ⟨g, 0, none⟩) l := by
  obtain ⟨A, c', e, hr, _⟩ := h.reads
  simp only [Value.slice.injEq] at e
  rw [e.1]
  exact hr.more hh
theorem readyS_any (A : Option Addr) (c : Nat) (z : List Int) (s : ByteArray) (n : Int) (w : World) (hr : Reads w w.heap.size A z) (hl : z.length ≤ 1048576) (hs : s.size ≤ maxLen) :
    Calls Try.prog 70 #[.slice A z.length c, .agg #[.string s, .int .i64 n]] w fun e w' => e = .returned (.bool (sigOK z && pilotOK s.data.toList n)) ∧ Below w.heap.size w w' := by
  have HR := Lib.hid hr
  clear hr
  cases hz : sigOK z
  · go_enter Try.func70, Try.ntmps70
    have hb := Below.refl (w.alloc (.cells #[.string s, .int .i64 n] 24)).heap.size (w.alloc (.cells #[.string s, .int .i64 n] 24))
    go_wp2_with fail
    refine (sigS_any _ _ _ _ (reads_up HR.out hb) hl).mono ?_
    rintro e w' ⟨rfl, rfl⟩
    go_wp2
    go_ret
    exact ⟨rfl, below_out hb⟩
  · go_enter Try.func70, Try.ntmps70
    have hb := Below.refl (w.alloc (.cells #[.string s, .int .i64 n] 24)).heap.size (w.alloc (.cells #[.string s, .int .i64 n] 24))
    go_wp2_with fail
    refine (sigS_any _ _ _ _ (reads_up HR.out hb) hl).mono ?_
    rintro e w' ⟨rfl, rfl⟩
    go_wp2_with fail
    refine (pilotS_any _ _ _ hs).mono ?_
    rintro e w1 ⟨rfl, k⟩
    replace hb := below_next hb k
    clear k
    (try clear hc hf)
    obtain ⟨hc, hf⟩ := bcell hb
    go_wp2
    go_ret
    exact ⟨ret_bool (by simp), below_out hb⟩
/-- the score at an offset -/
def scoreO (z : List Int) (s : ByteArray) (n x : Int) : Option Int := if sigOK z && offOK s n x then some (score z s.data.toList n.toNat x.toNat 0) else none
theorem scoreO_ns {z : List Int} {s : ByteArray} {n x : Int} (h : sigOK z = false) : scoreO z s n x = none := by simp [scoreO, h]
theorem scoreO_no {z : List Int} {s : ByteArray} {n x : Int} (h : offOK s n x = false) : scoreO z s n x = none := by simp [scoreO, h]
theorem scoreO_yes {z : List Int} {s : ByteArray} {m off : Nat} (h : sigOK z = true) (h' : offOK s (m : Int) (off : Int) = true) : scoreO z s (m : Int) (off : Int) = some (score z s.data.toList m off 0) := by simp [scoreO, h, h']
theorem scoreAtI_any (A : Option Addr) (c : Nat) (z : List Int) (s : ByteArray) (n x : Int) (w : World) (hr : Reads w w.heap.size A z) (hl : z.length ≤ 1048576) (hs : s.size ≤ maxLen) :
    Calls Try.prog 35 #[.slice A z.length c, .agg #[.string s, .int .i64 n], .int .i64 x] w fun e w' => e = .returned (intRes (scoreO z s n x)) ∧ Below w.heap.size w w' := by
  have HR := Lib.hid hr
  clear hr
  cases hz : sigOK z
  · rw [scoreO_ns hz]
    go_enter Try.func35, Try.ntmps35
    have hb := Below.refl (w.alloc (.cells #[.string s, .int .i64 n] 24)).heap.size (w.alloc (.cells #[.string s, .int .i64 n] 24))
    go_wp2_with fail
    refine (sigI_any _ _ _ _ (reads_up HR.out hb) hl).mono ?_
    rintro e w' ⟨rfl, rfl⟩
    go_wp2
    go_ret2
    exact ⟨rfl, below_out hb⟩
  · cases ho : offOK s n x
    · rw [scoreO_no ho]
      go_enter Try.func35, Try.ntmps35
      have hb := Below.refl (w.alloc (.cells #[.string s, .int .i64 n] 24)).heap.size (w.alloc (.cells #[.string s, .int .i64 n] 24))
      go_wp2_with fail
      refine (sigI_any _ _ _ _ (reads_up HR.out hb) hl).mono ?_
      rintro e w' ⟨rfl, rfl⟩
      go_wp2_with fail
      refine (isOff_any _ _ _ _ hs).mono ?_
      rintro e w1 ⟨rfl, k⟩
      replace hb := below_next hb k
      clear k
      (try clear hc hf)
      obtain ⟨hc, hf⟩ := bcell hb
      go_wp2
      go_ret2
      exact ⟨rfl, below_out hb⟩
    · obtain ⟨m, off, rfl, rfl, hp, h0, h1, h2, h3, h4, h5⟩ := off_nat ho
      rw [scoreO_yes hz ho]
      go_enter Try.func35, Try.ntmps35
      have hb := Below.refl (w.alloc (.cells #[.string s, .int .i64 (m:Int)] 24)).heap.size (w.alloc (.cells #[.string s, .int .i64 (m:Int)] 24))
      go_wp2_with fail
      refine (sigI_any _ _ _ _ (reads_up HR.out hb) hl).mono ?_
      rintro e w' ⟨rfl, rfl⟩
      go_wp2_with fail
      refine (isOff_any _ _ _ _ hs).mono ?_
      rintro e w1 ⟨rfl, k⟩
      replace hb := below_next hb k
      clear k
      (try clear hc hf)
      obtain ⟨hc, hf⟩ := bcell hb
      go_wp2_with fail
      refine (scoreI_any _ _ _ _ _ _ _ (reads_up HR.out hb) hz h1 h2 h3 h4 h5 (by omega) (by omega)).mono ?_
      rintro e w2 ⟨rfl, k⟩
      replace hb := below_next hb k
      clear k
      (try clear hc hf)
      obtain ⟨hc, hf⟩ := bcell hb
      go_wp2
      go_ret2
      exact ⟨rfl, below_out hb⟩
end Go.Proofs.Ytholipfekecloaa
