/- Contracts of EarlyLate, TrackStep and LockedAt. -/
import Derived.Test.YtmecbiphejjkmaaReady
namespace Go.Proofs.Ytmecbiphejjkmaa
set_option maxRecDepth 20000
open Go.ChangeShapes Go.WideShapes Go.ChangeAt Go.RowKit
set_option linter.unusedVariables false
set_option linter.unusedSimpArgs false

/-- how far the earlier and the later score are from an offset -/
def half (m : Nat) : Nat := if m / 2 ≤ 1 then 1 else m / 2
theorem half_bd (m : Nat) (h : 1 ≤ m) (h8 : m ≤ 8) : 1 ≤ half m ∧ half m ≤ 4 ∧ half m ≤ m := by unfold half; split <;> omega
def upTo (L off h : Nat) : Nat := (off + h) % L
def downTo (L off h : Nat) : Nat := (off + (L - h)) % L
theorem up_int {L off h : Nat} (hL : 0 < L) : ((off : Int) + (h : Int)) % (L : Int) = (upTo L off h : Int) := by unfold upTo; simp
theorem down_int {L off h : Nat} (hL : 0 < L) (hh : h ≤ L) : ((off : Int) - (h : Int)) % (L : Int) = (downTo L off h : Int) := by
  unfold downTo
  have e : ((off : Int) - (h : Int)) % (L : Int) = ((off : Int) - (h : Int) + (L : Int)) % (L : Int) := by rw [Int.add_emod_right]
  rw [e]
  have e2 : (off : Int) - (h : Int) + (L : Int) = ((off + (L - h) : Nat) : Int) := by omega
  rw [e2]; rfl
theorem up_lt {L : Nat} (off h : Nat) (hL : 0 < L) : upTo L off h < L := Nat.mod_lt _ hL
theorem down_lt {L : Nat} (off h : Nat) (hL : 0 < L) : downTo L off h < L := Nat.mod_lt _ hL
/-- the later score minus the earlier one -/
def early (z : List Int) (l : List UInt8) (m off : Nat) : Int := score z l m (upTo (l.length * m) off (half m)) 0 - score z l m (downTo (l.length * m) off (half m)) 0
theorem early_le {z : List Int} (hz : sigOK z = true) {l : List UInt8} {m : Nat} (off : Nat) (hL : l.length * m ≤ 2040) : -4080000000 ≤ early z l m off ∧ early z l m off ≤ 4080000000 := by
  have h1 := score_le hz (upTo (l.length * m) off (half m)) 0 hL
  have h2 := score_le hz (downTo (l.length * m) off (half m)) 0 hL
  unfold early; omega
/-- what EarlyLate returns -/
def earlyO (z : List Int) (s : ByteArray) (n x : Int) : Option Int := if sigOK z && offOK s n x then some (early z s.data.toList n.toNat x.toNat) else none
theorem earlyO_ns {z : List Int} {s : ByteArray} {n x : Int} (h : sigOK z = false) : earlyO z s n x = none := by simp [earlyO, h]
theorem earlyO_no {z : List Int} {s : ByteArray} {n x : Int} (h : offOK s n x = false) : earlyO z s n x = none := by simp [earlyO, h]
theorem earlyO_yes {z : List Int} {s : ByteArray} {m off : Nat} (h : sigOK z = true) (h' : offOK s (m : Int) (off : Int) = true) : earlyO z s (m : Int) (off : Int) = some (early z s.data.toList m off) := by simp [earlyO, h, h']
set_option maxHeartbeats 2000000 in
theorem earlyI_yes (A : Option Addr) (c : Nat) (z : List Int) (s : ByteArray) (m off : Nat) (w : World) (hr : Reads w w.heap.size A z) (hz : sigOK z = true) (ho : offOK s (m : Int) (off : Int) = true) (hs : s.size ≤ maxLen) :
    Calls Try.prog 56 #[.slice A z.length c, .agg #[.string s, .int .i64 (m : Int)], .int .i64 off] w fun e w' => e = .returned (.tuple #[.int .i64 (early z s.data.toList m off), .bool true]) ∧ Below w.heap.size w w' := by
  obtain ⟨m', off', e1, e2, hp, h0, h1, h2, h3, h4, h5⟩ := off_nat ho
  obtain rfl : m = m' := by omega
  obtain rfl : off = off' := by omega
  clear e1 e2
  have hl := sig_len hz
  have hh := half_bd m h1 h2
  obtain ⟨L, hLe⟩ : ∃ L, L = s.size * m := ⟨_, rfl⟩
  have hmL : m ≤ L := by rw [hLe]; exact Nat.le_mul_of_pos_left m h3
  have HPL : Hid (∀ u : World, Calls Try.prog 16 #[.agg #[.string s, .int .i64 (m : Int)]] u fun e w' => e = .returned (.int .i64 (L : Int)) ∧ Below u.heap.size u w') := fun u => by rw [hLe]; exact plenI_nat u hp hs
  have HSC : Hid (∀ (q : Nat) (u : World), q < L → Below (w.alloc (.cells #[.string s, .int .i64 (m : Int)] 25)).heap.size (w.alloc (.cells #[.string s, .int .i64 (m : Int)] 25)) u → Calls Try.prog 39 #[.slice A z.length c, .agg #[.string s, .int .i64 (m : Int)], .int .i64 q] u fun e w' => e = .returned (.int .i64 (score z s.data.toList m q 0)) ∧ Below u.heap.size u w') := fun q u hq hu =>
    scoreI_any A c z s m q u (reads_up hr hu) hz h1 h2 h3 h4 h5 (by omega) (by omega)
  have HEA : Hid (early z s.data.toList m off = score z s.data.toList m (upTo L off (half m)) 0 - score z s.data.toList m (downTo L off (half m)) 0) := by unfold early; rw [data_length, hLe]; exact rfl
  have hul := up_lt (L := L) off (half m) (by omega)
  have hdl := down_lt (L := L) off (half m) (by omega)
  have HMU : ∀ hI : Int, hI = (half m : Int) → ∀ u : World, Calls Try.prog 57 #[.int .i64 ((off : Int) + hI), .int .i64 (L : Int)] u fun e w' => e = .returned (.int .i64 (upTo L off (half m) : Int)) ∧ u = w' := fun hI e u => by
    rw [e, ← up_int (by omega)]; exact modI_any _ _ u (by omega) (by omega)
  have HMD : ∀ hI : Int, hI = (half m : Int) → ∀ u : World, Calls Try.prog 57 #[.int .i64 ((off : Int) - hI), .int .i64 (L : Int)] u fun e w' => e = .returned (.int .i64 (downTo L off (half m) : Int)) ∧ u = w' := fun hI e u => by
    rw [e, ← down_int (by omega) (by omega)]; exact modI_any _ _ u (by omega) (by omega)
  have HMU := Lib.hid HMU
  have HMD := Lib.hid HMD
  have s1 := score_le hz (l := s.data.toList) (m := m) (upTo L off (half m)) 0 (by rw [data_length]; omega)
  have s2 := score_le hz (l := s.data.toList) (m := m) (downTo L off (half m)) 0 (by rw [data_length]; omega)
  have HR := Lib.hid hr
  obtain ⟨qu, hqu⟩ : ∃ q, q = upTo L off (half m) := ⟨_, rfl⟩
  obtain ⟨qd, hqd⟩ : ∃ q, q = downTo L off (half m) := ⟨_, rfl⟩
  rw [← hqu] at hul HMU HEA s1
  rw [← hqd] at hdl HMD HEA s2
  have hoL : off < L := by omega
  clear hqu hqd hr hp hLe
  by_cases hm2 : m / 2 < 1
  · have HH : Hid ((1 : Int) = (half m : Int)) := by show (1 : Int) = _; unfold half; rw [if_pos (by omega)]; rfl
    have hm3 : (m : Int) / 2 < 1 := by omega
    go_enter Try.func56, Try.ntmps56
    have hb := Below.refl (w.alloc (.cells #[.string s, .int .i64 (m:Int)] 25)).heap.size (w.alloc (.cells #[.string s, .int .i64 (m:Int)] 25))
    go_wp2_with fail
    refine (sigI_any _ _ _ _ (reads_up HR.out hb) (by omega)).mono ?_
    rintro e w' ⟨rfl, rfl⟩
    go_wp2_with fail
    refine (isOff_any _ _ _ _ hs).mono ?_
    rintro e w1 ⟨rfl, k⟩
    replace hb := below_next hb k
    clear k
    (try clear hc hf)
    obtain ⟨hc, hf⟩ := bcell hb
    go_wp2
    all_goals first | (exfalso; omega) | skip
    have y1 : IntKind.i64.wrap ((off : Int) + 1) = (off : Int) + 1 := IntWalk.i64_in _ (by omega)
    have y2 : IntKind.i64.wrap ((off : Int) - 1) = (off : Int) - 1 := IntWalk.i64_in _ (by omega)
    clear hc hf
    go_region_held3 (fun u => u.cell? ⟨w.heap.size, 0, none⟩ = some (.string s) ∧ u.cell? ⟨w.heap.size, 1, none⟩ = some (.int .i64 (m : Int))) (exact pcells (w := w) (by first | assumption | exact Below.drew (by assumption))) (first | (go_at_call 16; refine (rel_of (W0 := (w.alloc (.cells #[.string s, .int .i64 (m : Int)] 25))) (by first | assumption | exact Below.drew (by assumption)) (HPL.out _)).mono ?_; rintro e u1 ⟨rfl, hu1⟩) | (go_at_call 57; refine (rel_same (W0 := (w.alloc (.cells #[.string s, .int .i64 (m : Int)] 25))) (by first | assumption | exact Below.drew (by assumption)) (HMU.out _ HH.out _)).mono ?_; rintro e u1 ⟨rfl, hu1⟩) | (go_at_call 39; refine (rel_of (W0 := (w.alloc (.cells #[.string s, .int .i64 (m : Int)] 25))) (by first | assumption | exact Below.drew (by assumption)) (HSC.out _ _ hul (by first | assumption | exact Below.drew (by assumption)))).mono ?_; rintro e u1 ⟨rfl, hu1⟩))
    have hu2 : Below (w.alloc (.cells #[.string s, .int .i64 (m : Int)] 25)).heap.size (w.alloc (.cells #[.string s, .int .i64 (m : Int)] 25)) u1 := by assumption
    go_wp2
    go_region_held3 (fun u => u.cell? ⟨w.heap.size, 0, none⟩ = some (.string s) ∧ u.cell? ⟨w.heap.size, 1, none⟩ = some (.int .i64 (m : Int))) (exact pcells (w := w) (by first | assumption | exact Below.drew (by assumption))) (first | (go_at_call 16; refine (rel_of (W0 := (w.alloc (.cells #[.string s, .int .i64 (m : Int)] 25))) (by first | assumption | exact Below.drew (by assumption)) (HPL.out _)).mono ?_; rintro e u1 ⟨rfl, hu1⟩) | (go_at_call 57; refine (rel_same (W0 := (w.alloc (.cells #[.string s, .int .i64 (m : Int)] 25))) (by first | assumption | exact Below.drew (by assumption)) (HMD.out _ HH.out _)).mono ?_; rintro e u1 ⟨rfl, hu1⟩) | (go_at_call 39; refine (rel_of (W0 := (w.alloc (.cells #[.string s, .int .i64 (m : Int)] 25))) (by first | assumption | exact Below.drew (by assumption)) (HSC.out _ _ hdl (by first | assumption | exact Below.drew (by assumption)))).mono ?_; rintro e u1 ⟨rfl, hu1⟩))
    clear y1 y2
    go_wp2
    go_ret2
    exact ⟨by rw [HEA.out]; rfl, below_out (by assumption)⟩
  · have HH : Hid ((m : Int) / 2 = (half m : Int)) := by show (m : Int) / 2 = _; unfold half; split <;> omega
    have hm3 : 1 ≤ (m : Int) / 2 := by omega
    go_enter Try.func56, Try.ntmps56
    have hb := Below.refl (w.alloc (.cells #[.string s, .int .i64 (m:Int)] 25)).heap.size (w.alloc (.cells #[.string s, .int .i64 (m:Int)] 25))
    go_wp2_with fail
    refine (sigI_any _ _ _ _ (reads_up HR.out hb) (by omega)).mono ?_
    rintro e w' ⟨rfl, rfl⟩
    go_wp2_with fail
    refine (isOff_any _ _ _ _ hs).mono ?_
    rintro e w1 ⟨rfl, k⟩
    replace hb := below_next hb k
    clear k
    (try clear hc hf)
    obtain ⟨hc, hf⟩ := bcell hb
    go_wp2
    all_goals first | (exfalso; omega) | skip
    have y1 : IntKind.i64.wrap ((off : Int) + (m : Int) / 2) = (off : Int) + (m : Int) / 2 := IntWalk.i64_in _ (by omega)
    have y2 : IntKind.i64.wrap ((off : Int) - (m : Int) / 2) = (off : Int) - (m : Int) / 2 := IntWalk.i64_in _ (by omega)
    clear hc hf
    go_region_held3 (fun u => u.cell? ⟨w.heap.size, 0, none⟩ = some (.string s) ∧ u.cell? ⟨w.heap.size, 1, none⟩ = some (.int .i64 (m : Int))) (exact pcells (w := w) (by first | assumption | exact Below.drew (by assumption))) (first | (go_at_call 16; refine (rel_of (W0 := (w.alloc (.cells #[.string s, .int .i64 (m : Int)] 25))) (by first | assumption | exact Below.drew (by assumption)) (HPL.out _)).mono ?_; rintro e u1 ⟨rfl, hu1⟩) | (go_at_call 57; refine (rel_same (W0 := (w.alloc (.cells #[.string s, .int .i64 (m : Int)] 25))) (by first | assumption | exact Below.drew (by assumption)) (HMU.out _ HH.out _)).mono ?_; rintro e u1 ⟨rfl, hu1⟩) | (go_at_call 39; refine (rel_of (W0 := (w.alloc (.cells #[.string s, .int .i64 (m : Int)] 25))) (by first | assumption | exact Below.drew (by assumption)) (HSC.out _ _ hul (by first | assumption | exact Below.drew (by assumption)))).mono ?_; rintro e u1 ⟨rfl, hu1⟩))
    have hu2 : Below (w.alloc (.cells #[.string s, .int .i64 (m : Int)] 25)).heap.size (w.alloc (.cells #[.string s, .int .i64 (m : Int)] 25)) u1 := by assumption
    go_wp2
    go_region_held3 (fun u => u.cell? ⟨w.heap.size, 0, none⟩ = some (.string s) ∧ u.cell? ⟨w.heap.size, 1, none⟩ = some (.int .i64 (m : Int))) (exact pcells (w := w) (by first | assumption | exact Below.drew (by assumption))) (first | (go_at_call 16; refine (rel_of (W0 := (w.alloc (.cells #[.string s, .int .i64 (m : Int)] 25))) (by first | assumption | exact Below.drew (by assumption)) (HPL.out _)).mono ?_; rintro e u1 ⟨rfl, hu1⟩) | (go_at_call 57; refine (rel_same (W0 := (w.alloc (.cells #[.string s, .int .i64 (m : Int)] 25))) (by first | assumption | exact Below.drew (by assumption)) (HMD.out _ HH.out _)).mono ?_; rintro e u1 ⟨rfl, hu1⟩) | (go_at_call 39; refine (rel_of (W0 := (w.alloc (.cells #[.string s, .int .i64 (m : Int)] 25))) (by first | assumption | exact Below.drew (by assumption)) (HSC.out _ _ hdl (by first | assumption | exact Below.drew (by assumption)))).mono ?_; rintro e u1 ⟨rfl, hu1⟩))
    clear y1 y2
    go_wp2
    go_ret2
    exact ⟨by rw [HEA.out]; rfl, below_out (by assumption)⟩
theorem earlyI_any (A : Option Addr) (c : Nat) (z : List Int) (s : ByteArray) (n x : Int) (w : World) (hr : Reads w w.heap.size A z) (hl : z.length ≤ 1048576) (hs : s.size ≤ maxLen) :
    Calls Try.prog 56 #[.slice A z.length c, .agg #[.string s, .int .i64 n], .int .i64 x] w fun e w' => e = .returned (intRes (earlyO z s n x)) ∧ Below w.heap.size w w' := by
  have HR := Lib.hid hr
  cases hz : sigOK z
  · rw [earlyO_ns hz]
    clear hr
    go_enter Try.func56, Try.ntmps56
    have hb := Below.refl (w.alloc (.cells #[.string s, .int .i64 n] 25)).heap.size (w.alloc (.cells #[.string s, .int .i64 n] 25))
    go_wp2_with fail
    refine (sigI_any _ _ _ _ (reads_up HR.out hb) hl).mono ?_
    rintro e w' ⟨rfl, rfl⟩
    go_wp2
    go_ret2
    exact ⟨rfl, below_out hb⟩
  · cases ho : offOK s n x
    · rw [earlyO_no ho]
      clear hr
      go_enter Try.func56, Try.ntmps56
      have hb := Below.refl (w.alloc (.cells #[.string s, .int .i64 n] 25)).heap.size (w.alloc (.cells #[.string s, .int .i64 n] 25))
      go_wp2_with fail
      refine (sigI_any _ _ _ _ (reads_up HR.out hb) hl).mono ?_
      rintro e w' ⟨rfl, rfl⟩
      go_wp2_with fail
      refine (isOff_any _ _ _ _ hs).mono ?_
      rintro e w1 ⟨rfl, k⟩
      replace hb := below_next hb k
      clear k
      (try clear hc hf)
      obtain ⟨hc, hf⟩ := bcell hb
      go_wp2
      go_ret2
      exact ⟨rfl, below_out hb⟩
    · obtain ⟨m, off, rfl, rfl, hp, h0, h1, h2, h3, h4, h5⟩ := off_nat ho
      rw [earlyO_yes hz ho]
      exact earlyI_yes A c z s m off w hr hz ho hs
theorem halfS_any (s : ByteArray) (m : Nat) (w : World) (h1 : 1 ≤ m) (h2 : m ≤ 8) : Calls Try.prog 87 #[.agg #[.string s, .int .i64 (m : Int)]] w fun e w' => e = .returned (.int .i64 (half m : Int)) ∧ Below w.heap.size w w' := by
  by_cases hm2 : m / 2 < 1
  · have hm3 : (m : Int) / 2 < 1 := by omega
    go_enter Try.func87, Try.ntmps87
    go_wp2
    go_ret
    exact ⟨ret_int (by unfold half; rw [if_pos (by omega)]; rfl), (Below.refl _ _).alloc (Nat.le_refl _) _⟩
  · have hm3 : 1 ≤ (m : Int) / 2 := by omega
    go_enter Try.func87, Try.ntmps87
    go_wp2
    all_goals
      go_ret
      exact ⟨ret_int (by unfold half; split <;> omega), (Below.refl _ _).alloc (Nat.le_refl _) _⟩
set_option maxHeartbeats 2000000 in
theorem earlyS_yes (A : Option Addr) (c : Nat) (z : List Int) (s : ByteArray) (m off : Nat) (w : World) (hr : Reads w w.heap.size A z) (hz : sigOK z = true) (ho : offOK s (m : Int) (off : Int) = true) :
    Calls Try.prog 77 #[.slice A z.length c, .agg #[.string s, .int .i64 (m : Int)], .int .i64 off] w fun e w' => e = .returned (.int .i64 (early z s.data.toList m off)) ∧ Below w.heap.size w w' := by
  obtain ⟨m', off', e1, e2, hp, h0, h1, h2, h3, h4, h5⟩ := off_nat ho
  obtain rfl : m = m' := by omega
  obtain rfl : off = off' := by omega
  clear e1 e2
  have hl := sig_len hz
  have hh := half_bd m h1 h2
  obtain ⟨L, hLe⟩ : ∃ L, L = s.size * m := ⟨_, rfl⟩
  have hmL : m ≤ L := by rw [hLe]; exact Nat.le_mul_of_pos_left m h3
  have HPL : Hid (∀ u : World, Calls Try.prog 41 #[.agg #[.string s, .int .i64 (m : Int)]] u fun e w' => e = .returned (.int .i64 (L : Int)) ∧ Below u.heap.size u w') := fun u => by rw [hLe]; exact l5Len_nat s m u h5
  have HSC : Hid (∀ (q : Nat) (u : World), q < L → Below (w.alloc (.cells #[.string s, .int .i64 (m : Int)] 25)).heap.size (w.alloc (.cells #[.string s, .int .i64 (m : Int)] 25)) u → Calls Try.prog 42 #[.slice A z.length c, .int .i64 0, .agg #[.string s, .int .i64 (m : Int)], .int .i64 q] u fun e w' => e = .returned (.int .i64 (score z s.data.toList m q 0)) ∧ Below u.heap.size u w') := fun q u hq hu =>
    scoreS_any A c z s m q 0 u (reads_up hr hu) hz hp (by omega) (by omega)
  have HEA : Hid (early z s.data.toList m off = score z s.data.toList m (upTo L off (half m)) 0 - score z s.data.toList m (downTo L off (half m)) 0) := by unfold early; rw [data_length, hLe]; exact rfl
  have hul := up_lt (L := L) off (half m) (by omega)
  have hdl := down_lt (L := L) off (half m) (by omega)
  have HHF : Hid (∀ u : World, Calls Try.prog 87 #[.agg #[.string s, .int .i64 (m : Int)]] u fun e w' => e = .returned (.int .i64 (half m : Int)) ∧ Below u.heap.size u w') := fun u => halfS_any s m u h1 h2
  have HMU : Hid (∀ u : World, Calls Try.prog 75 #[.int .i64 ((off : Int) + (half m : Int)), .int .i64 (L : Int)] u fun e w' => e = .returned (.int .i64 (upTo L off (half m) : Int)) ∧ u = w') := fun u => by
    rw [← up_int (by omega)]; exact modS_any _ _ u (by omega) (by omega)
  have HMD : Hid (∀ u : World, Calls Try.prog 75 #[.int .i64 ((off : Int) - (half m : Int)), .int .i64 (L : Int)] u fun e w' => e = .returned (.int .i64 (downTo L off (half m) : Int)) ∧ u = w') := fun u => by
    rw [← down_int (by omega) (by omega)]; exact modS_any _ _ u (by omega) (by omega)
  have s1 := score_le hz (l := s.data.toList) (m := m) (upTo L off (half m)) 0 (by rw [data_length]; omega)
  have s2 := score_le hz (l := s.data.toList) (m := m) (downTo L off (half m)) 0 (by rw [data_length]; omega)
  obtain ⟨qu, hqu⟩ : ∃ q, q = upTo L off (half m) := ⟨_, rfl⟩
  obtain ⟨qd, hqd⟩ : ∃ q, q = downTo L off (half m) := ⟨_, rfl⟩
  rw [← hqu] at hul HMU HEA s1
  rw [← hqd] at hdl HMD HEA s2
  have hoL : off < L := by omega
  have hne : qu = qd ∨ qu ≠ qd := by omega
  clear hqu hqd hr hp hLe
  have y1 : IntKind.i64.wrap ((off : Int) + (half m : Int)) = (off : Int) + (half m : Int) := IntWalk.i64_in _ (by omega)
  have y2 : IntKind.i64.wrap ((off : Int) - (half m : Int)) = (off : Int) - (half m : Int) := IntWalk.i64_in _ (by omega)
  have y3 : IntKind.i64.wrap (score z s.data.toList m qu 0 - score z s.data.toList m qd 0) = score z s.data.toList m qu 0 - score z s.data.toList m qd 0 := IntWalk.i64_in _ (by omega)
  go_enter Try.func77, Try.ntmps77
  have hb := Below.refl (w.alloc (.cells #[.string s, .int .i64 (m:Int)] 25)).heap.size (w.alloc (.cells #[.string s, .int .i64 (m:Int)] 25))
  go_wp2
  go_region_held3 (fun u => u.cell? ⟨w.heap.size, 0, none⟩ = some (.string s) ∧ u.cell? ⟨w.heap.size, 1, none⟩ = some (.int .i64 (m : Int))) (exact pcells (w := w) (by first | assumption | exact Below.drew (by assumption))) (first | (go_at_call 87; refine (rel_of (W0 := (w.alloc (.cells #[.string s, .int .i64 (m : Int)] 25))) (by first | assumption | exact Below.drew (by assumption)) (HHF.out _)).mono ?_; rintro e u1 ⟨rfl, hu1⟩) | (go_at_call 41; refine (rel_of (W0 := (w.alloc (.cells #[.string s, .int .i64 (m : Int)] 25))) (by first | assumption | exact Below.drew (by assumption)) (HPL.out _)).mono ?_; rintro e u1 ⟨rfl, hu1⟩) | (go_at_call 75; refine (rel_same (W0 := (w.alloc (.cells #[.string s, .int .i64 (m : Int)] 25))) (by first | assumption | exact Below.drew (by assumption)) (HMU.out _)).mono ?_; rintro e u1 ⟨rfl, hu1⟩))
  all_goals
    have hu2 : Below (w.alloc (.cells #[.string s, .int .i64 (m : Int)] 25)).heap.size (w.alloc (.cells #[.string s, .int .i64 (m : Int)] 25)) u1 := by assumption
    go_wp2
    go_region_held3 (fun u => u.cell? ⟨w.heap.size, 0, none⟩ = some (.string s) ∧ u.cell? ⟨w.heap.size, 1, none⟩ = some (.int .i64 (m : Int))) (exact pcells (w := w) (by first | assumption | exact Below.drew (by assumption))) (first | (go_at_call 87; refine (rel_of (W0 := (w.alloc (.cells #[.string s, .int .i64 (m : Int)] 25))) (by first | assumption | exact Below.drew (by assumption)) (HHF.out _)).mono ?_; rintro e u1 ⟨rfl, hu1⟩) | (go_at_call 41; refine (rel_of (W0 := (w.alloc (.cells #[.string s, .int .i64 (m : Int)] 25))) (by first | assumption | exact Below.drew (by assumption)) (HPL.out _)).mono ?_; rintro e u1 ⟨rfl, hu1⟩) | (go_at_call 75; refine (rel_same (W0 := (w.alloc (.cells #[.string s, .int .i64 (m : Int)] 25))) (by first | assumption | exact Below.drew (by assumption)) (HMD.out _)).mono ?_; rintro e u1 ⟨rfl, hu1⟩))
    all_goals
      go_wp2
      go_region_held3 (fun u => u.cell? ⟨w.heap.size, 0, none⟩ = some (.string s) ∧ u.cell? ⟨w.heap.size, 1, none⟩ = some (.int .i64 (m : Int))) (exact pcells (w := w) (by first | assumption | exact Below.drew (by assumption))) (first | (go_at_call 42; refine (rel_of (W0 := (w.alloc (.cells #[.string s, .int .i64 (m : Int)] 25))) (by first | assumption | exact Below.drew (by assumption)) (HSC.out _ _ (by assumption) (by first | assumption | exact Below.drew (by assumption)))).mono ?_; rintro e u1 ⟨rfl, hu1⟩))
      all_goals
        go_wp2
        go_ret
        exact ⟨ret_int (by rw [HEA.out]), below_out (by assumption)⟩
end Go.Proofs.Ytmecbiphejjkmaa
