/- Contracts of TrackStep and LockedAt. -/
import Derived.Test.YtmecbiphejjkmaaTrack
namespace Go.Proofs.Ytmecbiphejjkmaa
set_option maxRecDepth 20000
open Go.ChangeShapes Go.WideShapes Go.ChangeAt Go.RowKit
set_option linter.unusedVariables false
set_option linter.unusedSimpArgs false

/-- the next offset of a tracking loop -/
def trkN (z : List Int) (l : List UInt8) (m off : Nat) : Nat :=
  if 0 < early z l m off then upTo (l.length * m) off 1 else if early z l m off < 0 then downTo (l.length * m) off 1 else off
theorem trkN_lt {z : List Int} {l : List UInt8} {m off : Nat} (h : off < l.length * m) : trkN z l m off < l.length * m := by
  unfold trkN
  split
  · exact up_lt _ _ (by omega)
  · split
    · exact down_lt _ _ (by omega)
    · exact h
def trackI (z : List Int) (s : ByteArray) (n x : Int) : Int := if sigOK z && offOK s n x then (trkN z s.data.toList n.toNat x.toNat : Int) else -1
theorem trackI_ns {z : List Int} {s : ByteArray} {n x : Int} (h : sigOK z = false) : trackI z s n x = -1 := by simp [trackI, h]
theorem trackI_no {z : List Int} {s : ByteArray} {n x : Int} (h : offOK s n x = false) : trackI z s n x = -1 := by simp [trackI, h]
theorem trackI_yes {z : List Int} {s : ByteArray} {m off : Nat} (h : sigOK z = true) (h' : offOK s (m : Int) (off : Int) = true) : trackI z s (m : Int) (off : Int) = (trkN z s.data.toList m off : Int) := by simp [trackI, h, h']
theorem one_int {L off : Nat} (hL : 0 < L) : ((off : Int) + 1) % (L : Int) = (upTo L off 1 : Int) := up_int (h := 1) hL
theorem mone_int {L off : Nat} (hL : 0 < L) : ((off : Int) - 1) % (L : Int) = (downTo L off 1 : Int) := down_int (h := 1) hL (by omega)
/-- the three ways of a step -/
theorem step_ways (z : List Int) (s : ByteArray) (m off L : Nat) (hL : L = s.size * m) :
    (0 < early z s.data.toList m off ∧ trkN z s.data.toList m off = upTo L off 1) ∨ (early z s.data.toList m off < 0 ∧ trkN z s.data.toList m off = downTo L off 1) ∨ (early z s.data.toList m off = 0 ∧ trkN z s.data.toList m off = off) := by
  unfold trkN
  rw [data_length, hL]
  rcases Int.lt_trichotomy 0 (early z s.data.toList m off) with h | h | h
  · exact .inl ⟨h, if_pos h⟩
  · exact .inr (.inr ⟨h.symm, by rw [← h]; rfl⟩)
  · exact .inr (.inl ⟨h, by rw [if_neg (by omega), if_pos h]⟩)
set_option maxHeartbeats 1000000 in
theorem trackI_core (A : Option Addr) (c : Nat) (z : List Int) (s : ByteArray) (m off : Nat) (w : World) (hr : Reads w w.heap.size A z) (hz : sigOK z = true) (ho : offOK s (m : Int) (off : Int) = true) (hs : s.size ≤ maxLen) :
    Calls Try.prog 28 #[.slice A z.length c, .agg #[.string s, .int .i64 (m : Int)], .int .i64 off] w fun e w' => e = .returned (.int .i64 (trkN z s.data.toList m off : Int)) ∧ Below w.heap.size w w' := by
  obtain ⟨m', off', e1, e2, hp, h0, h1, h2, h3, h4, h5⟩ := off_nat ho
  obtain rfl : m = m' := by omega
  obtain rfl : off = off' := by omega
  clear e1 e2
  obtain ⟨L, hLe⟩ : ∃ L, L = s.size * m := ⟨_, rfl⟩
  have HPL : Hid (∀ u : World, Calls Try.prog 16 #[.agg #[.string s, .int .i64 (m : Int)]] u fun e w' => e = .returned (.int .i64 (L : Int)) ∧ Below u.heap.size u w') := fun u => by rw [hLe]; exact plenI_nat u hp hs
  have HMU : Hid (∀ u : World, Calls Try.prog 57 #[.int .i64 ((off : Int) + 1), .int .i64 (L : Int)] u fun e w' => e = .returned (.int .i64 (upTo L off 1 : Int)) ∧ u = w') := fun u => by
    rw [← one_int (by omega)]; exact modI_any _ _ u (by omega) (by omega)
  have HMD : Hid (∀ u : World, Calls Try.prog 57 #[.int .i64 ((off : Int) - 1), .int .i64 (L : Int)] u fun e w' => e = .returned (.int .i64 (downTo L off 1 : Int)) ∧ u = w') := fun u => by
    rw [← mone_int (by omega)]; exact modI_any _ _ u (by omega) (by omega)
  have hw := step_ways z s m off L hLe
  have hel := early_le hz (l := s.data.toList) (m := m) off (by rw [data_length]; omega)
  have HR := Lib.hid hr
  have hoL : off < L := by omega
  clear hr hLe
  obtain ⟨d, hd⟩ : ∃ d, d = early z s.data.toList m off := ⟨_, rfl⟩
  have HCE : Hid (∀ u : World, Below (w.alloc (.cells #[.string s, .int .i64 (m : Int)] 25)).heap.size (w.alloc (.cells #[.string s, .int .i64 (m : Int)] 25)) u → Calls Try.prog 56 #[.slice A z.length c, .agg #[.string s, .int .i64 (m : Int)], .int .i64 off] u fun e w' => e = .returned (.tuple #[.int .i64 (early z s.data.toList m off), .bool true]) ∧ Below u.heap.size u w') := fun u hu => earlyI_yes A c z s m off u (reads_up HR.out hu) hz ho hs
  rw [← hd] at hw hel HCE
  clear hd
  rcases hw with ⟨hw, hst⟩ | ⟨hw, hst⟩ | ⟨hw, hst⟩
  all_goals rw [hst]
  all_goals clear hst
  · go_enter Try.func28, Try.ntmps28
    have hb := Below.refl (w.alloc (.cells #[.string s, .int .i64 (m:Int)] 25)).heap.size (w.alloc (.cells #[.string s, .int .i64 (m:Int)] 25))
    go_wp2_with fail
    refine (HCE.out _ hb).mono ?_
    rintro e w1 ⟨rfl, k⟩
    replace hb := below_next hb k
    clear k
    (try clear hc hf)
    obtain ⟨hc, hf⟩ := bcell hb
    go_wp2_with fail
    refine (HPL.out _).mono ?_
    rintro e w2 ⟨rfl, k⟩
    replace hb := below_next hb k
    clear k
    (try clear hc hf)
    obtain ⟨hc, hf⟩ := bcell hb
    go_wp2_with fail
    refine (HMU.out _).mono ?_
    rintro e w' ⟨rfl, rfl⟩
    go_wp2
    go_ret
    exact ⟨rfl, below_out hb⟩
  · go_enter Try.func28, Try.ntmps28
    have hb := Below.refl (w.alloc (.cells #[.string s, .int .i64 (m:Int)] 25)).heap.size (w.alloc (.cells #[.string s, .int .i64 (m:Int)] 25))
    go_wp2_with fail
    refine (HCE.out _ hb).mono ?_
    rintro e w1 ⟨rfl, k⟩
    replace hb := below_next hb k
    clear k
    (try clear hc hf)
    obtain ⟨hc, hf⟩ := bcell hb
    go_wp2_with fail
    refine (HPL.out _).mono ?_
    rintro e w2 ⟨rfl, k⟩
    replace hb := below_next hb k
    clear k
    (try clear hc hf)
    obtain ⟨hc, hf⟩ := bcell hb
    go_wp2_with fail
    refine (HMD.out _).mono ?_
    rintro e w' ⟨rfl, rfl⟩
    go_wp2
    go_ret
    exact ⟨rfl, below_out hb⟩
  · subst hw
    go_enter Try.func28, Try.ntmps28
    have hb := Below.refl (w.alloc (.cells #[.string s, .int .i64 (m:Int)] 25)).heap.size (w.alloc (.cells #[.string s, .int .i64 (m:Int)] 25))
    go_wp2_with fail
    refine (HCE.out _ hb).mono ?_
    rintro e w1 ⟨rfl, k⟩
    replace hb := below_next hb k
    clear k
    (try clear hc hf)
    obtain ⟨hc, hf⟩ := bcell hb
    go_wp2
    go_ret
    exact ⟨rfl, below_out hb⟩
theorem trackI_any (A : Option Addr) (c : Nat) (z : List Int) (s : ByteArray) (n x : Int) (w : World) (hr : Reads w w.heap.size A z) (hl : z.length ≤ 1048576) (hs : s.size ≤ maxLen) :
    Calls Try.prog 28 #[.slice A z.length c, .agg #[.string s, .int .i64 n], .int .i64 x] w fun e w' => e = .returned (.int .i64 (trackI z s n x)) ∧ Below w.heap.size w w' := by
  cases hv : (sigOK z && offOK s n x)
  · have hno : trackI z s n x = -1 := by simp only [trackI, hv]; rfl
    have hne : intRes (earlyO z s n x) = .tuple #[.int .i64 0, .bool false] := by simp only [earlyO, hv]; rfl
    rw [hno]
    have HR := Lib.hid hr
    have HN := Lib.hid hne
    clear hr hno hne
    go_enter Try.func28, Try.ntmps28
    have hb := Below.refl (w.alloc (.cells #[.string s, .int .i64 n] 25)).heap.size (w.alloc (.cells #[.string s, .int .i64 n] 25))
    go_wp2_with fail
    refine (earlyI_any _ _ _ _ _ _ _ (reads_up HR.out hb) hl hs).mono ?_
    rintro e w1 ⟨he, k⟩
    rw [HN.out] at he
    subst he
    replace hb := below_next hb k
    go_wp2
    go_ret
    exact ⟨rfl, below_out hb⟩
  · rw [Bool.and_eq_true] at hv
    obtain ⟨hz, ho⟩ := hv
    obtain ⟨m, off, rfl, rfl, hp, h0, h1, h2, h3, h4, h5⟩ := off_nat ho
    rw [trackI_yes hz ho]
    exact trackI_core A c z s m off w hr hz ho hs
set_option maxHeartbeats 1000000 in
theorem l5stepS_any (A : Option Addr) (c : Nat) (z : List Int) (s : ByteArray) (m off : Nat) (w : World) (hr : Reads w w.heap.size A z) (hz : sigOK z = true) (ho : offOK s (m : Int) (off : Int) = true) :
    Calls Try.prog 53 #[.slice A z.length c, .agg #[.string s, .int .i64 (m : Int)], .int .i64 off] w fun e w' => e = .returned (.int .i64 (trkN z s.data.toList m off : Int)) ∧ Below w.heap.size w w' := by
  obtain ⟨m', off', e1, e2, hp, h0, h1, h2, h3, h4, h5⟩ := off_nat ho
  obtain rfl : m = m' := by omega
  obtain rfl : off = off' := by omega
  clear e1 e2
  obtain ⟨L, hLe⟩ : ∃ L, L = s.size * m := ⟨_, rfl⟩
  have HPL : Hid (∀ u : World, Calls Try.prog 41 #[.agg #[.string s, .int .i64 (m : Int)]] u fun e w' => e = .returned (.int .i64 (L : Int)) ∧ Below u.heap.size u w') := fun u => by rw [hLe]; exact l5Len_nat s m u h5
  have HMU : Hid (∀ u : World, Calls Try.prog 75 #[.int .i64 ((off : Int) + 1), .int .i64 (L : Int)] u fun e w' => e = .returned (.int .i64 (upTo L off 1 : Int)) ∧ u = w') := fun u => by
    rw [← one_int (by omega)]; exact modS_any _ _ u (by omega) (by omega)
  have HMD : Hid (∀ u : World, Calls Try.prog 75 #[.int .i64 ((off : Int) - 1), .int .i64 (L : Int)] u fun e w' => e = .returned (.int .i64 (downTo L off 1 : Int)) ∧ u = w') := fun u => by
    rw [← mone_int (by omega)]; exact modS_any _ _ u (by omega) (by omega)
  have hw := step_ways z s m off L hLe
  have hel := early_le hz (l := s.data.toList) (m := m) off (by rw [data_length]; omega)
  have HR := Lib.hid hr
  have hoL : off < L := by omega
  clear hr hLe
  obtain ⟨d, hd⟩ : ∃ d, d = early z s.data.toList m off := ⟨_, rfl⟩
  have HCE : Hid (∀ u : World, Below (w.alloc (.cells #[.string s, .int .i64 (m : Int)] 25)).heap.size (w.alloc (.cells #[.string s, .int .i64 (m : Int)] 25)) u → Calls Try.prog 77 #[.slice A z.length c, .agg #[.string s, .int .i64 (m : Int)], .int .i64 off] u fun e w' => e = .returned (.int .i64 (early z s.data.toList m off)) ∧ Below u.heap.size u w') := fun u hu => earlyS_yes A c z s m off u (reads_up HR.out hu) hz ho
  rw [← hd] at hw hel HCE
  clear hd
  rcases hw with ⟨hw, hst⟩ | ⟨hw, hst⟩ | ⟨hw, hst⟩
  all_goals rw [hst]
  all_goals clear hst
  · go_enter Try.func53, Try.ntmps53
    have hb := Below.refl (w.alloc (.cells #[.string s, .int .i64 (m:Int)] 25)).heap.size (w.alloc (.cells #[.string s, .int .i64 (m:Int)] 25))
    go_wp2_with fail
    refine (HCE.out _ hb).mono ?_
    rintro e w1 ⟨rfl, k⟩
    replace hb := below_next hb k
    clear k
    (try clear hc hf)
    obtain ⟨hc, hf⟩ := bcell hb
    go_wp2_with fail
    refine (HPL.out _).mono ?_
    rintro e w2 ⟨rfl, k⟩
    replace hb := below_next hb k
    clear k
    (try clear hc hf)
    obtain ⟨hc, hf⟩ := bcell hb
    go_wp2_with fail
    refine (HMU.out _).mono ?_
    rintro e w' ⟨rfl, rfl⟩
    go_wp2
    go_ret
    exact ⟨rfl, below_out hb⟩
  · go_enter Try.func53, Try.ntmps53
    have hb := Below.refl (w.alloc (.cells #[.string s, .int .i64 (m:Int)] 25)).heap.size (w.alloc (.cells #[.string s, .int .i64 (m:Int)] 25))
    go_wp2_with fail
    refine (HCE.out _ hb).mono ?_
    rintro e w1 ⟨rfl, k⟩
    replace hb := below_next hb k
    clear k
    (try clear hc hf)
    obtain ⟨hc, hf⟩ := bcell hb
    go_wp2_with fail
    refine (HPL.out _).mono ?_
    rintro e w2 ⟨rfl, k⟩
    replace hb := below_next hb k
    clear k
    (try clear hc hf)
    obtain ⟨hc, hf⟩ := bcell hb
    go_wp2_with fail
    refine (HMD.out _).mono ?_
    rintro e w' ⟨rfl, rfl⟩
    go_wp2
    go_ret
    exact ⟨rfl, below_out hb⟩
  · subst hw
    go_enter Try.func53, Try.ntmps53
    have hb := Below.refl (w.alloc (.cells #[.string s, .int .i64 (m:Int)] 25)).heap.size (w.alloc (.cells #[.string s, .int .i64 (m:Int)] 25))
    go_wp2_with fail
    refine (HCE.out _ hb).mono ?_
    rintro e w1 ⟨rfl, k⟩
    replace hb := below_next hb k
    clear k
    (try clear hc hf)
    obtain ⟨hc, hf⟩ := bcell hb
    go_wp2
    go_ret
    exact ⟨rfl, below_out hb⟩
/-- what LockedAt returns -/
def lockedB (z : List Int) (s : ByteArray) (n x t : Int) : Bool := sigOK z && offOK s n x && (((trkN z s.data.toList n.toNat x.toNat : Nat) : Int) == x) && decide (t ≤ score z s.data.toList n.toNat x.toNat 0)
theorem lockedB_ns {z : List Int} {s : ByteArray} {n x t : Int} (h : sigOK z = false) : lockedB z s n x t = false := by simp [lockedB, h]
theorem lockedB_no {z : List Int} {s : ByteArray} {n x t : Int} (h : offOK s n x = false) : lockedB z s n x t = false := by simp [lockedB, h]
theorem lockedB_ne {z : List Int} {s : ByteArray} {m off : Nat} {t : Int} (h : ¬ (trkN z s.data.toList m off : Int) = (off : Int)) : lockedB z s (m : Int) (off : Int) t = false := by
  have h2 : (((trkN z s.data.toList m off : Nat) : Int) == (off : Int)) = false := by simpa using h
  simp [lockedB, h2]
theorem lockedB_eq {z : List Int} {s : ByteArray} {m off : Nat} {t : Int} (hz : sigOK z = true) (ho : offOK s (m : Int) (off : Int) = true) (h : (trkN z s.data.toList m off : Int) = (off : Int)) : lockedB z s (m : Int) (off : Int) t = decide (t ≤ score z s.data.toList m off 0) := by
  have h2 : trkN z s.data.toList m off = off := by omega
  simp [lockedB, hz, ho, h2]
set_option maxHeartbeats 1000000 in
theorem lockI_any (A : Option Addr) (c : Nat) (z : List Int) (s : ByteArray) (n x t : Int) (w : World) (hr : Reads w w.heap.size A z) (hl : z.length ≤ 1048576) (hs : s.size ≤ maxLen) :
    Calls Try.prog 23 #[.slice A z.length c, .agg #[.string s, .int .i64 n], .int .i64 x, .int .i64 t] w fun e w' => e = .returned (.bool (lockedB z s n x t)) ∧ Below w.heap.size w w' := by
  have HR := Lib.hid hr
  cases hv : (sigOK z && offOK s n x)
  · have hno : lockedB z s n x t = false := by simp only [lockedB, hv]; rfl
    have hne : intRes (scoreO z s n x) = .tuple #[.int .i64 0, .bool false] := by simp only [scoreO, hv]; rfl
    rw [hno]
    have HN := Lib.hid hne
    clear hr hno hne
    go_enter Try.func23, Try.ntmps23
    have hb := Below.refl (w.alloc (.cells #[.string s, .int .i64 n] 25)).heap.size (w.alloc (.cells #[.string s, .int .i64 n] 25))
    go_wp2_with fail
    refine (scoreAtI_any _ _ _ _ _ _ _ (reads_up HR.out hb) hl hs).mono ?_
    rintro e w1 ⟨he, k⟩
    rw [HN.out] at he
    subst he
    replace hb := below_next hb k
    go_wp2
    go_ret
    exact ⟨rfl, below_out hb⟩
  · rw [Bool.and_eq_true] at hv
    obtain ⟨hz, ho⟩ := hv
    obtain ⟨m, off, rfl, rfl, hp, h0, h1, h2, h3, h4, h5⟩ := off_nat ho
    have HN : Hid (intRes (scoreO z s (m : Int) (off : Int)) = .tuple #[.int .i64 (score z s.data.toList m off 0), .bool true]) := by rw [scoreO_yes hz ho]; exact rfl
    clear hr
    by_cases he : (trkN z s.data.toList m off : Int) = (off : Int)
    · rw [lockedB_eq hz ho he]
      have b1 : ((trkN z s.data.toList m off : Int) == (off : Int)) = true := by simpa using he
      clear he
      go_enter Try.func23, Try.ntmps23
      have hb := Below.refl (w.alloc (.cells #[.string s, .int .i64 (m:Int)] 25)).heap.size (w.alloc (.cells #[.string s, .int .i64 (m:Int)] 25))
      go_wp2_with fail
      refine (scoreAtI_any _ _ _ _ _ _ _ (reads_up HR.out hb) hl hs).mono ?_
      rintro e w1 ⟨he, k⟩
      rw [HN.out] at he
      subst he
      replace hb := below_next hb k
      obtain ⟨hc, hf⟩ := bcell hb
      go_wp2_with fail
      refine (trackI_core _ _ _ _ _ _ _ (reads_up HR.out hb) hz ho hs).mono ?_
      rintro e w2 ⟨rfl, k⟩
      replace hb := below_next hb k
      clear k
      (try clear hc hf)
      obtain ⟨hc, hf⟩ := bcell hb
      go_wp2
      go_ret
      exact ⟨ret_bool (by simp), below_out hb⟩
    · rw [lockedB_ne he]
      have b1 : ((trkN z s.data.toList m off : Int) == (off : Int)) = false := by simpa using he
      clear he
      go_enter Try.func23, Try.ntmps23
      have hb := Below.refl (w.alloc (.cells #[.string s, .int .i64 (m:Int)] 25)).heap.size (w.alloc (.cells #[.string s, .int .i64 (m:Int)] 25))
      go_wp2_with fail
      refine (scoreAtI_any _ _ _ _ _ _ _ (reads_up HR.out hb) hl hs).mono ?_
      rintro e w1 ⟨he, k⟩
      rw [HN.out] at he
      subst he
      replace hb := below_next hb k
      obtain ⟨hc, hf⟩ := bcell hb
      go_wp2_with fail
      refine (trackI_core _ _ _ _ _ _ _ (reads_up HR.out hb) hz ho hs).mono ?_
      rintro e w2 ⟨rfl, k⟩
      replace hb := below_next hb k
      clear k
      (try clear hc hf)
      obtain ⟨hc, hf⟩ := bcell hb
      go_wp2
      go_ret
      exact ⟨rfl, below_out hb⟩
set_option maxHeartbeats 1000000 in
theorem lockS_any (A : Option Addr) (c : Nat) (z : List Int) (s : ByteArray) (n x t : Int) (w : World) (hr : Reads w w.heap.size A z) (hl : z.length ≤ 1048576) (hs : s.size ≤ maxLen) :
    Calls Try.prog 24 #[.slice A z.length c, .agg #[.string s, .int .i64 n], .int .i64 x, .int .i64 t] w fun e w' => e = .returned (.bool (lockedB z s n x t)) ∧ Below w.heap.size w w' := by
  have HR := Lib.hid hr
  cases hrd : (sigOK z && pilotOK s.data.toList n)
  · have hno : lockedB z s n x t = false := by
      rw [Bool.and_eq_false_iff] at hrd
      rcases hrd with h | h
      · exact lockedB_ns h
      · exact lockedB_no (off_inv h)
    rw [hno]
    clear hno hr
    go_enter Try.func24, Try.ntmps24
    have hb := Below.refl (w.alloc (.cells #[.string s, .int .i64 n] 25)).heap.size (w.alloc (.cells #[.string s, .int .i64 n] 25))
    go_wp2_with fail
    refine (readyS_any _ _ _ _ _ _ (reads_up HR.out hb) hl hs).mono ?_
    rintro e w1 ⟨rfl, k⟩
    replace hb := below_next hb k
    clear k
    (try clear hc hf)
    obtain ⟨hc, hf⟩ := bcell hb
    go_wp2
    go_ret
    exact ⟨rfl, below_out hb⟩
  · have hrd2 := hrd
    rw [Bool.and_eq_true] at hrd2
    obtain ⟨hz, hp⟩ := hrd2
    cases ho : offOK s n x
    · rw [lockedB_no ho]
      clear hr
      go_enter Try.func24, Try.ntmps24
      have hb := Below.refl (w.alloc (.cells #[.string s, .int .i64 n] 25)).heap.size (w.alloc (.cells #[.string s, .int .i64 n] 25))
      go_wp2_with fail
      refine (readyS_any _ _ _ _ _ _ (reads_up HR.out hb) hl hs).mono ?_
      rintro e w1 ⟨rfl, k⟩
      replace hb := below_next hb k
      clear k
      (try clear hc hf)
      obtain ⟨hc, hf⟩ := bcell hb
      go_wp2_with fail
      refine (l5Off_any _ _ _ _ hp).mono ?_
      rintro e w2 ⟨rfl, k⟩
      replace hb := below_next hb k
      clear k
      (try clear hc hf)
      obtain ⟨hc, hf⟩ := bcell hb
      go_wp2
      go_ret
      exact ⟨rfl, below_out hb⟩
    · obtain ⟨m, off, rfl, rfl, _, h0, h1, h2, h3, h4, h5⟩ := off_nat ho
      clear hr
      by_cases he : (trkN z s.data.toList m off : Int) = (off : Int)
      · rw [lockedB_eq hz ho he]
        have b1 : ((trkN z s.data.toList m off : Int) == (off : Int)) = true := by simpa using he
        clear he
        go_enter Try.func24, Try.ntmps24
        have hb := Below.refl (w.alloc (.cells #[.string s, .int .i64 (m:Int)] 25)).heap.size (w.alloc (.cells #[.string s, .int .i64 (m:Int)] 25))
        go_wp2_with fail
        refine (readyS_any _ _ _ _ _ _ (reads_up HR.out hb) hl hs).mono ?_
        rintro e w1 ⟨rfl, k⟩
        replace hb := below_next hb k
        clear k
        (try clear hc hf)
        obtain ⟨hc, hf⟩ := bcell hb
        go_wp2_with fail
        refine (l5Off_any _ _ _ _ hp).mono ?_
        rintro e w2 ⟨rfl, k⟩
        replace hb := below_next hb k
        clear k
        (try clear hc hf)
        obtain ⟨hc, hf⟩ := bcell hb
        go_wp2_with fail
        refine (l5stepS_any _ _ _ _ _ _ _ (reads_up HR.out hb) hz ho).mono ?_
        rintro e w3 ⟨rfl, k⟩
        replace hb := below_next hb k
        clear k
        (try clear hc hf)
        obtain ⟨hc, hf⟩ := bcell hb
        go_wp2_with fail
        refine (scoreS_any _ _ _ _ _ _ 0 _ (reads_up HR.out hb) hz hp (by omega) (by omega)).mono ?_
        rintro e w4 ⟨rfl, k⟩
        replace hb := below_next hb k
        clear k
        (try clear hc hf)
        obtain ⟨hc, hf⟩ := bcell hb
        go_wp2
        go_ret
        exact ⟨ret_bool (by simp), below_out hb⟩
      · rw [lockedB_ne he]
        have b1 : ((trkN z s.data.toList m off : Int) == (off : Int)) = false := by simpa using he
        clear he
        go_enter Try.func24, Try.ntmps24
        have hb := Below.refl (w.alloc (.cells #[.string s, .int .i64 (m:Int)] 25)).heap.size (w.alloc (.cells #[.string s, .int .i64 (m:Int)] 25))
        go_wp2_with fail
        refine (readyS_any _ _ _ _ _ _ (reads_up HR.out hb) hl hs).mono ?_
        rintro e w1 ⟨rfl, k⟩
        replace hb := below_next hb k
        clear k
        (try clear hc hf)
        obtain ⟨hc, hf⟩ := bcell hb
        go_wp2_with fail
        refine (l5Off_any _ _ _ _ hp).mono ?_
        rintro e w2 ⟨rfl, k⟩
        replace hb := below_next hb k
        clear k
        (try clear hc hf)
        obtain ⟨hc, hf⟩ := bcell hb
        go_wp2_with fail
        refine (l5stepS_any _ _ _ _ _ _ _ (reads_up HR.out hb) hz ho).mono ?_
        rintro e w3 ⟨rfl, k⟩
        replace hb := below_next hb k
        clear k
        (try clear hc hf)
        obtain ⟨hc, hf⟩ := bcell hb
        go_wp2
        go_ret
        exact ⟨rfl, below_out hb⟩
end Go.Proofs.Ytmecbiphejjkmaa
