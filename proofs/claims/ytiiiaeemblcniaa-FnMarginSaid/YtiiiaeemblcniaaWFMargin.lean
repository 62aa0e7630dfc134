/- The walk of the law FnMargin: if the margin of data is positive it is received without errors, and if it is negative there is an error. -/
import Derived.Test.YtiiiaeemblcniaaDrawHf
import Derived.Test.YtiiiaeemblcniaaMarg
import Derived.Test.YtiiiaeemblcniaaSsU
namespace Go.Proofs.Ytiiiaeemblcniaa.fnMargin
set_option maxRecDepth 20000
open Go.ChangeShapes Go.WideShapes Go.ChangeAt Go.RowKit
set_option linter.unusedVariables false
set_option linter.unusedSimpArgs false

theorem reads_up4 {w u : World} {A : Option Addr} {z : List Int} (h : Reads w w.heap.size A z) (hu : Below w.heap.size w u) : Reads u u.heap.size A z := (h.below hu (Nat.le_refl _)).more hu.size
theorem signs_ok (l : List Int) (h : l.length ≤ 600) : bitsOK (signs l) = true := by
  unfold bitsOK
  rw [signs_len, decide_eq_true h, Bool.true_and, List.all_eq_true]
  intro c hc
  have := signs_bits l c hc
  rcases this with rfl | rfl <;> rfl

set_option maxHeartbeats 16000000 in
theorem walk (a0 : Option Addr) (len0 cap0 : Nat) (z0 : List Int) (w : World) (hw0 : IsRow .u8 w a0 len0 cap0 z0) :
    Calls Try.prog 5 #[.slice a0 len0 cap0] w fun e w' => e = .returned (.bool true) ∧ Below w.heap.size w w' := by
  by_cases hlen : len0 ≤ 1048576
  rotate_left
  · go_enter Try.func5, Try.ntmps5
    go_wp2
    go_ret
    exact ⟨rfl, Below.refl _ _⟩
  go_enter Try.func5, Try.ntmps5
  go_wp2_with fail
  refine (drawMg_any _ _ _ _ _ hw0).mono ?_
  rintro e w1 ⟨v, z, l, x, d, rfl, ⟨hsl, hzl⟩, ⟨hl, hx, hd7⟩, hb1⟩
  clear hw0
  obtain ⟨A, c, rfl, hr, hzc⟩ := hsl.reads
  have zl := str_size l
  have zd := str_size d
  have hm : (str l).size ≤ maxLen := by unfold maxLen; omega
  have hmd : (str d).size ≤ maxLen := by unfold maxLen; omega
  have hz6 : z.length ≤ 1048576 := by omega
  have HR := Lib.hid hr
  have HSI : Hid (∀ u : World, Below w1.heap.size w1 u → Calls Try.prog 17 #[.slice A z.length c, .string (str l), .int .i64 x, .string (str d)] u fun e w' => e = .returned (intRes (mgO z (str l) x (str d))) ∧ Below u.heap.size u w') := fun u hu => mgI_any A c z (str l) x (str d) u (reads_up4 hr hu) hz6 hm hmd
  have HSS : Hid (∀ u : World, Below w1.heap.size w1 u → Calls Try.prog 18 #[.slice A z.length c, .string (str l), .int .i64 x, .string (str d)] u fun e w' => e = .returned (intRes (mgO z (str l) x (str d))) ∧ Below u.heap.size u w') := fun u hu => mgS_any A c z (str l) x (str d) u (reads_up4 hr hu) hz6 hm hmd
  have hb := Below.refl w1.heap.size w1
  have HB1 := Lib.hid hb1
  have hs1 := hb1.size
  clear hsl hr hb1
  cases hls : mgOK z (str l) x (str d) with
  | false =>
    rw [mg_no hls] at HSI HSS
    change Hid (∀ u : World, _ → Calls _ _ _ u fun e w' => e = .returned (.tuple #[.int .i64 0, .bool false]) ∧ _) at HSI
    change Hid (∀ u : World, _ → Calls _ _ _ u fun e w' => e = .returned (.tuple #[.int .i64 0, .bool false]) ∧ _) at HSS
    go_wp2_with fail
    refine (HSI.out _ hb).mono ?_
    rintro e w2 ⟨rfl, k2⟩
    replace hb := below_next hb k2
    clear k2
    go_wp2_with fail
    refine (HSS.out _ hb).mono ?_
    rintro e w3 ⟨rfl, k3⟩
    replace hb := below_next hb k3
    clear k3
    go_wp2
    go_ret
    exact ⟨rfl, HB1.out.trans (hb.mono hs1)⟩
  | true =>
    have hp := hls
    unfold mgOK at hp
    simp only [Bool.and_eq_true, decide_eq_true_eq] at hp
    obtain ⟨⟨hv, hbd⟩, hd1⟩ := hp
    rw [str_list] at hbd
    obtain ⟨hz, hq, hx0, hx3⟩ := rv_parts hv
    obtain ⟨X, rfl⟩ : ∃ X : Nat, x = (X : Int) := ⟨x.toNat, by omega⟩
    rw [mg_yes hls, str_list d, zd] at HSI HSS
    have hd6 := bits_le hbd
    have hrc : rcvO z (str l) (X : Int) (d.length : Int) = some (signs (dots z (str l).data.toList X d.length)) := rcv_yes (by rw [ls_rv, hv, inB_yes (by omega) (by omega)]; rfl)
    have HSU : Hid (∀ (u : World), Below w1.heap.size w1 u → Calls Try.prog 15 #[.slice A z.length c, .string (str l), .int .i64 (X : Int), .int .i64 (d.length : Int)] u fun e w' => e = .returned (.string (str (signs (dots z (str l).data.toList X d.length)))) ∧ Below u.heap.size u w') := fun u hu => ssUser_yes A c z (str l) _ _ _ u (reads_up4 HR.out hu) hz6 hm hrc
    have HBE : Hid (∀ (u : World), Calls Try.prog 19 #[.string (str (signs (dots z (str l).data.toList X d.length))), .string (str d)] u fun e w' => e = .returned (.int .i64 (diffN (signs (dots z (str l).data.toList X d.length)) d d.length : Int)) ∧ Below u.heap.size u w') := fun u => by
      have hsl : (signs (dots z (str l).data.toList X d.length)).length = d.length := by rw [signs_len, dots_len]
      have h := be_any (signs (dots z (str l).data.toList X d.length)) d u (by omega) (by omega)
      rw [be_yes (signs_ok _ (by rw [dots_len]; exact hd6)) hbd hsl, hsl] at h
      exact h
    have hgood : 0 < mgT z (str l).data.toList X d d.length → diffN (signs (dots z (str l).data.toList X d.length)) d d.length = 0 := margin_good hbd
    have hbad : mgT z (str l).data.toList X d d.length < 0 → 0 < diffN (signs (dots z (str l).data.toList X d.length)) d d.length := margin_bad hbd (by omega)
    obtain ⟨m, hme⟩ : ∃ m, m = mgT z (str l).data.toList X d d.length := ⟨_, rfl⟩
    obtain ⟨B, hB⟩ : ∃ B, B = signs (dots z (str l).data.toList X d.length) := ⟨_, rfl⟩
    rw [← hB] at HSU HBE hgood hbad
    obtain ⟨E, hE⟩ : ∃ E, E = diffN B d d.length := ⟨_, rfl⟩
    rw [← hE] at HBE hgood hbad
    rw [← hme] at HSI HSS hgood hbad
    change Hid (∀ u : World, _ → Calls _ _ _ u fun e w' => e = .returned (.tuple #[.int .i64 m, .bool true]) ∧ _) at HSI
    change Hid (∀ u : World, _ → Calls _ _ _ u fun e w' => e = .returned (.tuple #[.int .i64 m, .bool true]) ∧ _) at HSS
    have HG := Lib.hid hgood
    have HD := Lib.hid hbad
    clear hls hv hbd hz hq hme hB hE hgood hbad hrc hx0 hx3
    go_wp2_with fail
    refine (HSI.out _ hb).mono ?_
    rintro e w2 ⟨rfl, k2⟩
    replace hb := below_next hb k2
    clear k2
    go_wp2_with fail
    refine (HSS.out _ hb).mono ?_
    rintro e w3 ⟨rfl, k3⟩
    replace hb := below_next hb k3
    clear k3
    go_wp2_with fail
    refine (HSU.out _ hb).mono ?_
    rintro e w4 ⟨rfl, k4⟩
    replace hb := below_next hb k4
    clear k4
    go_wp2_with fail
    refine (HBE.out _).mono ?_
    rintro e w5 ⟨rfl, k5⟩
    replace hb := below_next hb k5
    clear k5
    by_cases hm0 : m < 0
    · have hE0 := HD.out hm0
      have hm1 : m ≤ 0 := by omega
      go_wp2
      go_ret
      exact ⟨rfl, HB1.out.trans (hb.mono hs1)⟩
    by_cases hm1 : 0 < m
    · have hE0 := HG.out hm1
      subst hE0
      go_wp2
      go_ret
      exact ⟨rfl, HB1.out.trans (hb.mono hs1)⟩
    obtain rfl : m = 0 := by omega
    go_wp2
    go_ret
    exact ⟨rfl, HB1.out.trans (hb.mono hs1)⟩
end Go.Proofs.Ytiiiaeemblcniaa.fnMargin
