/- Weak contracts of the functions that draw a signal and an index. -/
import Derived.Test.YtholipfekecloaaDrawH
namespace Go.Proofs.Ytholipfekecloaa
set_option maxRecDepth 20000
open Go.ChangeShapes Go.WideShapes Go.ChangeAt Go.RowKit
set_option linter.unusedVariables false
set_option linter.unusedSimpArgs false

set_option maxHeartbeats 4000000 in
theorem drawDrop_any (a : Option Addr) (len cap : Nat) (zs : List Int) (w : World) (h : IsRow .u8 w a len cap zs) :
    Calls Try.prog 61 #[.slice a len cap] w fun e w' => ∃ (v : Value) (z : List Int) (x : Int), e = .returned (.tuple #[v, .int .i64 x]) ∧ (Sl w' w.heap.size w'.heap.size v z ∧ z.length ≤ 10001) ∧ Below w.heap.size w w' := by
  go_enter Try.func61, Try.ntmps61
  go_wp2_with fail
  refine (open_any _ _ _ _ _ h).mono ?_
  rintro e w1 ⟨rfl, hr, hb⟩
  clear h
  have hg := hr.lt
  go_wp2_with fail
  refine (l4Some_any _ _ _ 20 _ hr (by omega) (by omega)).mono ?_
  rintro e w2 ⟨v, z, rfl, ⟨hsl, hz⟩, hr2, hk2⟩
  have HB := Lib.hid hb
  have hs2 := hk2.size
  go_wp2_with fail
  refine (l4Bad_any _ _ _ w1.heap.size v z _ hr2 (by omega) hsl hs2 (by omega) (by omega)).mono ?_
  rintro e w3 ⟨v', z', rfl, ⟨hsl3, hz3⟩, hr3, hk3⟩
  have hk := hk3.keeps hk2 (Nat.le_refl _)
  obtain ⟨A, c, rfl, hrd, hc⟩ := hsl3.reads
  have HS := Lib.hid hsl3
  have hbs := hb.size
  clear hr hb hr2 hk2 hsl hk3 hsl3 hrd hs2
  have hr := hr3
  clear hr3
  go_wp2_with fail
  refine (pick_any _ _ _ _ _ hr (by omega) (by omega) (by omega)).mono ?_
  rintro e w4 ⟨k, rfl, hx, hr4, hk4⟩
  have HS4 := Lib.hid ((HS.out.keeps hk4 (by omega)).up hk4.size)
  have hkk := hk.trans hk4
  clear hx hr hk hk4 HS
  by_cases h0 : k = 0
  · subst h0
    go_wp2_with fail
    refine (num_lit _ _ _ [-1, (z'.length : Int), 9223372036854775807] _ _ _ hr4 (by omega) rfl (by simp) (by simp)).mono ?_
    rintro e w5 ⟨n, hn, rfl, hr5, hk5⟩
    have HS5 := Lib.hid (((HS4.out.keeps hk5 (by omega)).up hk5.size).mono hbs (Nat.le_refl _))
    have HBF := Lib.hid (HB.out.trans ((hkk.trans hk5).below.mono (by omega)))
    clear hn hr5 hk5 hkk hr4
    go_wp2
    go_ret2
    exact ⟨_, _, _, rfl, ⟨HS5.out, hz3⟩, HBF.out⟩
  · by_cases hl : z'.length ≤ 1
    · have hl2 : (z'.length : Int) ≤ 1 := by omega
      go_wp2_with fail
      all_goals first | (exfalso; omega) | skip
      all_goals
        refine (pick_any _ _ _ _ _ hr4 (by omega) (by omega) (by omega)).mono ?_
        rintro e w5 ⟨j, rfl, hj, hr5, hk5⟩
        have HS5 := Lib.hid (((HS4.out.keeps hk5 (by omega)).up hk5.size).mono hbs (Nat.le_refl _))
        have HBF := Lib.hid (HB.out.trans ((hkk.trans hk5).below.mono (by omega)))
        clear hj hr5 hk5 hkk hr4
        go_wp2
        go_ret2
        exact ⟨_, _, _, rfl, ⟨HS5.out, hz3⟩, HBF.out⟩
    · have hl2 : (1 : Int) < (z'.length : Int) := by omega
      go_wp2_with fail
      all_goals first | (exfalso; omega) | skip
      all_goals
        refine (pick_any _ _ _ _ _ hr4 (by omega) (by omega) (by omega)).mono ?_
        rintro e w5 ⟨j, rfl, hj, hr5, hk5⟩
        have HS5 := Lib.hid (((HS4.out.keeps hk5 (by omega)).up hk5.size).mono hbs (Nat.le_refl _))
        have HBF := Lib.hid (HB.out.trans ((hkk.trans hk5).below.mono (by omega)))
        clear hj hr5 hk5 hkk hr4
        go_wp2
        go_ret2
        exact ⟨_, _, _, rfl, ⟨HS5.out, hz3⟩, HBF.out⟩
theorem drawRepeat_any (a : Option Addr) (len cap : Nat) (zs : List Int) (w : World) (h : IsRow .u8 w a len cap zs) :
    Calls Try.prog 21 #[.slice a len cap] w fun e w' => ∃ (v : Value) (z : List Int) (x : Int), e = .returned (.tuple #[v, .int .i64 x]) ∧ (Sl w' w.heap.size w'.heap.size v z ∧ z.length ≤ 10001) ∧ Below w.heap.size w w' := by
  have HD := Lib.hid (drawDrop_any a len cap zs w h)
  clear h
  go_enter Try.func21, Try.ntmps21
  go_wp2_with fail
  refine HD.out.mono ?_
  rintro e w1 ⟨v, z, x, rfl, hs, hb⟩
  have HS := Lib.hid hs
  have HB := Lib.hid hb
  clear hs hb
  go_wp2
  go_ret2
  exact ⟨_, _, _, rfl, HS.out, HB.out⟩
end Go.Proofs.Ytholipfekecloaa
