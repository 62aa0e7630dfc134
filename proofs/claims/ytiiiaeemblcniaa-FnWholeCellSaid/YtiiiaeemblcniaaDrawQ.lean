/- Weak contracts of the functions that draw offsets, and pilots that are sometimes not valid. -/
import Derived.Test.YtiiiaeemblcniaaDrawP
namespace Go.Proofs.Ytiiiaeemblcniaa
set_option maxRecDepth 20000
open Go.ChangeShapes Go.WideShapes Go.ChangeAt Go.RowKit
set_option linter.unusedVariables false
set_option linter.unusedSimpArgs false

set_option maxHeartbeats 2000000 in
theorem l2Bad_any (B g lim : Nat) (l : List UInt8) (w : World) (hr : Rd w B g lim) (hlim : lim ≤ 5000) (hl : l.length ≤ 2000) :
    Calls Try.prog 61 #[.pointer (some ⟨g, 0, none⟩), .string (str l)] w fun e w' => ∃ l', e = .returned (.string (str l')) ∧ l'.length ≤ 2001 ∧ Rd w' B g (lim + 10) ∧ Keeps g w w' := by
  have hg := hr.lt
  have z0 := str_size l
  have hk := Keeps.refl g w
  go_enter Try.func61, Try.ntmps61
  go_wp2_with fail
  refine (pick_any B g lim _ _ hr (by omega) (by omega) (by omega)).mono ?_
  rintro e u10 ⟨k, rfl, hx, hr', hk'⟩
  replace hk := hk.trans hk'
  clear hk' hr
  have hr := hr'
  clear hr'
  clear hx
  by_cases h0 : k = 0
  · subst h0
    go_wp2_with fail
    refine (of_lit B g _ [str [50], str [120], str [32]] _ _ _ hr (by omega) rfl (by simp) (by simp)).mono ?_
    rintro e u11 ⟨s, hs, rfl, hr', hk'⟩
    replace hk := hk.trans hk'
    clear hk' hr
    have hr := hr'
    clear hr'
    obtain ⟨t, rfl, ht⟩ : ∃ t : List UInt8, s = str t ∧ t.length = 1 := by
      simp only [List.mem_cons, List.not_mem_nil, or_false] at hs
      rcases hs with rfl | rfl | rfl
      · exact ⟨[50], rfl, rfl⟩
      · exact ⟨[120], rfl, rfl⟩
      · exact ⟨[32], rfl, rfl⟩
    have ha := str_add l t
    have z1 := str_size t
    clear hs
    go_wp2
    go_ret
    exact ⟨l ++ t, rfl, by simp; omega, hr.mono (by omega), hk⟩
  have b0 : ((k : Int) == 0) = false := by simpa using h0
  by_cases h1 : k = 1
  · subst h1
    go_wp2
    go_ret
    exact ⟨[], rfl, by simp, hr.mono (by omega), hk⟩
  have b1 : ((k : Int) == 1) = false := by simp; omega
  by_cases h2 : k = 2
  · subst h2
    go_wp2_with fail
    refine (num_lit B g _ [255, 256] _ _ _ hr (by omega) rfl (by simp) (by simp)).mono ?_
    rintro e u12 ⟨s, hs, rfl, hr', hk'⟩
    replace hk := hk.trans hk'
    clear hk' hr
    have hr := hr'
    clear hr'
    have hs2 : 0 ≤ s ∧ s ≤ 256 := by simp at hs; omega
    clear hs
    go_wp2_with fail
    refine (many_any (str [49]) s _ (by rw [str_size]; simp; omega) (by omega)).mono ?_
    rintro e w' ⟨rfl, rfl⟩
    go_wp2
    go_ret
    exact ⟨_, rfl, by rw [manyL_len, str_list]; simp; omega, hr.mono (by omega), hk⟩
  have b2 : ((k : Int) == 2) = false := by simp; omega
  go_wp2
  go_ret
  exact ⟨l, rfl, by omega, hr.mono (by omega), hk⟩
end Go.Proofs.Ytiiiaeemblcniaa
