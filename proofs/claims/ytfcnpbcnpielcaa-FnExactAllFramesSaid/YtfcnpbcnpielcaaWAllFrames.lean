/- The walk of the law FnExactAllFrames. -/
import Derived.Test.YtfcnpbcnpielcaaAll
namespace Go.Proofs.Ytfcnpbcnpielcaa.fnExactAllFrames
set_option maxRecDepth 20000
open Go.ChangeShapes Go.WideShapes Go.ChangeAt Go.RowKit
set_option linter.unusedVariables false
set_option linter.unusedSimpArgs false

theorem allG_len (l : List UInt8) : ∀ f a, allG l f a = [] ∨ 23 * (allG l f a).length + a ≤ 600
  | 0, a => .inl rfl
  | f + 1, a => by
    by_cases h : 0 ≤ find l (a : Int)
    · obtain ⟨m, p, e, hm, ham, _, hp, h23, hel, h6⟩ := find_some h
      right
      rw [allG_yes hm hp]
      rcases allG_len l f e with h1 | h1
      · rw [h1]; simp; omega
      · simp only [List.length_cons]; omega
    · left; exact allG_no (by omega)
theorem allL_len (l : List UInt8) : (allL l).length ≤ 1000 := by
  rcases allG_len l (l.length + 1) 0 with h | h
  · unfold allL; rw [h]; simp
  · unfold allL; omega

set_option maxHeartbeats 2000000 in
theorem walk (s0 : ByteArray) (w : World) (hs : s0.size ≤ maxLen) :
    Calls Try.prog 5 #[.string s0] w fun e w' => e = .returned (.bool true) ∧ Below w.heap.size w w' := by
  obtain ⟨l, rfl⟩ : ∃ l, s0 = str l := ⟨s0.data.toList, (str_of s0).symm⟩
  have zl := str_size l
  rw [zl] at hs
  unfold maxLen at hs
  by_cases hlen : l.length ≤ 1048576
  rotate_left
  · go_enter Try.func5, Try.ntmps5
    go_wp2
    go_ret
    exact ⟨rfl, Below.refl _ _⟩
  have hn := allL_len l
  have HS := Lib.hid (fun u : World => allS_any l u (by omega))
  have HI := Lib.hid (fun u : World => allI_any l u (by omega))
  generalize allL l = xs at *
  go_enter Try.func5, Try.ntmps5
  go_wp2_with fail
  refine (HS.out _).mono ?_
  rintro e w1 ⟨g0, c0, rfl, ho0, hb1⟩
  go_wp2_with fail
  refine (HI.out _).mono ?_
  rintro e w2 ⟨g1, c1, rfl, ho1, hb2⟩
  have hlt0 := ho0.lt
  have hlt1 := ho1.lt
  replace ho0 := ho0.below hb2 hlt0.2
  replace hb1 := hb1.trans (hb2.mono hb1.size)
  clear hb2
  go_wp2_with fail
  refine (eqStr_any xs ho1 ho0 hn).mono ?_
  rintro e w3 ⟨rfl, k⟩
  replace ho0 := ho0.below k ho0.lt.2
  replace ho1 := ho1.below k hlt1.2
  replace hb1 := hb1.trans (k.mono hb1.size)
  clear k
  go_wp2_with fail
  refine (markStr_any ho1 hn).mono ?_
  rintro e w4 ⟨rfl, hm1, hk⟩
  replace ho0 := ho0.keeps hk (by omega)
  replace hb1 := hb1.trans (hk.below.mono (by omega))
  clear hk ho1
  go_wp2_with fail
  refine (heldStr_any hm1 hn).mono ?_
  rintro e w5 ⟨rfl, k⟩
  replace ho0 := ho0.below k ho0.lt.2
  replace hm1 := hm1.below k hm1.lt.2
  replace hb1 := hb1.trans (k.mono hb1.size)
  clear k
  go_wp2_with fail
  refine (HI.out _).mono ?_
  rintro e w6 ⟨g2, c2, rfl, ho2, k⟩
  replace ho0 := ho0.below k ho0.lt.2
  replace hm1 := hm1.below k hm1.lt.2
  replace hb1 := hb1.trans (k.mono hb1.size)
  clear k
  go_wp2_with fail
  refine (eqStr_any xs ho2 ho0 hn).mono ?_
  rintro e w7 ⟨rfl, k⟩
  replace hm1 := hm1.below k hm1.lt.2
  replace hb1 := hb1.trans (k.mono hb1.size)
  clear k ho0 ho2
  go_wp2_with fail
  refine (heldStr_any hm1 hn).mono ?_
  rintro e w8 ⟨rfl, k⟩
  replace hb1 := hb1.trans (k.mono hb1.size)
  clear k hm1
  go_wp2
  go_ret
  exact ⟨rfl, hb1⟩
end Go.Proofs.Ytfcnpbcnpielcaa.fnExactAllFrames
