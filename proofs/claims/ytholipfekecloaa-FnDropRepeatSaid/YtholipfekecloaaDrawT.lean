/- Weak contract of the function that draws a threshold. -/
import Derived.Test.YtholipfekecloaaDrawS
namespace Go.Proofs.Ytholipfekecloaa
set_option maxRecDepth 20000
open Go.ChangeShapes Go.WideShapes Go.ChangeAt Go.RowKit
set_option linter.unusedVariables false
set_option linter.unusedSimpArgs false

set_option maxHeartbeats 2000000 in
theorem threshold_any (B g lim : Nat) (l : List UInt8) (m : Nat) (w : World) (hr : Rd w B g lim) (hlim : lim ≤ 4000) (hp : pilotOK l (m : Int) = true) (hl : l.length ≤ 100) (hm : m ≤ 8) :
    Calls Try.prog 73 #[.pointer (some ⟨g, 0, none⟩), .agg #[.string (str l), .int .i64 (m : Int)]] w fun e w' => ∃ n : Int, e = .returned (.int .i64 n) ∧ (-9223372036854775808 ≤ n ∧ n ≤ 9223372036854775807) ∧ Rd w' B g (lim + 10) ∧ Keeps g w w' := by
  have hg := hr.lt
  have zl := str_size l
  obtain ⟨L, hL, hL1, hL2⟩ : ∃ L : Nat, L = l.length * m ∧ 1 ≤ L ∧ L ≤ 800 := by
    have h := pilot_parts (s := str l) (n := (m : Int)) (by rw [str_list]; exact hp)
    refine ⟨_, rfl, ?_, ?_⟩
    · have := h.2.2.2.2.2.1
      rw [zl] at this
      exact_mod_cast this
    · exact Nat.le_trans (Nat.mul_le_mul hl hm) (by omega)
  have HLEN : Hid (∀ u : World, Calls Try.prog 54 #[.agg #[.string (str l), .int .i64 (m : Int)]] u fun e w' => e = .returned (.int .i64 (L : Int)) ∧ Below u.heap.size u w') := Lib.hid fun u => by
    have e : ((str l).size : Int) * (m : Int) = (L : Int) := by rw [zl, hL, Int.natCast_mul]
    have hh := l5Length_any (str l) (m : Int) u (by rw [e]; omega) (by rw [e]; omega)
    rw [e] at hh
    exact hh
  obtain ⟨W, hW⟩ : ∃ W, W = w.alloc (.cells #[.string (str l), .int .i64 (m : Int)] 24) := ⟨_, rfl⟩
  have hb0 : Below w.heap.size w W := by rw [hW]; exact (Below.refl _ _).alloc (Nat.le_refl _) _
  have hX : Two W w.heap.size (.string (str l)) (.int .i64 (m : Int)) := by rw [hW]; exact Two.box _ _ _
  have hgW : g < W.heap.size := Nat.lt_of_lt_of_le hg.2 hb0.size
  have hs0 : St B g lim W W := ⟨hr.below hb0, Keeps.refl _ _⟩
  have hk0 : Keeps g w W := (Keeps.refl g w).step hb0 hg.2
  clear hL
  go_enter Try.func73, Try.ntmps73
  go_wp2_with fail
  rw [← hW]
  clear hW hr hb0
  have HX := Lib.hid hX
  have HK := Lib.hid hk0
  clear hX hk0
  refine (pick_st B g _ _ _ hs0 (by omega) (by omega) (by omega)).mono ?_
  rintro e u1 ⟨k, rfl, hx, hs⟩
  clear hx hs0
  have hne : w.heap.size ≠ g := by omega
  by_cases h0 : k = 0
  · subst h0
    go_wp2_with fail
    refine (num_lit B g _ [-9223372036854775808, 9223372036854775807, 0] _ _ _ hs.1 (by omega) rfl (by simp) (by simp)).mono ?_
    rintro e u3 ⟨n, hn, rfl, hr3, hk3⟩
    have hn2 : -9223372036854775808 ≤ n ∧ n ≤ 9223372036854775807 := by simp at hn; omega
    clear hn
    go_wp2
    go_ret
    exact ⟨n, rfl, hn2, hr3.mono (by omega), HK.out.trans (hs.2.trans hk3)⟩
  have b0 : ((k : Int) == 0) = false := by simpa using h0
  obtain ⟨c0, c1⟩ := two_st HX.out hne hs
  go_wp2_with fail
  refine (bel_st hs hgW (HLEN.out _)).mono ?_
  rintro e u2 ⟨rfl, hs2⟩
  clear c0 c1
  go_wp2_with fail
  refine (pick_st B g _ _ _ hs2 (by omega) (by omega) (by omega)).mono ?_
  rintro e u3 ⟨j, rfl, hj, hs3⟩
  have hj5 : j < 5 := by have := hj.1 (by omega); omega
  have hw1 : IntKind.i64.wrap (1 + (j : Int)) = 1 + (j : Int) := IntWalk.i64_in _ (by omega)
  obtain ⟨q, hq, hq2⟩ : ∃ q : Nat, (L : Int) * (1 + (j : Int)) = (q : Int) ∧ q ≤ 4000 := ⟨L * (1 + j), by rw [Int.natCast_mul, Int.natCast_add]; rfl, Nat.le_trans (Nat.mul_le_mul hL2 (show 1 + j ≤ 5 by omega)) (by omega)⟩
  have hw2 : IntKind.i64.wrap (q : Int) = (q : Int) := IntWalk.i64_in _ (by omega)
  have ht : Int.tdiv (q : Int) 2 = ((q / 2 : Nat) : Int) := by rw [Int.tdiv_eq_ediv_of_nonneg (by omega)]; rfl
  have hw3 : IntKind.i64.wrap ((q / 2 : Nat) : Int) = ((q / 2 : Nat) : Int) := IntWalk.i64_in _ (by omega)
  clear hj
  go_wp2
  go_ret
  exact ⟨_, rfl, by omega, hs3.1.mono (by omega), HK.out.trans hs3.2⟩
end Go.Proofs.Ytholipfekecloaa
