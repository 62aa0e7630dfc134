/- Weak contracts of the functions that draw the arguments of the laws of frames. -/
import Derived.Test.YtmfblphnedoejaaDraw4
namespace Go.Proofs.Ytmfblphnedoejaa
set_option maxRecDepth 20000
open Go.ChangeShapes Go.WideShapes Go.ChangeAt Go.RowKit
set_option linter.unusedVariables false
set_option linter.unusedSimpArgs false

set_option maxHeartbeats 1000000 in
theorem count_any (B g lim : Nat) (w : World) (hr : Rd w B g lim) (hlim : lim ≤ 800000) :
    Calls Try.prog 89 #[.pointer (some ⟨g, 0, none⟩)] w fun e w' => ∃ n : Int, e = .returned (.int .i64 n) ∧ (-1 ≤ n ∧ n ≤ 11) ∧ Rd w' B g (lim + 2) ∧ Keeps g w w' := by
  have hg := hr.lt
  have hk := Keeps.refl g w
  go_enter Try.func89, Try.ntmps89
  go_wp2_with fail
  refine (pick_any _ _ _ _ _ hr (by omega) (by omega) (by omega)).mono ?_
  rintro e u16 ⟨k, rfl, hx, hr', hk'⟩
  replace hk := hk.trans hk'
  clear hk' hr
  have hr := hr'
  clear hr'
  clear hx
  by_cases h0 : k = 0
  · subst h0
    go_wp2_with fail
    refine (num_lit _ _ _ [0, 2, 11, -1] _ _ _ hr (by omega) rfl (by simp) (by simp)).mono ?_
    rintro e u17 ⟨n, hn, rfl, hr', hk'⟩
    replace hk := hk.trans hk'
    clear hk' hr
    have hr := hr'
    clear hr'
    have hn2 : -1 ≤ n ∧ n ≤ 11 := by simp at hn; omega
    clear hn
    go_wp2
    go_ret
    exact ⟨n, rfl, hn2, hr, hk⟩
  · have b0 : ((k : Int) == 0) = false := by simpa using h0
    go_wp2_with fail
    refine (num_lit _ _ _ [3, 5, 1, 7, 9] _ _ _ hr (by omega) rfl (by simp) (by simp)).mono ?_
    rintro e u18 ⟨n, hn, rfl, hr', hk'⟩
    replace hk := hk.trans hk'
    clear hk' hr
    have hr := hr'
    clear hr'
    have hn2 : -1 ≤ n ∧ n ≤ 11 := by simp at hn; omega
    clear hn
    go_wp2
    go_ret
    exact ⟨n, rfl, hn2, hr, hk⟩
set_option maxHeartbeats 1000000 in
theorem drawRep_any (a : Option Addr) (len cap : Nat) (zs : List Int) (w : World) (h : IsRow .u8 w a len cap zs) :
    Calls Try.prog 49 #[.slice a len cap] w fun e w' => ∃ (l : List UInt8) (n : Int), e = .returned (.tuple #[.string (str l), .int .i64 n]) ∧ l.length ≤ 2001 ∧ -1 ≤ n ∧ n ≤ 11 ∧ Below w.heap.size w w' := by
  go_enter Try.func49, Try.ntmps49
  go_wp2_with fail
  refine (open_any _ _ _ _ _ h).mono ?_
  rintro e w1 ⟨rfl, hr, hb⟩
  clear h
  have hg := hr.lt
  have hk := Keeps.refl w.heap.size w1
  go_wp2_with fail
  refine (count_any _ _ _ _ hr (by omega)).mono ?_
  rintro e u19 ⟨n, rfl, hn, hr', hk'⟩
  replace hk := hk.trans hk'
  clear hk' hr
  have hr := hr'
  clear hr'
  go_wp2_with fail
  refine (pick_any _ _ _ _ _ hr (by omega) (by omega) (by omega)).mono ?_
  rintro e u20 ⟨k, rfl, hx, hr', hk'⟩
  replace hk := hk.trans hk'
  clear hk' hr
  have hr := hr'
  clear hr'
  clear hx
  by_cases h0 : k = 0
  · subst h0
    go_wp2_with fail
    refine (many_any (str [48, 49]) 100 _ (by rw [str_size]; simp) (by omega)).mono ?_
    rintro e w' ⟨rfl, rfl⟩
    go_wp2
    go_ret2
    exact ⟨_, n, rfl, by rw [manyL_len, str_list]; simp, hn.1, hn.2, hb.trans hk.below⟩
  · have b0 : ((k : Int) == 0) = false := by simpa using h0
    go_wp2_with fail
    refine (l1String_any _ _ _ 20 _ hr (by omega) (by omega)).mono ?_
    rintro e u21 ⟨l, rfl, hl, hr', hk'⟩
    replace hk := hk.trans hk'
    clear hk' hr
    have hr := hr'
    clear hr'
    go_wp2_with fail
    refine (wild_any _ _ _ l _ hr (by omega) (by have := hl.1; omega)).mono ?_
    rintro e u22 ⟨l', rfl, hl2, hr', hk'⟩
    replace hk := hk.trans hk'
    clear hk' hr
    have hr := hr'
    clear hr'
    go_wp2
    go_ret2
    exact ⟨l', n, rfl, hl2, hn.1, hn.2, hb.trans hk.below⟩
set_option maxHeartbeats 2000000 in
theorem drawHamE_any (a : Option Addr) (len cap : Nat) (zs : List Int) (w : World) (h : IsRow .u8 w a len cap zs) :
    Calls Try.prog 34 #[.slice a len cap] w fun e w' => ∃ (l : List UInt8), e = .returned (.string (str l)) ∧ l.length ≤ 2001 ∧ Below w.heap.size w w' := by
  go_enter Try.func34, Try.ntmps34
  go_wp2_with fail
  refine (open_any _ _ _ _ _ h).mono ?_
  rintro e w1 ⟨rfl, hr, hb⟩
  clear h
  have hg := hr.lt
  have hk := Keeps.refl w.heap.size w1
  go_wp2_with fail
  refine (l1String_any _ _ _ 24 _ hr (by omega) (by omega)).mono ?_
  rintro e u23 ⟨l, rfl, hl, hr', hk'⟩
  replace hk := hk.trans hk'
  clear hk' hr
  have hr := hr'
  clear hr'
  go_wp2_with fail
  refine (pick_any _ _ _ _ _ hr (by omega) (by omega) (by omega)).mono ?_
  rintro e u24 ⟨j, rfl, hx, hr', hk'⟩
  replace hk := hk.trans hk'
  clear hk' hr
  have hr := hr'
  clear hr'
  have hl1 := hl.1
  clear hx hl
  by_cases h0 : 0 < j
  · go_wp2_with fail
    refine (padded_any l 4 _ (by omega) (by omega) (by omega)).mono ?_
    rintro e w' ⟨q, rfl, ⟨hq, _⟩, rfl⟩
    obtain ⟨l2, hl2e, hl2⟩ : ∃ l2, l2 = l ++ List.replicate q 48 ∧ l2.length ≤ 50 := ⟨_, rfl, by simp; omega⟩
    rw [← hl2e]
    clear hl2e
    go_wp2_with fail
    refine (pick_any _ _ _ _ _ hr (by omega) (by omega) (by omega)).mono ?_
    rintro e u25 ⟨i, rfl, hx, hr', hk'⟩
    replace hk := hk.trans hk'
    clear hk' hr
    have hr := hr'
    clear hr'
    clear hx
    by_cases h1 : i = 0
    · subst h1
      go_wp2_with fail
      refine (num_lit _ _ _ [85, 86] _ _ _ hr (by omega) rfl (by simp) (by simp)).mono ?_
      rintro e u26 ⟨n, hn, rfl, hr', hk'⟩
      replace hk := hk.trans hk'
      clear hk' hr
      have hr := hr'
      clear hr'
      have hn2 : 85 ≤ n ∧ n ≤ 86 := by simp at hn; omega
      clear hn
      go_wp2_with fail
      refine (many_any (str [48, 49, 49, 48]) n _ (by rw [str_size]; simp; omega) (by omega)).mono ?_
      rintro e w' ⟨rfl, rfl⟩
      go_wp2_with fail
      refine (wild_any _ _ _ _ _ hr (by omega) (by rw [manyL_len, str_list]; simp; omega)).mono ?_
      rintro e u27 ⟨l', rfl, hl3, hr', hk'⟩
      replace hk := hk.trans hk'
      clear hk' hr
      have hr := hr'
      clear hr'
      go_wp2
      go_ret
      exact ⟨l', rfl, hl3, hb.trans hk.below⟩
    · have b1 : ((i : Int) == 0) = false := by simpa using h1
      go_wp2_with fail
      refine (wild_any _ _ _ l2 _ hr (by omega) (by omega)).mono ?_
      rintro e u28 ⟨l', rfl, hl3, hr', hk'⟩
      replace hk := hk.trans hk'
      clear hk' hr
      have hr := hr'
      clear hr'
      go_wp2
      go_ret
      exact ⟨l', rfl, hl3, hb.trans hk.below⟩
  · obtain rfl : j = 0 := by omega
    go_wp2_with fail
    refine (pick_any _ _ _ _ _ hr (by omega) (by omega) (by omega)).mono ?_
    rintro e u29 ⟨i, rfl, hx, hr', hk'⟩
    replace hk := hk.trans hk'
    clear hk' hr
    have hr := hr'
    clear hr'
    clear hx
    by_cases h1 : i = 0
    · subst h1
      go_wp2_with fail
      refine (num_lit _ _ _ [85, 86] _ _ _ hr (by omega) rfl (by simp) (by simp)).mono ?_
      rintro e u30 ⟨n, hn, rfl, hr', hk'⟩
      replace hk := hk.trans hk'
      clear hk' hr
      have hr := hr'
      clear hr'
      have hn2 : 85 ≤ n ∧ n ≤ 86 := by simp at hn; omega
      clear hn
      go_wp2_with fail
      refine (many_any (str [48, 49, 49, 48]) n _ (by rw [str_size]; simp; omega) (by omega)).mono ?_
      rintro e w' ⟨rfl, rfl⟩
      go_wp2_with fail
      refine (wild_any _ _ _ _ _ hr (by omega) (by rw [manyL_len, str_list]; simp; omega)).mono ?_
      rintro e u31 ⟨l', rfl, hl3, hr', hk'⟩
      replace hk := hk.trans hk'
      clear hk' hr
      have hr := hr'
      clear hr'
      go_wp2
      go_ret
      exact ⟨l', rfl, hl3, hb.trans hk.below⟩
    · have b1 : ((i : Int) == 0) = false := by simpa using h1
      go_wp2_with fail
      refine (wild_any _ _ _ l _ hr (by omega) (by omega)).mono ?_
      rintro e u32 ⟨l', rfl, hl3, hr', hk'⟩
      replace hk := hk.trans hk'
      clear hk' hr
      have hr := hr'
      clear hr'
      go_wp2
      go_ret
      exact ⟨l', rfl, hl3, hb.trans hk.below⟩
end Go.Proofs.Ytmfblphnedoejaa
