/- Weak contracts of the functions that draw the arguments of the laws of frames. -/
import Derived.Test.YtmfblphnedoejaaDraw3
import Derived.Test.YtmfblphnedoejaaFrame
namespace Go.Proofs.Ytmfblphnedoejaa
set_option maxRecDepth 20000
open Go.ChangeShapes Go.WideShapes Go.ChangeAt Go.RowKit
set_option linter.unusedVariables false
set_option linter.unusedSimpArgs false

theorem BitsN.at_ {N : Nat} {l : List UInt8} (h : BitsN N l) (k : Nat) (hk : k < l.length) : bit (l.getD k 0) := h.2 _ (by rw [List.getD_eq_getElem?_getD, List.getElem?_eq_getElem hk]; exact List.getElem_mem hk)
theorem BitsN.ok {N : Nat} {l : List UInt8} (h : BitsN N l) (hN : N ≤ 600) : bitsOK l = true := bitsOK_mk (by have := h.1; omega) (fun c hc => by rcases h.2 c hc with h | h <;> rw [h] <;> rfl)
theorem BitsN.pad {N : Nat} {l : List UInt8} (h : BitsN N l) (k : Nat) : BitsN (N + k) (l ++ List.replicate k 48) := ⟨by have := h.1; simp; omega, fun c hc => by
  rcases List.mem_append.1 hc with h1 | h1
  · exact h.2 c h1
  · exact .inl (List.eq_of_mem_replicate h1)⟩
theorem bits_of_ok {l : List UInt8} (h : bitsOK l = true) : ∀ c ∈ l, bit c := fun c hc => by
  unfold bitsOK at h
  simp only [Bool.and_eq_true, List.all_eq_true] at h
  have := h.2 c hc
  simpa [bit1, bit] using this
set_option maxHeartbeats 2000000 in
theorem drawInter_any (a : Option Addr) (len cap : Nat) (zs : List Int) (w : World) (h : IsRow .u8 w a len cap zs) :
    Calls Try.prog 15 #[.slice a len cap] w fun e w' => ∃ (l : List UInt8) (n : Int), e = .returned (.tuple #[.string (str l), .int .i64 n]) ∧ l.length ≤ 2001 ∧ -1000 ≤ n ∧ n ≤ 1000 ∧ Below w.heap.size w w' := by
  go_enter Try.func15, Try.ntmps15
  go_wp2_with fail
  refine (open_any _ _ _ _ _ h).mono ?_
  rintro e w1 ⟨rfl, hr, hb⟩
  clear h
  have hg := hr.lt
  have hk := Keeps.refl w.heap.size w1
  go_wp2_with fail
  refine (pick_any _ _ _ _ _ hr (by omega) (by omega) (by omega)).mono ?_
  rintro e u1 ⟨k, rfl, hx, hr', hk'⟩
  replace hk := hk.trans hk'
  clear hk' hr
  have hr := hr'
  clear hr'
  have hk7 : k < 7 := by have := hx.1 (by omega); omega
  clear hx
  obtain ⟨r, hre, hr1, hr7⟩ : ∃ r : Nat, (1 : Int) + (k : Int) = (r : Int) ∧ 1 ≤ r ∧ r ≤ 7 := ⟨1 + k, by omega, by omega, by omega⟩
  go_wp2_with fail
  refine (l1String_any _ _ _ 40 _ hr (by omega) (by omega)).mono ?_
  rintro e u2 ⟨l, rfl, hl, hr', hk'⟩
  replace hk := hk.trans hk'
  clear hk' hr
  have hr := hr'
  clear hr'
  go_wp2_with fail
  refine (pick_any _ _ _ _ _ hr (by omega) (by omega) (by omega)).mono ?_
  rintro e u3 ⟨j, rfl, hx, hr', hk'⟩
  replace hk := hk.trans hk'
  clear hk' hr
  have hr := hr'
  clear hr'
  have hl1 := hl.1
  have HL := Lib.hid hl
  clear hx hl
  by_cases h0 : 0 < j
  · go_wp2_with fail
    refine (padded_any l r _ (by omega) hr1 (by omega)).mono ?_
    rintro e w' ⟨q, rfl, ⟨hq, _⟩, rfl⟩
    obtain ⟨l2, hl2e, hl2⟩ : ∃ l2, l2 = l ++ List.replicate q 48 ∧ l2.length ≤ 50 := ⟨_, rfl, by simp; omega⟩
    rw [← hl2e]
    clear hl2e
    go_wp2_with fail
    refine (pick_any _ _ _ _ _ hr (by omega) (by omega) (by omega)).mono ?_
    rintro e u4 ⟨i, rfl, hx, hr', hk'⟩
    replace hk := hk.trans hk'
    clear hk' hr
    have hr := hr'
    clear hr'
    clear hx
    by_cases h1 : i = 0
    · subst h1
      go_wp2_with fail
      refine (num_lit _ _ _ [0, 40, 41, -1] _ _ _ hr (by omega) rfl (by simp) (by simp)).mono ?_
      rintro e u5 ⟨n, hn, rfl, hr', hk'⟩
      replace hk := hk.trans hk'
      clear hk' hr
      have hr := hr'
      clear hr'
      have hn2 : -1000 ≤ n ∧ n ≤ 1000 := by simp at hn; omega
      clear hn
      go_wp2_with fail
      refine (wild_any _ _ _ l2 _ hr (by omega) (by omega)).mono ?_
      rintro e u6 ⟨l', rfl, hl3, hr', hk'⟩
      replace hk := hk.trans hk'
      clear hk' hr
      have hr := hr'
      clear hr'
      go_wp2
      go_ret2
      exact ⟨l', n, rfl, hl3, hn2.1, hn2.2, hb.trans hk.below⟩
    · have b1 : ((i : Int) == 0) = false := by simpa using h1
      go_wp2_with fail
      refine (wild_any _ _ _ l2 _ hr (by omega) (by omega)).mono ?_
      rintro e u7 ⟨l', rfl, hl3, hr', hk'⟩
      replace hk := hk.trans hk'
      clear hk' hr
      have hr := hr'
      clear hr'
      go_wp2
      go_ret2
      exact ⟨l', _, rfl, hl3, by omega, by omega, hb.trans hk.below⟩
  · obtain rfl : j = 0 := by omega
    go_wp2_with fail
    refine (pick_any _ _ _ _ _ hr (by omega) (by omega) (by omega)).mono ?_
    rintro e u8 ⟨i, rfl, hx, hr', hk'⟩
    replace hk := hk.trans hk'
    clear hk' hr
    have hr := hr'
    clear hr'
    clear hx
    by_cases h1 : i = 0
    · subst h1
      go_wp2_with fail
      refine (num_lit _ _ _ [0, 40, 41, -1] _ _ _ hr (by omega) rfl (by simp) (by simp)).mono ?_
      rintro e u9 ⟨n, hn, rfl, hr', hk'⟩
      replace hk := hk.trans hk'
      clear hk' hr
      have hr := hr'
      clear hr'
      have hn2 : -1000 ≤ n ∧ n ≤ 1000 := by simp at hn; omega
      clear hn
      go_wp2_with fail
      refine (wild_any _ _ _ l _ hr (by omega) (by omega)).mono ?_
      rintro e u10 ⟨l', rfl, hl3, hr', hk'⟩
      replace hk := hk.trans hk'
      clear hk' hr
      have hr := hr'
      clear hr'
      go_wp2
      go_ret2
      exact ⟨l', n, rfl, hl3, hn2.1, hn2.2, hb.trans hk.below⟩
    · have b1 : ((i : Int) == 0) = false := by simpa using h1
      go_wp2_with fail
      refine (wild_any _ _ _ l _ hr (by omega) (by omega)).mono ?_
      rintro e u11 ⟨l', rfl, hl3, hr', hk'⟩
      replace hk := hk.trans hk'
      clear hk' hr
      have hr := hr'
      clear hr'
      go_wp2
      go_ret2
      exact ⟨l', _, rfl, hl3, by omega, by omega, hb.trans hk.below⟩
set_option maxHeartbeats 1000000 in
theorem drawFrame_any (a : Option Addr) (len cap : Nat) (zs : List Int) (w : World) (h : IsRow .u8 w a len cap zs) :
    Calls Try.prog 38 #[.slice a len cap] w fun e w' => ∃ (l : List UInt8), e = .returned (.string (str l)) ∧ l.length ≤ 2001 ∧ Below w.heap.size w w' := by
  go_enter Try.func38, Try.ntmps38
  go_wp2_with fail
  refine (open_any _ _ _ _ _ h).mono ?_
  rintro e w1 ⟨rfl, hr, hb⟩
  clear h
  have hg := hr.lt
  have hk := Keeps.refl w.heap.size w1
  go_wp2_with fail
  refine (pick_any _ _ _ _ _ hr (by omega) (by omega) (by omega)).mono ?_
  rintro e u12 ⟨k, rfl, hx, hr', hk'⟩
  replace hk := hk.trans hk'
  clear hk' hr
  have hr := hr'
  clear hr'
  clear hx
  by_cases h0 : k = 0
  · subst h0
    go_wp2_with fail
    refine (num_lit _ _ _ [100, 101] _ _ _ hr (by omega) rfl (by simp) (by simp)).mono ?_
    rintro e u13 ⟨n, hn, rfl, hr', hk'⟩
    replace hk := hk.trans hk'
    clear hk' hr
    have hr := hr'
    clear hr'
    have hn2 : 100 ≤ n ∧ n ≤ 101 := by simp at hn; omega
    clear hn
    go_wp2_with fail
    refine (many_any (str [49]) n _ (by rw [str_size]; simp; omega) (by omega)).mono ?_
    rintro e w' ⟨rfl, rfl⟩
    go_wp2
    go_ret
    exact ⟨_, rfl, by rw [manyL_len, str_list]; simp; omega, hb.trans hk.below⟩
  · have b0 : ((k : Int) == 0) = false := by simpa using h0
    go_wp2_with fail
    refine (l1String_any _ _ _ 40 _ hr (by omega) (by omega)).mono ?_
    rintro e u14 ⟨l, rfl, hl, hr', hk'⟩
    replace hk := hk.trans hk'
    clear hk' hr
    have hr := hr'
    clear hr'
    go_wp2_with fail
    refine (wild_any _ _ _ l _ hr (by omega) (by have := hl.1; omega)).mono ?_
    rintro e u15 ⟨l', rfl, hl2, hr', hk'⟩
    replace hk := hk.trans hk'
    clear hk' hr
    have hr := hr'
    clear hr'
    go_wp2
    go_ret
    exact ⟨l', rfl, hl2, hb.trans hk.below⟩
end Go.Proofs.Ytmfblphnedoejaa
