/- Weak contracts of the functions that draw strings, and of the arguments that they draw. -/
import Derived.Test.YtmfblphnedoejaaDraw2
namespace Go.Proofs.Ytmfblphnedoejaa
set_option maxRecDepth 20000
open Go.ChangeShapes Go.WideShapes Go.ChangeAt Go.RowKit
set_option linter.unusedVariables false
set_option linter.unusedSimpArgs false

set_option maxHeartbeats 1000000 in
theorem wild_any (B g lim : Nat) (l : List UInt8) (w : World) (hr : Rd w B g lim) (hlim : lim ≤ 800000) (hl : l.length ≤ 2000) :
    Calls Try.prog 61 #[.pointer (some ⟨g, 0, none⟩), .string (str l)] w fun e w' => ∃ l', e = .returned (.string (str l')) ∧ l'.length ≤ 2001 ∧ Rd w' B g (lim + 10) ∧ Keeps g w w' := by
  have hg := hr.lt
  have z0 := str_size l
  have hk := Keeps.refl g w
  go_enter Try.func61, Try.ntmps61
  go_wp2_with fail
  refine (pick_any B g lim _ _ hr (by omega) (by omega) (by omega)).mono ?_
  rintro e u1 ⟨k, rfl, hx, hr', hk'⟩
  replace hk := hk.trans hk'
  clear hk' hr
  have hr := hr'
  clear hr'
  by_cases h0 : k = 0
  · subst h0
    clear hx
    go_wp2_with fail
    refine (of_lit B g _ [str [50], str [120]] _ _ _ hr (by omega) rfl (by simp) (by simp)).mono ?_
    rintro e u2 ⟨s, hs, rfl, hr', hk'⟩
    replace hk := hk.trans hk'
    clear hk' hr
    have hr := hr'
    clear hr'
    obtain ⟨t, rfl, ht⟩ : ∃ t : List UInt8, s = str t ∧ t.length = 1 := by
      simp only [List.mem_cons, List.not_mem_nil, or_false] at hs
      rcases hs with rfl | rfl
      · exact ⟨[50], rfl, rfl⟩
      · exact ⟨[120], rfl, rfl⟩
    have ha := str_add l t
    have z1 := str_size t
    clear hs
    go_wp2
    go_ret
    exact ⟨l ++ t, rfl, by simp; omega, hr.mono (by omega), hk⟩
  · have b0 : ((k : Int) == 0) = false := by simpa using h0
    by_cases h1 : k = 1
    · subst h1
      clear hx h0
      go_wp2_with fail
      refine (num_lit B g _ [600, 601, 599] _ _ _ hr (by omega) rfl (by simp) (by simp)).mono ?_
      rintro e u3 ⟨s, hs, rfl, hr', hk'⟩
      replace hk := hk.trans hk'
      clear hk' hr
      have hr := hr'
      clear hr'
      have hs2 : 0 ≤ s ∧ s ≤ 601 := by
        simp only [List.mem_cons, List.not_mem_nil, or_false] at hs
        omega
      clear hs
      go_wp2_with fail
      refine (many_any (str [48]) s _ (by rw [str_size]; simp; omega) (by omega)).mono ?_
      rintro e w' ⟨rfl, rfl⟩
      go_wp2
      go_ret
      exact ⟨_, rfl, by rw [manyL_len, str_list]; simp; omega, hr.mono (by omega), hk⟩
    · have b1 : ((k : Int) == 1) = false := by simp; omega
      clear hx h0 h1
      go_wp2
      go_ret
      exact ⟨l, rfl, by omega, hr.mono (by omega), hk⟩
theorem mod_any (k n : Int) (w : World) (hn : 1 ≤ n) (hn2 : n ≤ 1000000) (h1 : -1000000000 ≤ k) (h2 : k ≤ 1000000000) : Calls Try.prog 95 #[.int .i64 k, .int .i64 n] w fun e w' => e = .returned (.int .i64 (k % n)) ∧ w = w' := by
  have e1 : (k.tmod n + n) % n = k % n := by
    have hp := Int.tmod_lt_of_pos k (show 0 < n by omega)
    have hq : -n < k.tmod n := by
      have := Int.tmod_lt_of_pos (-k) (show 0 < n by omega)
      rw [Int.neg_tmod] at this; omega
    rw [Int.add_emod_right]
    have hd := Int.mul_tdiv_add_tmod k n
    conv => rhs; rw [← hd]
    rw [Int.add_comm, Int.add_mul_emod_self_left]
  have hp := Int.tmod_lt_of_pos k (show 0 < n by omega)
  have hq : -n < k.tmod n := by
    have := Int.tmod_lt_of_pos (-k) (show 0 < n by omega)
    rw [Int.neg_tmod] at this; omega
  have E := Lib.hid e1
  clear e1
  go_enter Try.func95, Try.ntmps95
  go_wp2
  go_ret
  exact ⟨ret_int E.out, rfl⟩
theorem padded_any (l : List UInt8) (n : Nat) (w : World) (hl : l.length ≤ 2000) (hn : 1 ≤ n) (hn2 : n ≤ 1000) : Calls Try.prog 59 #[.string (str l), .int .i64 (n : Int)] w fun e w' => ∃ k : Nat, e = .returned (.string (str (l ++ List.replicate k 48))) ∧ (k < n ∧ (l.length + k) % n = 0) ∧ w = w' := by
  have z0 := str_size l
  have hm1 : 0 ≤ (-(l.length : Int)) % (n : Int) := Int.emod_nonneg _ (by omega)
  have hm2 : (-(l.length : Int)) % (n : Int) < n := Int.emod_lt_of_pos _ (by omega)
  obtain ⟨k, hk⟩ : ∃ k : Nat, (-(l.length : Int)) % (n : Int) = (k : Int) := ⟨((-(l.length : Int)) % (n : Int)).toNat, by omega⟩
  have hz : (l.length + k) % n = 0 := by
    have : ((l.length : Int) + (-(l.length : Int)) % (n : Int)) % (n : Int) = 0 := by rw [Int.add_emod_emod]; simp [Int.add_right_neg]
    rw [hk] at this
    exact_mod_cast this
  have HM := Lib.hid (fun u : World => mod_any (-(l.length : Int)) (n : Int) u (by omega) (by omega) (by omega) (by omega))
  rw [hk] at HM
  have HR : Hid (∀ u : World, Calls Try.prog 77 #[.string ⟨#[48]⟩, .int .i64 (k : Int)] u fun e w' => e = .returned (.string (str (List.replicate k 48))) ∧ u = w') := fun u => by
    have := many_any (str [48]) (k : Int) u (by rw [str_size]; simp; omega) (by omega)
    rw [str_list, Int.toNat_natCast, manyL_one] at this
    exact this
  have hkn : k < n := by omega
  have ha := str_add l (List.replicate k 48)
  have z1 : (str (List.replicate k 48)).size = k := by rw [str_size, List.length_replicate]
  have HZ := Lib.hid hz
  clear hz hk hm1 hm2
  go_enter Try.func59, Try.ntmps59
  go_wp2_with fail
  refine (HM.out _).mono ?_
  rintro e w' ⟨rfl, rfl⟩
  go_wp2_with fail
  refine (HR.out _).mono ?_
  rintro e w' ⟨rfl, rfl⟩
  go_wp2
  go_ret
  exact ⟨k, rfl, ⟨hkn, HZ.out⟩, rfl⟩
theorem flip_bits {l : List UInt8} (h : ∀ c ∈ l, bit c) (k : Nat) (hk : k < l.length) : ∀ c ∈ flipL l k, bit c := fun c hc => by
  rcases List.mem_or_eq_of_mem_set hc with h1 | h1
  · exact h c h1
  · rw [h1]; exact inv1_bit (h _ (by rw [List.getD_eq_getElem?_getD, List.getElem?_eq_getElem hk]; exact List.getElem_mem hk))
set_option maxHeartbeats 1000000 in
theorem harm_any (B g lim : Nat) (l : List UInt8) (w : World) (hr : Rd w B g lim) (hlim : lim ≤ 800000) (hl : l.length ≤ 2000) (hb : ∀ c ∈ l, bit c) :
    Calls Try.prog 73 #[.pointer (some ⟨g, 0, none⟩), .string (str l)] w fun e w' => ∃ l', e = .returned (.string (str l')) ∧ (l'.length = l.length ∧ ∀ c ∈ l', bit c) ∧ Rd w' B g (lim + 10) ∧ Keeps g w w' := by
  have hg := hr.lt
  have hk := Keeps.refl g w
  have HB := Lib.hid hb
  clear hb
  go_enter Try.func73, Try.ntmps73
  go_wp2_with fail
  refine (num_lit B g _ [0, 1, 0, 2, 3] _ _ _ hr (by omega) rfl (by simp) (by simp)).mono ?_
  rintro e u4 ⟨s, hs, rfl, hr', hk'⟩
  replace hk := hk.trans hk'
  clear hk' hr
  have hr := hr'
  clear hr'
  obtain ⟨m, rfl, hm⟩ : ∃ m : Nat, s = (m : Int) ∧ m ≤ 3 := ⟨s.toNat, by simp at hs; omega, by simp at hs; omega⟩
  have HR := Lib.hid hr
  have HK := Lib.hid hk
  clear hs hr hk
  go_wp2
  go_loopw [1, 5] (fun v i wr => ∃ (k : Nat) (l' : List UInt8), i = .int .i64 (k : Int) ∧ v = .string (str l') ∧ k ≤ 3 ∧ l'.length = l.length ∧ (∀ c ∈ l', bit c) ∧ Rd wr B g (lim + 9 - 2 * k) ∧ Keeps g w wr) (fun _ i _ => (intOf i).toNat)
  case atStart => exact ⟨m, l, rfl, rfl, hm, rfl, HB.out, HR.out.mono (by omega), HK.out⟩
  case round =>
    clear HB HR HK
    obtain ⟨k, l', rfl, rfl, hk3, hll, hb', hr, hk⟩ := hrel
    have z0 := str_size l'
    have HB := Lib.hid hb'
    clear hb'
    by_cases h0 : 0 < k
    · by_cases h1 : 0 < l'.length
      · go_wp2_with fail
        refine (pick_any B g _ _ _ hr (by omega) (by omega) (by omega)).mono ?_
        rintro e u5 ⟨a, rfl, hx, hr', hk'⟩
        replace hk := hk.trans hk'
        clear hk' hr
        have hr := hr'
        clear hr'
        go_wp2_with fail
        refine (pick_any B g _ _ _ hr (by omega) (by omega) (by omega)).mono ?_
        rintro e u6 ⟨b, rfl, hy, hr', hk'⟩
        replace hk := hk.trans hk'
        clear hk' hr
        have hr := hr'
        clear hr'
        have ha : a < 256 := by have := hx.1 (by omega); omega
        have hb2 : b < 256 := by have := hy.1 (by omega); omega
        have hq : (a + b) % l.length < l'.length := by rw [hll]; exact Nat.mod_lt _ (by omega)
        have hqe : ((a : Int) + (b : Int)) % (l.length : Int) = (((a + b) % l.length : Nat) : Int) := rfl
        generalize (a + b) % l.length = q at hq hqe
        clear hx hy
        go_wp2_with fail
        refine (flipS_any l' q _ (by omega) hq HB.out).mono ?_
        rintro e u7 ⟨rfl, hk'⟩
        replace hr := hr.below hk'
        replace hk := Keeps.after hk hk'
        clear hk'
        have HF := Lib.hid (flip_bits HB.out q hq)
        go_wp2
        go_roundw
        case rel => exact ⟨k - 1, flipL l' q, by congr 1; omega, rfl, by omega, by rw [flipL_len]; exact hll, HF.out, hr.mono (by omega), hk⟩
        case measure => simp [intOf]; omega
      · go_wp2
        go_ret
        exact ⟨l', rfl, ⟨hll, HB.out⟩, hr.mono (by omega), hk⟩
    · go_wp2
      go_ret
      exact ⟨l', rfl, ⟨hll, HB.out⟩, hr.mono (by omega), hk⟩
theorem drawCrc_any (a : Option Addr) (len cap : Nat) (zs : List Int) (w : World) (h : IsRow .u8 w a len cap zs) :
    Calls Try.prog 26 #[.slice a len cap] w fun e w' => ∃ l, e = .returned (.string (str l)) ∧ l.length ≤ 2001 ∧ Below w.heap.size w w' := by
  go_enter Try.func26, Try.ntmps26
  go_wp2_with fail
  refine (open_any _ _ _ _ _ h).mono ?_
  rintro e w1 ⟨rfl, hr, hb⟩
  clear h
  have hg := hr.lt
  have hk := Keeps.refl w.heap.size w1
  go_wp2_with fail
  refine (l1String_any _ _ _ 40 _ hr (by omega) (by omega)).mono ?_
  rintro e u8 ⟨l, rfl, hl, hr', hk'⟩
  replace hk := hk.trans hk'
  clear hk' hr
  have hr := hr'
  clear hr'
  go_wp2_with fail
  refine (wild_any _ _ _ l _ hr (by omega) (by have := hl.1; omega)).mono ?_
  rintro e u9 ⟨l', rfl, hl2, hr', hk'⟩
  replace hk := hk.trans hk'
  clear hk' hr
  have hr := hr'
  clear hr'
  go_wp2
  go_ret
  exact ⟨l', rfl, hl2, hb.trans hk.below⟩
theorem drawDiff_any (a : Option Addr) (len cap : Nat) (zs : List Int) (w : World) (h : IsRow .u8 w a len cap zs) :
    Calls Try.prog 20 #[.slice a len cap] w fun e w' => ∃ l, e = .returned (.string (str l)) ∧ l.length ≤ 2001 ∧ Below w.heap.size w w' := by
  go_enter Try.func20, Try.ntmps20
  go_wp2_with fail
  refine (drawCrc_any _ _ _ _ _ h).mono ?_
  rintro e w1 ⟨l, rfl, hl, hb⟩
  go_wp2
  go_ret
  exact ⟨l, rfl, hl, hb⟩
end Go.Proofs.Ytmfblphnedoejaa
