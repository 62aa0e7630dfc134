/- Weak contracts of the functions that draw the arguments of the laws of frames. -/
import Derived.Test.YtmfblphnedoejaaDraw4
namespace Go.Proofs.Ytmfblphnedoejaa
set_option maxRecDepth 20000
open Go.ChangeShapes Go.WideShapes Go.ChangeAt Go.RowKit
set_option linter.unusedVariables false
set_option linter.unusedSimpArgs false

set_option maxHeartbeats 2000000 in
theorem drawHamD_any (a : Option Addr) (len cap : Nat) (zs : List Int) (w : World) (h : IsRow .u8 w a len cap zs) :
    Calls Try.prog 47 #[.slice a len cap] w fun e w' => ∃ (l : List UInt8), e = .returned (.string (str l)) ∧ l.length ≤ 2001 ∧ Below w.heap.size w w' := by
  go_enter Try.func47, Try.ntmps47
  go_wp2_with fail
  refine (open_any _ _ _ _ _ h).mono ?_
  rintro e w1 ⟨rfl, hr, hb⟩
  clear h
  have hg := hr.lt
  have hk := Keeps.refl w.heap.size w1
  go_wp2_with fail
  refine (l1String_any _ _ _ 24 _ hr (by omega) (by omega)).mono ?_
  rintro e u33 ⟨l, rfl, hl, hr', hk'⟩
  replace hk := hk.trans hk'
  clear hk' hr
  have hr := hr'
  clear hr'
  go_wp2_with fail
  refine (padded_any l 4 _ (by have := hl.1; omega) (by omega) (by omega)).mono ?_
  rintro e w' ⟨q, rfl, ⟨hq, hq4⟩, rfl⟩
  have hp := hl.pad q
  obtain ⟨l2, hl2e, hl2, hl24⟩ : ∃ l2, l2 = l ++ List.replicate q 48 ∧ l2.length ≤ 27 ∧ l2.length % 4 = 0 := ⟨_, rfl, by have := hl.1; simp; omega, by simpa using hq4⟩
  rw [← hl2e] at hp ⊢
  clear hl2e
  have hok := hp.ok (by omega)
  have z2 := str_size l2
  have hE : hamEnc l2 = some (hamTo l2 (l2.length / 4)) := by
    have := hamEnc_yes (s := str l2) (by rw [str_list]; exact hok) (by rw [str_size]; exact hl24) (by rw [str_size]; omega)
    rwa [str_list, str_size] at this
  obtain ⟨M, hM⟩ : ∃ M, M = hamTo l2 (l2.length / 4) := ⟨_, rfl⟩
  rw [← hM] at hE
  have hT : Hid (∀ u : World, Calls Try.prog 36 #[.string (str l2)] u fun e w' => e = .returned (.tuple #[.string (str M), .bool true]) ∧ Below u.heap.size u w') := fun u => by
    have hh := hamEncS_any (str l2) u (by rw [str_size]; unfold maxLen; omega)
    rw [str_list, hE] at hh
    exact hh
  have hMl : M.length ≤ 100 := by rw [hM, hamTo_len]; omega
  have hMb : ∀ c ∈ M, bit c := fun c hc => by
    rw [hM] at hc
    have := hamTo_bits hok _ (by omega) c hc
    simpa [bit1, bit] using this
  clear hE hM hok hp hl hl24 hq4
  go_wp2_with fail
  refine (hT.out _).mono ?_
  rintro e u34 ⟨rfl, hk'⟩
  replace hr := hr.below hk'
  replace hk := Keeps.after hk hk'
  clear hk'
  go_wp2_with fail
  refine (harm_any _ _ _ M _ hr (by omega) (by omega) hMb).mono ?_
  rintro e u35 ⟨l3, rfl, hl3, hr', hk'⟩
  replace hk := hk.trans hk'
  clear hk' hr
  have hr := hr'
  clear hr'
  clear hMb
  have hl31 := hl3.1
  clear hl3
  have z3 := str_size l3
  go_wp2_with fail
  refine (pick_any _ _ _ _ _ hr (by omega) (by omega) (by omega)).mono ?_
  rintro e u36 ⟨i, rfl, hx, hr', hk'⟩
  replace hk := hk.trans hk'
  clear hk' hr
  have hr := hr'
  clear hr'
  clear hx
  by_cases h1 : i = 0
  · subst h1
    have ha : str l3 ++ (⟨#[49]⟩ : ByteArray) = str (l3 ++ [49]) := str_add l3 [49]
    go_wp2_with fail
    refine (wild_any _ _ _ (l3 ++ [49]) _ hr (by omega) (by simp; omega)).mono ?_
    rintro e u9 ⟨l', rfl, hl4, hr', hk'⟩
    replace hk := hk.trans hk'
    go_wp2
    go_ret
    exact ⟨l', rfl, hl4, hb.trans hk.below⟩
  · have b1 : ((i : Int) == 0) = false := by simpa using h1
    go_wp2_with fail
    refine (wild_any _ _ _ l3 _ hr (by omega) (by omega)).mono ?_
    rintro e u37 ⟨l', rfl, hl4, hr', hk'⟩
    replace hk := hk.trans hk'
    clear hk' hr
    have hr := hr'
    clear hr'
    go_wp2
    go_ret
    exact ⟨l', rfl, hl4, hb.trans hk.below⟩
theorem four_eq {b : List UInt8} (h : b.length = 4) : b = [b.getD 0 0, b.getD 1 0, b.getD 2 0, b.getD 3 0] := by
  match b, h with
  | [_, _, _, _], _ => rfl
set_option maxHeartbeats 2000000 in
theorem drawSyn_any (a : Option Addr) (len cap : Nat) (zs : List Int) (w : World) (h : IsRow .u8 w a len cap zs) :
    Calls Try.prog 31 #[.slice a len cap] w fun e w' => ∃ (l : List UInt8), e = .returned (.string (str l)) ∧ l.length ≤ 2001 ∧ Below w.heap.size w w' := by
  go_enter Try.func31, Try.ntmps31
  go_wp2_with fail
  refine (open_any _ _ _ _ _ h).mono ?_
  rintro e w1 ⟨rfl, hr, hb⟩
  clear h
  have hg := hr.lt
  have hk := Keeps.refl w.heap.size w1
  go_wp2_with fail
  refine (l1String_any _ _ _ 3 _ hr (by omega) (by omega)).mono ?_
  rintro e u38 ⟨l, rfl, hl, hr', hk'⟩
  replace hk := hk.trans hk'
  clear hk' hr
  have hr := hr'
  clear hr'
  have zl := str_size l
  have ha : str l ++ (⟨#[49]⟩ : ByteArray) = str (l ++ [49]) := str_add l [49]
  obtain ⟨l1, hl1e, hl1, hl11, hl1b⟩ : ∃ l1, l1 = l ++ [49] ∧ l1.length ≤ 4 ∧ 1 ≤ l1.length ∧ BitsN 4 l1 := ⟨_, rfl, by have := hl.1; simp; omega, by simp, ⟨by have := hl.1; simp; omega, fun c hc => by
    rcases List.mem_append.1 hc with h1 | h1
    · exact hl.2 c h1
    · simp at h1; exact .inr h1⟩⟩
  rw [← hl1e] at ha
  clear hl1e
  have hll := hl.1
  go_wp2_with fail
  refine (padded_any l1 4 _ (by omega) (by omega) (by omega)).mono ?_
  rintro e w' ⟨q, rfl, ⟨hq, hq4⟩, rfl⟩
  have hp := hl1b.pad q
  obtain ⟨l2, hl2e, hl2⟩ : ∃ l2, l2 = l1 ++ List.replicate q 48 ∧ l2.length = 4 := ⟨_, rfl, by simp; omega⟩
  rw [← hl2e] at hp ⊢
  clear hl2e
  have hb0 := hp.at_ 0 (by omega)
  have hb1 := hp.at_ 1 (by omega)
  have hb2 := hp.at_ 2 (by omega)
  have hb3 := hp.at_ 3 (by omega)
  have hT := Lib.hid (fun u : World => by
    have := l6Block_any (l2.getD 0 0) (l2.getD 1 0) (l2.getD 2 0) (l2.getD 3 0) u hb0 hb1 hb2 hb3
    rw [← four_eq hl2] at this
    exact this)
  obtain ⟨M, hM⟩ : ∃ M, M = hamBlock (l2.getD 0 0) (l2.getD 1 0) (l2.getD 2 0) (l2.getD 3 0) := ⟨_, rfl⟩
  have hMl : M.length = 7 := by rw [hM]; rfl
  have hMb : ∀ c ∈ M, bit c := fun c hc => by
    have hx : ∀ p q r, bit (x3 p q r) := fun p q r => by unfold x3; split; exact .inr rfl; exact .inl rfl
    rw [hM] at hc
    simp only [hamBlock, List.mem_cons, List.not_mem_nil, or_false] at hc
    rcases hc with h | h | h | h | h | h | h <;> rw [h] <;> first | exact hx _ _ _ | assumption
  rw [← hM] at hT
  clear hM hp hl hl1b hq4 hb0 hb1 hb2 hb3
  go_wp2_with fail
  refine (hT.out _).mono ?_
  rintro e u39 ⟨rfl, hk'⟩
  replace hr := hr.below hk'
  replace hk := Keeps.after hk hk'
  clear hk'
  go_wp2_with fail
  refine (harm_any _ _ _ M _ hr (by omega) (by omega) hMb).mono ?_
  rintro e u40 ⟨l3, rfl, hl3, hr', hk'⟩
  replace hk := hk.trans hk'
  clear hk' hr
  have hr := hr'
  clear hr'
  clear hMb
  have hl31 := hl3.1
  clear hl3
  have z3 := str_size l3
  go_wp2_with fail
  refine (pick_any _ _ _ _ _ hr (by omega) (by omega) (by omega)).mono ?_
  rintro e u41 ⟨i, rfl, hx, hr', hk'⟩
  replace hk := hk.trans hk'
  clear hk' hr
  have hr := hr'
  clear hr'
  clear hx
  by_cases h1 : i = 0
  · subst h1
    have ha : str l3 ++ (⟨#[48]⟩ : ByteArray) = str (l3 ++ [48]) := str_add l3 [48]
    go_wp2
    go_ret
    exact ⟨l3 ++ [48], rfl, by simp; omega, hb.trans hk.below⟩
  · have b1 : ((i : Int) == 0) = false := by simpa using h1
    go_wp2_with fail
    refine (wild_any _ _ _ l3 _ hr (by omega) (by omega)).mono ?_
    rintro e u42 ⟨l', rfl, hl4, hr', hk'⟩
    replace hk := hk.trans hk'
    clear hk' hr
    have hr := hr'
    clear hr'
    go_wp2
    go_ret
    exact ⟨l', rfl, hl4, hb.trans hk.below⟩
end Go.Proofs.Ytmfblphnedoejaa
