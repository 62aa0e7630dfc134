/- Weak contract of the function that draws what is heard. -/
import Derived.Test.YtiiiaeemblcniaaDrawZ
import Derived.Test.YtiiiaeemblcniaaDrawS
namespace Go.Proofs.Ytiiiaeemblcniaa
set_option maxRecDepth 20000
open Go.ChangeShapes Go.WideShapes Go.ChangeAt Go.RowKit
set_option linter.unusedVariables false
set_option linter.unusedSimpArgs false

/-- what a draw of a signal, a code, a delay and a number of bits gives -/
def HeardOK (B g lim : Nat) (w : World) (e : Ending) (w' : World) : Prop :=
  ∃ (v : Value) (z : List Int) (l : List UInt8) (x n : Int), e = .returned (.tuple #[v, .string (str l), .int .i64 x, .int .i64 n]) ∧ (Sl w' w.heap.size w'.heap.size v z ∧ z.length ≤ 10001) ∧ (l.length ≤ 2001 ∧ (-1 ≤ x ∧ x ≤ 9223372036854775807) ∧ -1 ≤ n ∧ n ≤ 9223372036854775807) ∧ Rd w' B g (lim + 5000) ∧ Keeps g w w'
set_option maxHeartbeats 8000000 in
theorem heard_any (B g lim : Nat) (w : World) (hr : Rd w B g lim) (hlim : lim ≤ 100) :
    Calls Try.prog 30 #[.pointer (some ⟨g, 0, none⟩)] w (HeardOK B g lim w) := by
  have hg := hr.lt
  go_enter Try.func30, Try.ntmps30
  go_wp2_with fail
  refine (list_any _ _ _ _ hr (by omega)).mono ?_
  rintro e a1 ⟨us, q, cap, rfl, hn4, hus, hown, hr1, hk⟩
  have hql := hown.lt
  have hne : q ≠ g := by omega
  have HRU := Lib.hid (RU.of_own hown)
  have hB : ∀ u ∈ us, UsrB u := fun u hu => (hus u hu).toB
  have HUO := Lib.hid hus
  have hzl : (sndL us).length ≤ 3000 := sndL_len us hB [] (by simp)
  have HSE := Lib.hid (sendS_any q cap us a1 HRU.out (by omega) hB)
  obtain ⟨z, hz⟩ : ∃ z, z = sndL us := ⟨_, rfl⟩
  rw [← hz] at hzl HSE
  clear hz hB hown hus hr
  go_wp2_with fail
  refine HSE.out.mono ?_
  rintro e a2 ⟨v, rfl, hsl, hb2⟩
  have HR2 := Lib.hid (HRU.out.below hb2)
  have hr2 := hr1.below hb2
  have HSL := Lib.hid (hsl.mono hk.size (Nat.le_refl _))
  replace hk := hk.after hb2 hg.2
  clear hb2 hr1 hsl HRU HSE
  go_wp2_with fail
  refine (code4_any _ _ _ _ hr2 (by omega)).mono ?_
  rintro e a3 ⟨l, rfl, hl, hr, hk'⟩
  replace HSL := Lib.hid ((HSL.out.keeps hk' hg.2).up hk'.size)
  have HRU := Lib.hid (HR2.out.keeps hk' hne)
  replace hk := hk.trans hk'
  clear hk' hr2 HR2
  obtain ⟨x, hx0⟩ : ∃ x : Int, x = 0 := ⟨0, rfl⟩
  obtain ⟨n, hn0⟩ : ∃ n : Int, n = 0 := ⟨0, rfl⟩
  clear hx0 hn0 x n
  go_wp2_with fail
  refine (pick_any _ _ _ _ _ hr (by omega) (by omega) (by omega)).mono ?_
  rintro e b11 ⟨x, rfl, hx, hr', hk'⟩
  have hxb : x < 5 := by have := hx.1 (by omega); omega
  replace HSL := Lib.hid ((HSL.out.keeps hk' hg.2).up hk'.size)
  replace HRU := Lib.hid (HRU.out.keeps hk' hne)
  replace hk := hk.trans hk'
  replace hr := hr'
  clear hk' hr' hx
  go_wp2_with fail
  refine (pick_any _ _ _ _ _ hr (by omega) (by omega) (by omega)).mono ?_
  rintro e b12 ⟨n, rfl, hn, hr', hk'⟩
  have hnb : n < 8 := by have := hn.1 (by omega); omega
  replace HSL := Lib.hid ((HSL.out.keeps hk' hg.2).up hk'.size)
  replace HRU := Lib.hid (HRU.out.keeps hk' hne)
  replace hk := hk.trans hk'
  replace hr := hr'
  clear hk' hr' hn
  have hxb2 : -1 ≤ (x : Int) ∧ (x : Int) ≤ 9223372036854775807 := by omega
  have hnb2 : -1 ≤ (n : Int) ∧ (n : Int) ≤ 9223372036854775807 := by omega
  by_cases hu0 : us.length = 0
  · have hu1 : ¬ 0 < us.length := by omega
    try clear HRU
    go_wp2_with fail
    refine (pick_any _ _ _ _ _ hr (by omega) (by omega) (by omega)).mono ?_
    rintro e b13 ⟨t3, rfl, ht3, hr', hk'⟩
    have ht3b : t3 < 3 := by have := ht3.1 (by omega); omega
    replace HSL := Lib.hid ((HSL.out.keeps hk' hg.2).up hk'.size)
    replace hk := hk.trans hk'
    replace hr := hr'
    clear hk' hr' ht3
    by_cases ht0 : t3 = 0
    · subst ht0
      go_wp2_with fail
      refine (l4Some_any _ _ _ 30 _ hr (by omega) (by omega)).mono ?_
      rintro e c14 ⟨v2, z2, rfl, ⟨hs2, hz2⟩, hr', hk'⟩
      replace HSL := Lib.hid ((HSL.out.keeps hk' hg.2).up hk'.size)
      have HAD := Lib.hid (addS_sl _ _ _ _ v v2 z z2 _ HSL.out (Nat.le_refl _) hs2 (Nat.le_refl _) (by omega) (by omega))
      replace hk := hk.trans hk'
      replace hr := hr'
      clear hk' hr' hs2
      go_wp2_with fail
      refine HAD.out.mono ?_
      rintro e d14 ⟨v3, rfl, hs3, hb3⟩
      have HSL := Lib.hid (hs3.mono hk.size (Nat.le_refl _))
      replace hk := hk.after hb3 hg.2
      replace hr := hr.below hb3
      have hzl2 : (addL5 z z2).length ≤ 10000 := by rw [addL5_len]; omega
      clear hs3 hb3 HAD
      go_wp2_with fail
      refine (pick_any _ _ _ _ _ hr (by omega) (by omega) (by omega)).mono ?_
      rintro e b15 ⟨m, rfl, hm, hr', hk'⟩
      have hmb : m < 24 := by have := hm.1 (by omega); omega
      replace HSL := Lib.hid ((HSL.out.keeps hk' hg.2).up hk'.size)
      replace hk := hk.trans hk'
      replace hr := hr'
      clear hk' hr' hm
      by_cases hm0 : m = 0
      · subst hm0
        go_wp2_with fail
        refine (num_lit _ _ _ [-1, 3000, 3001, 9223372036854775807] _ _ _ hr (by omega) rfl (by simp) (by simp)).mono ?_
        rintro e c16 ⟨yn, hyn, rfl, hr', hk'⟩
        have hyb : -1 ≤ yn ∧ yn ≤ 9223372036854775807 := by simp at hyn; omega
        replace HSL := Lib.hid ((HSL.out.keeps hk' hg.2).up hk'.size)
        replace hk := hk.trans hk'
        replace hr := hr'
        clear hk' hr' hyn
        have HBAD := Lib.hid (l4Bad_any _ _ _ _ _ _ _ hr (by omega) HSL.out hk.size hg.2 hzl2)
        go_wp2_with fail
        refine HBAD.out.mono ?_
        rintro e c17 ⟨v9, z9, rfl, ⟨hs9, hz9⟩, hr', hk'⟩
        replace hk := KeepsTo.keeps hk hk' (Nat.le_refl _)
        replace hr := hr'
        clear hk' hr' HBAD HSL
        go_wp2_with fail
        refine (l2Bad_any _ _ _ l _ hr (by omega) (by omega)).mono ?_
        rintro e d17 ⟨l9, rfl, hl9, hr', hk'⟩
        have HS9 := Lib.hid ((hs9.keeps hk' hg.2).up hk'.size)
        replace hk := hk.trans hk'
        replace hr := hr'
        clear hk' hr' hs9
        go_wp2
        exact bodyPost_ret (v := .tuple #[v9, .string (str l9), .int .i64 yn, .int .i64 (n : Int)]) (by simp [results, Try.results30, go_sem]) rfl ⟨v9, z9, l9, yn, (n : Int), rfl, ⟨HS9.out, hz9⟩, ⟨hl9, hyb, hnb2⟩, hr.mono (by omega), hk⟩
      have e0 : ((m : Int) == 0) = false := by simp; omega
      by_cases hm1 : m = 1
      · subst hm1
        go_wp2_with fail
        refine (num_lit _ _ _ [-1, 600, 601, 9223372036854775807] _ _ _ hr (by omega) rfl (by simp) (by simp)).mono ?_
        rintro e c18 ⟨yn, hyn, rfl, hr', hk'⟩
        have hyb : -1 ≤ yn ∧ yn ≤ 9223372036854775807 := by simp at hyn; omega
        replace HSL := Lib.hid ((HSL.out.keeps hk' hg.2).up hk'.size)
        replace hk := hk.trans hk'
        replace hr := hr'
        clear hk' hr' hyn
        have HBAD := Lib.hid (l4Bad_any _ _ _ _ _ _ _ hr (by omega) HSL.out hk.size hg.2 hzl2)
        go_wp2_with fail
        refine HBAD.out.mono ?_
        rintro e c19 ⟨v9, z9, rfl, ⟨hs9, hz9⟩, hr', hk'⟩
        replace hk := KeepsTo.keeps hk hk' (Nat.le_refl _)
        replace hr := hr'
        clear hk' hr' HBAD HSL
        go_wp2_with fail
        refine (l2Bad_any _ _ _ l _ hr (by omega) (by omega)).mono ?_
        rintro e d19 ⟨l9, rfl, hl9, hr', hk'⟩
        have HS9 := Lib.hid ((hs9.keeps hk' hg.2).up hk'.size)
        replace hk := hk.trans hk'
        replace hr := hr'
        clear hk' hr' hs9
        go_wp2
        exact bodyPost_ret (v := .tuple #[v9, .string (str l9), .int .i64 (x : Int), .int .i64 yn]) (by simp [results, Try.results30, go_sem]) rfl ⟨v9, z9, l9, (x : Int), yn, rfl, ⟨HS9.out, hz9⟩, ⟨hl9, hxb2, hyb⟩, hr.mono (by omega), hk⟩
      have e1 : ((m : Int) == 1) = false := by simp; omega
      have HBAD := Lib.hid (l4Bad_any _ _ _ _ _ _ _ hr (by omega) HSL.out hk.size hg.2 hzl2)
      go_wp2_with fail
      refine HBAD.out.mono ?_
      rintro e c20 ⟨v9, z9, rfl, ⟨hs9, hz9⟩, hr', hk'⟩
      replace hk := KeepsTo.keeps hk hk' (Nat.le_refl _)
      replace hr := hr'
      clear hk' hr' HBAD HSL
      go_wp2_with fail
      refine (l2Bad_any _ _ _ l _ hr (by omega) (by omega)).mono ?_
      rintro e d20 ⟨l9, rfl, hl9, hr', hk'⟩
      have HS9 := Lib.hid ((hs9.keeps hk' hg.2).up hk'.size)
      replace hk := hk.trans hk'
      replace hr := hr'
      clear hk' hr' hs9
      go_wp2
      exact bodyPost_ret (v := .tuple #[v9, .string (str l9), .int .i64 (x : Int), .int .i64 (n : Int)]) (by simp [results, Try.results30, go_sem]) rfl ⟨v9, z9, l9, (x : Int), (n : Int), rfl, ⟨HS9.out, hz9⟩, ⟨hl9, hxb2, hnb2⟩, hr.mono (by omega), hk⟩
    have c0 : ((t3 : Int) == 0) = false := by simpa using ht0
    have hzl2 : z.length ≤ 10000 := by omega
    go_wp2_with fail
    refine (pick_any _ _ _ _ _ hr (by omega) (by omega) (by omega)).mono ?_
    rintro e b21 ⟨m, rfl, hm, hr', hk'⟩
    have hmb : m < 24 := by have := hm.1 (by omega); omega
    replace HSL := Lib.hid ((HSL.out.keeps hk' hg.2).up hk'.size)
    replace hk := hk.trans hk'
    replace hr := hr'
    clear hk' hr' hm
    by_cases hm0 : m = 0
    · subst hm0
      go_wp2_with fail
      refine (num_lit _ _ _ [-1, 3000, 3001, 9223372036854775807] _ _ _ hr (by omega) rfl (by simp) (by simp)).mono ?_
      rintro e c22 ⟨yn, hyn, rfl, hr', hk'⟩
      have hyb : -1 ≤ yn ∧ yn ≤ 9223372036854775807 := by simp at hyn; omega
      replace HSL := Lib.hid ((HSL.out.keeps hk' hg.2).up hk'.size)
      replace hk := hk.trans hk'
      replace hr := hr'
      clear hk' hr' hyn
      have HBAD := Lib.hid (l4Bad_any _ _ _ _ _ _ _ hr (by omega) HSL.out hk.size hg.2 hzl2)
      go_wp2_with fail
      refine HBAD.out.mono ?_
      rintro e c23 ⟨v9, z9, rfl, ⟨hs9, hz9⟩, hr', hk'⟩
      replace hk := KeepsTo.keeps hk hk' (Nat.le_refl _)
      replace hr := hr'
      clear hk' hr' HBAD HSL
      go_wp2_with fail
      refine (l2Bad_any _ _ _ l _ hr (by omega) (by omega)).mono ?_
      rintro e d23 ⟨l9, rfl, hl9, hr', hk'⟩
      have HS9 := Lib.hid ((hs9.keeps hk' hg.2).up hk'.size)
      replace hk := hk.trans hk'
      replace hr := hr'
      clear hk' hr' hs9
      go_wp2
      exact bodyPost_ret (v := .tuple #[v9, .string (str l9), .int .i64 yn, .int .i64 (n : Int)]) (by simp [results, Try.results30, go_sem]) rfl ⟨v9, z9, l9, yn, (n : Int), rfl, ⟨HS9.out, hz9⟩, ⟨hl9, hyb, hnb2⟩, hr.mono (by omega), hk⟩
    have e0 : ((m : Int) == 0) = false := by simp; omega
    by_cases hm1 : m = 1
    · subst hm1
      go_wp2_with fail
      refine (num_lit _ _ _ [-1, 600, 601, 9223372036854775807] _ _ _ hr (by omega) rfl (by simp) (by simp)).mono ?_
      rintro e c24 ⟨yn, hyn, rfl, hr', hk'⟩
      have hyb : -1 ≤ yn ∧ yn ≤ 9223372036854775807 := by simp at hyn; omega
      replace HSL := Lib.hid ((HSL.out.keeps hk' hg.2).up hk'.size)
      replace hk := hk.trans hk'
      replace hr := hr'
      clear hk' hr' hyn
      have HBAD := Lib.hid (l4Bad_any _ _ _ _ _ _ _ hr (by omega) HSL.out hk.size hg.2 hzl2)
      go_wp2_with fail
      refine HBAD.out.mono ?_
      rintro e c25 ⟨v9, z9, rfl, ⟨hs9, hz9⟩, hr', hk'⟩
      replace hk := KeepsTo.keeps hk hk' (Nat.le_refl _)
      replace hr := hr'
      clear hk' hr' HBAD HSL
      go_wp2_with fail
      refine (l2Bad_any _ _ _ l _ hr (by omega) (by omega)).mono ?_
      rintro e d25 ⟨l9, rfl, hl9, hr', hk'⟩
      have HS9 := Lib.hid ((hs9.keeps hk' hg.2).up hk'.size)
      replace hk := hk.trans hk'
      replace hr := hr'
      clear hk' hr' hs9
      go_wp2
      exact bodyPost_ret (v := .tuple #[v9, .string (str l9), .int .i64 (x : Int), .int .i64 yn]) (by simp [results, Try.results30, go_sem]) rfl ⟨v9, z9, l9, (x : Int), yn, rfl, ⟨HS9.out, hz9⟩, ⟨hl9, hxb2, hyb⟩, hr.mono (by omega), hk⟩
    have e1 : ((m : Int) == 1) = false := by simp; omega
    have HBAD := Lib.hid (l4Bad_any _ _ _ _ _ _ _ hr (by omega) HSL.out hk.size hg.2 hzl2)
    go_wp2_with fail
    refine HBAD.out.mono ?_
    rintro e c26 ⟨v9, z9, rfl, ⟨hs9, hz9⟩, hr', hk'⟩
    replace hk := KeepsTo.keeps hk hk' (Nat.le_refl _)
    replace hr := hr'
    clear hk' hr' HBAD HSL
    go_wp2_with fail
    refine (l2Bad_any _ _ _ l _ hr (by omega) (by omega)).mono ?_
    rintro e d26 ⟨l9, rfl, hl9, hr', hk'⟩
    have HS9 := Lib.hid ((hs9.keeps hk' hg.2).up hk'.size)
    replace hk := hk.trans hk'
    replace hr := hr'
    clear hk' hr' hs9
    go_wp2
    exact bodyPost_ret (v := .tuple #[v9, .string (str l9), .int .i64 (x : Int), .int .i64 (n : Int)]) (by simp [results, Try.results30, go_sem]) rfl ⟨v9, z9, l9, (x : Int), (n : Int), rfl, ⟨HS9.out, hz9⟩, ⟨hl9, hxb2, hnb2⟩, hr.mono (by omega), hk⟩
  have hu1 : 0 < us.length := by omega
  go_wp2_with fail
  refine (pick_any _ _ _ _ _ hr (by omega) (by omega) (by omega)).mono ?_
  rintro e b27 ⟨p, rfl, hp, hr', hk'⟩
  have hpb : p < 4 := by have := hp.1 (by omega); omega
  replace HSL := Lib.hid ((HSL.out.keeps hk' hg.2).up hk'.size)
  replace HRU := Lib.hid (HRU.out.keeps hk' hne)
  replace hk := hk.trans hk'
  replace hr := hr'
  clear hk' hr' hp
  by_cases hp0 : p = 0
  · subst hp0
    try clear HRU
    go_wp2_with fail
    refine (pick_any _ _ _ _ _ hr (by omega) (by omega) (by omega)).mono ?_
    rintro e b28 ⟨t3, rfl, ht3, hr', hk'⟩
    have ht3b : t3 < 3 := by have := ht3.1 (by omega); omega
    replace HSL := Lib.hid ((HSL.out.keeps hk' hg.2).up hk'.size)
    replace hk := hk.trans hk'
    replace hr := hr'
    clear hk' hr' ht3
    by_cases ht0 : t3 = 0
    · subst ht0
      go_wp2_with fail
      refine (l4Some_any _ _ _ 30 _ hr (by omega) (by omega)).mono ?_
      rintro e c29 ⟨v2, z2, rfl, ⟨hs2, hz2⟩, hr', hk'⟩
      replace HSL := Lib.hid ((HSL.out.keeps hk' hg.2).up hk'.size)
      have HAD := Lib.hid (addS_sl _ _ _ _ v v2 z z2 _ HSL.out (Nat.le_refl _) hs2 (Nat.le_refl _) (by omega) (by omega))
      replace hk := hk.trans hk'
      replace hr := hr'
      clear hk' hr' hs2
      go_wp2_with fail
      refine HAD.out.mono ?_
      rintro e d29 ⟨v3, rfl, hs3, hb3⟩
      have HSL := Lib.hid (hs3.mono hk.size (Nat.le_refl _))
      replace hk := hk.after hb3 hg.2
      replace hr := hr.below hb3
      have hzl2 : (addL5 z z2).length ≤ 10000 := by rw [addL5_len]; omega
      clear hs3 hb3 HAD
      go_wp2_with fail
      refine (pick_any _ _ _ _ _ hr (by omega) (by omega) (by omega)).mono ?_
      rintro e b30 ⟨m, rfl, hm, hr', hk'⟩
      have hmb : m < 24 := by have := hm.1 (by omega); omega
      replace HSL := Lib.hid ((HSL.out.keeps hk' hg.2).up hk'.size)
      replace hk := hk.trans hk'
      replace hr := hr'
      clear hk' hr' hm
      by_cases hm0 : m = 0
      · subst hm0
        go_wp2_with fail
        refine (num_lit _ _ _ [-1, 3000, 3001, 9223372036854775807] _ _ _ hr (by omega) rfl (by simp) (by simp)).mono ?_
        rintro e c31 ⟨yn, hyn, rfl, hr', hk'⟩
        have hyb : -1 ≤ yn ∧ yn ≤ 9223372036854775807 := by simp at hyn; omega
        replace HSL := Lib.hid ((HSL.out.keeps hk' hg.2).up hk'.size)
        replace hk := hk.trans hk'
        replace hr := hr'
        clear hk' hr' hyn
        have HBAD := Lib.hid (l4Bad_any _ _ _ _ _ _ _ hr (by omega) HSL.out hk.size hg.2 hzl2)
        go_wp2_with fail
        refine HBAD.out.mono ?_
        rintro e c32 ⟨v9, z9, rfl, ⟨hs9, hz9⟩, hr', hk'⟩
        replace hk := KeepsTo.keeps hk hk' (Nat.le_refl _)
        replace hr := hr'
        clear hk' hr' HBAD HSL
        go_wp2_with fail
        refine (l2Bad_any _ _ _ l _ hr (by omega) (by omega)).mono ?_
        rintro e d32 ⟨l9, rfl, hl9, hr', hk'⟩
        have HS9 := Lib.hid ((hs9.keeps hk' hg.2).up hk'.size)
        replace hk := hk.trans hk'
        replace hr := hr'
        clear hk' hr' hs9
        go_wp2
        exact bodyPost_ret (v := .tuple #[v9, .string (str l9), .int .i64 yn, .int .i64 (n : Int)]) (by simp [results, Try.results30, go_sem]) rfl ⟨v9, z9, l9, yn, (n : Int), rfl, ⟨HS9.out, hz9⟩, ⟨hl9, hyb, hnb2⟩, hr.mono (by omega), hk⟩
      have e0 : ((m : Int) == 0) = false := by simp; omega
      by_cases hm1 : m = 1
      · subst hm1
        go_wp2_with fail
        refine (num_lit _ _ _ [-1, 600, 601, 9223372036854775807] _ _ _ hr (by omega) rfl (by simp) (by simp)).mono ?_
        rintro e c33 ⟨yn, hyn, rfl, hr', hk'⟩
        have hyb : -1 ≤ yn ∧ yn ≤ 9223372036854775807 := by simp at hyn; omega
        replace HSL := Lib.hid ((HSL.out.keeps hk' hg.2).up hk'.size)
        replace hk := hk.trans hk'
        replace hr := hr'
        clear hk' hr' hyn
        have HBAD := Lib.hid (l4Bad_any _ _ _ _ _ _ _ hr (by omega) HSL.out hk.size hg.2 hzl2)
        go_wp2_with fail
        refine HBAD.out.mono ?_
        rintro e c34 ⟨v9, z9, rfl, ⟨hs9, hz9⟩, hr', hk'⟩
        replace hk := KeepsTo.keeps hk hk' (Nat.le_refl _)
        replace hr := hr'
        clear hk' hr' HBAD HSL
        go_wp2_with fail
        refine (l2Bad_any _ _ _ l _ hr (by omega) (by omega)).mono ?_
        rintro e d34 ⟨l9, rfl, hl9, hr', hk'⟩
        have HS9 := Lib.hid ((hs9.keeps hk' hg.2).up hk'.size)
        replace hk := hk.trans hk'
        replace hr := hr'
        clear hk' hr' hs9
        go_wp2
        exact bodyPost_ret (v := .tuple #[v9, .string (str l9), .int .i64 (x : Int), .int .i64 yn]) (by simp [results, Try.results30, go_sem]) rfl ⟨v9, z9, l9, (x : Int), yn, rfl, ⟨HS9.out, hz9⟩, ⟨hl9, hxb2, hyb⟩, hr.mono (by omega), hk⟩
      have e1 : ((m : Int) == 1) = false := by simp; omega
      have HBAD := Lib.hid (l4Bad_any _ _ _ _ _ _ _ hr (by omega) HSL.out hk.size hg.2 hzl2)
      go_wp2_with fail
      refine HBAD.out.mono ?_
      rintro e c35 ⟨v9, z9, rfl, ⟨hs9, hz9⟩, hr', hk'⟩
      replace hk := KeepsTo.keeps hk hk' (Nat.le_refl _)
      replace hr := hr'
      clear hk' hr' HBAD HSL
      go_wp2_with fail
      refine (l2Bad_any _ _ _ l _ hr (by omega) (by omega)).mono ?_
      rintro e d35 ⟨l9, rfl, hl9, hr', hk'⟩
      have HS9 := Lib.hid ((hs9.keeps hk' hg.2).up hk'.size)
      replace hk := hk.trans hk'
      replace hr := hr'
      clear hk' hr' hs9
      go_wp2
      exact bodyPost_ret (v := .tuple #[v9, .string (str l9), .int .i64 (x : Int), .int .i64 (n : Int)]) (by simp [results, Try.results30, go_sem]) rfl ⟨v9, z9, l9, (x : Int), (n : Int), rfl, ⟨HS9.out, hz9⟩, ⟨hl9, hxb2, hnb2⟩, hr.mono (by omega), hk⟩
    have c0 : ((t3 : Int) == 0) = false := by simpa using ht0
    have hzl2 : z.length ≤ 10000 := by omega
    go_wp2_with fail
    refine (pick_any _ _ _ _ _ hr (by omega) (by omega) (by omega)).mono ?_
    rintro e b36 ⟨m, rfl, hm, hr', hk'⟩
    have hmb : m < 24 := by have := hm.1 (by omega); omega
    replace HSL := Lib.hid ((HSL.out.keeps hk' hg.2).up hk'.size)
    replace hk := hk.trans hk'
    replace hr := hr'
    clear hk' hr' hm
    by_cases hm0 : m = 0
    · subst hm0
      go_wp2_with fail
      refine (num_lit _ _ _ [-1, 3000, 3001, 9223372036854775807] _ _ _ hr (by omega) rfl (by simp) (by simp)).mono ?_
      rintro e c37 ⟨yn, hyn, rfl, hr', hk'⟩
      have hyb : -1 ≤ yn ∧ yn ≤ 9223372036854775807 := by simp at hyn; omega
      replace HSL := Lib.hid ((HSL.out.keeps hk' hg.2).up hk'.size)
      replace hk := hk.trans hk'
      replace hr := hr'
      clear hk' hr' hyn
      have HBAD := Lib.hid (l4Bad_any _ _ _ _ _ _ _ hr (by omega) HSL.out hk.size hg.2 hzl2)
      go_wp2_with fail
      refine HBAD.out.mono ?_
      rintro e c38 ⟨v9, z9, rfl, ⟨hs9, hz9⟩, hr', hk'⟩
      replace hk := KeepsTo.keeps hk hk' (Nat.le_refl _)
      replace hr := hr'
      clear hk' hr' HBAD HSL
      go_wp2_with fail
      refine (l2Bad_any _ _ _ l _ hr (by omega) (by omega)).mono ?_
      rintro e d38 ⟨l9, rfl, hl9, hr', hk'⟩
      have HS9 := Lib.hid ((hs9.keeps hk' hg.2).up hk'.size)
      replace hk := hk.trans hk'
      replace hr := hr'
      clear hk' hr' hs9
      go_wp2
      exact bodyPost_ret (v := .tuple #[v9, .string (str l9), .int .i64 yn, .int .i64 (n : Int)]) (by simp [results, Try.results30, go_sem]) rfl ⟨v9, z9, l9, yn, (n : Int), rfl, ⟨HS9.out, hz9⟩, ⟨hl9, hyb, hnb2⟩, hr.mono (by omega), hk⟩
    have e0 : ((m : Int) == 0) = false := by simp; omega
    by_cases hm1 : m = 1
    · subst hm1
      go_wp2_with fail
      refine (num_lit _ _ _ [-1, 600, 601, 9223372036854775807] _ _ _ hr (by omega) rfl (by simp) (by simp)).mono ?_
      rintro e c39 ⟨yn, hyn, rfl, hr', hk'⟩
      have hyb : -1 ≤ yn ∧ yn ≤ 9223372036854775807 := by simp at hyn; omega
      replace HSL := Lib.hid ((HSL.out.keeps hk' hg.2).up hk'.size)
      replace hk := hk.trans hk'
      replace hr := hr'
      clear hk' hr' hyn
      have HBAD := Lib.hid (l4Bad_any _ _ _ _ _ _ _ hr (by omega) HSL.out hk.size hg.2 hzl2)
      go_wp2_with fail
      refine HBAD.out.mono ?_
      rintro e c40 ⟨v9, z9, rfl, ⟨hs9, hz9⟩, hr', hk'⟩
      replace hk := KeepsTo.keeps hk hk' (Nat.le_refl _)
      replace hr := hr'
      clear hk' hr' HBAD HSL
      go_wp2_with fail
      refine (l2Bad_any _ _ _ l _ hr (by omega) (by omega)).mono ?_
      rintro e d40 ⟨l9, rfl, hl9, hr', hk'⟩
      have HS9 := Lib.hid ((hs9.keeps hk' hg.2).up hk'.size)
      replace hk := hk.trans hk'
      replace hr := hr'
      clear hk' hr' hs9
      go_wp2
      exact bodyPost_ret (v := .tuple #[v9, .string (str l9), .int .i64 (x : Int), .int .i64 yn]) (by simp [results, Try.results30, go_sem]) rfl ⟨v9, z9, l9, (x : Int), yn, rfl, ⟨HS9.out, hz9⟩, ⟨hl9, hxb2, hyb⟩, hr.mono (by omega), hk⟩
    have e1 : ((m : Int) == 1) = false := by simp; omega
    have HBAD := Lib.hid (l4Bad_any _ _ _ _ _ _ _ hr (by omega) HSL.out hk.size hg.2 hzl2)
    go_wp2_with fail
    refine HBAD.out.mono ?_
    rintro e c41 ⟨v9, z9, rfl, ⟨hs9, hz9⟩, hr', hk'⟩
    replace hk := KeepsTo.keeps hk hk' (Nat.le_refl _)
    replace hr := hr'
    clear hk' hr' HBAD HSL
    go_wp2_with fail
    refine (l2Bad_any _ _ _ l _ hr (by omega) (by omega)).mono ?_
    rintro e d41 ⟨l9, rfl, hl9, hr', hk'⟩
    have HS9 := Lib.hid ((hs9.keeps hk' hg.2).up hk'.size)
    replace hk := hk.trans hk'
    replace hr := hr'
    clear hk' hr' hs9
    go_wp2
    exact bodyPost_ret (v := .tuple #[v9, .string (str l9), .int .i64 (x : Int), .int .i64 (n : Int)]) (by simp [results, Try.results30, go_sem]) rfl ⟨v9, z9, l9, (x : Int), (n : Int), rfl, ⟨HS9.out, hz9⟩, ⟨hl9, hxb2, hnb2⟩, hr.mono (by omega), hk⟩
  have hp1 : 0 < p := by omega
  go_wp2_with fail
  refine (pick_any _ _ _ _ _ hr (by omega) (by omega) (by omega)).mono ?_
  rintro e b42 ⟨i, rfl, hi, hr', hk'⟩
  have hib : i < us.length := by have := hi.1 (by omega); omega
  replace HSL := Lib.hid ((HSL.out.keeps hk' hg.2).up hk'.size)
  replace HRU := Lib.hid (HRU.out.keeps hk' hne)
  replace hk := hk.trans hk'
  replace hr := hr'
  clear hk' hr' hi
  obtain ⟨c, d, a, y, hu, h0, h1, h2, h3⟩ := HRU.out.2 i hib
  obtain ⟨⟨hc1, hc2, hc3⟩, hd, ha, hy6⟩ := HUO.out _ (List.mem_of_getElem? hu)
  simp only [] at hc1 hc2 hd hy6
  have hd8 := hd.1
  have zd := str_size d
  clear hu hc3 hd ha
  have hbV : Below b42.heap.size b42 (b42.alloc (.cells #[.string (str c), .string (str d), .int .i64 (a : Int), .int .i64 (y : Int)] 45)) := (Below.refl _ _).alloc (Nat.le_refl _) _
  replace hr := hr.below hbV
  replace hk := hk.after hbV hg.2
  replace HSL := Lib.hid ((HSL.out.below hbV (Nat.le_refl _)).up hbV.size)
  have hyb2 : -1 ≤ (y : Int) ∧ (y : Int) ≤ 9223372036854775807 := by omega
  have hdb2 : -1 ≤ (d.length : Int) ∧ (d.length : Int) ≤ 9223372036854775807 := by omega
  clear hbV HRU
  try clear HRU
  go_wp2_with fail
  refine (pick_any _ _ _ _ _ hr (by omega) (by omega) (by omega)).mono ?_
  rintro e b43 ⟨t3, rfl, ht3, hr', hk'⟩
  have ht3b : t3 < 3 := by have := ht3.1 (by omega); omega
  replace HSL := Lib.hid ((HSL.out.keeps hk' hg.2).up hk'.size)
  replace hk := hk.trans hk'
  replace hr := hr'
  clear hk' hr' ht3
  by_cases ht0 : t3 = 0
  · subst ht0
    go_wp2_with fail
    refine (l4Some_any _ _ _ 30 _ hr (by omega) (by omega)).mono ?_
    rintro e c44 ⟨v2, z2, rfl, ⟨hs2, hz2⟩, hr', hk'⟩
    replace HSL := Lib.hid ((HSL.out.keeps hk' hg.2).up hk'.size)
    have HAD := Lib.hid (addS_sl _ _ _ _ v v2 z z2 _ HSL.out (Nat.le_refl _) hs2 (Nat.le_refl _) (by omega) (by omega))
    replace hk := hk.trans hk'
    replace hr := hr'
    clear hk' hr' hs2
    go_wp2_with fail
    refine HAD.out.mono ?_
    rintro e d44 ⟨v3, rfl, hs3, hb3⟩
    have HSL := Lib.hid (hs3.mono hk.size (Nat.le_refl _))
    replace hk := hk.after hb3 hg.2
    replace hr := hr.below hb3
    have hzl2 : (addL5 z z2).length ≤ 10000 := by rw [addL5_len]; omega
    clear hs3 hb3 HAD
    go_wp2_with fail
    refine (pick_any _ _ _ _ _ hr (by omega) (by omega) (by omega)).mono ?_
    rintro e b45 ⟨m, rfl, hm, hr', hk'⟩
    have hmb : m < 24 := by have := hm.1 (by omega); omega
    replace HSL := Lib.hid ((HSL.out.keeps hk' hg.2).up hk'.size)
    replace hk := hk.trans hk'
    replace hr := hr'
    clear hk' hr' hm
    by_cases hm0 : m = 0
    · subst hm0
      go_wp2_with fail
      refine (num_lit _ _ _ [-1, 3000, 3001, 9223372036854775807] _ _ _ hr (by omega) rfl (by simp) (by simp)).mono ?_
      rintro e c46 ⟨yn, hyn, rfl, hr', hk'⟩
      have hyb : -1 ≤ yn ∧ yn ≤ 9223372036854775807 := by simp at hyn; omega
      replace HSL := Lib.hid ((HSL.out.keeps hk' hg.2).up hk'.size)
      replace hk := hk.trans hk'
      replace hr := hr'
      clear hk' hr' hyn
      have HBAD := Lib.hid (l4Bad_any _ _ _ _ _ _ _ hr (by omega) HSL.out hk.size hg.2 hzl2)
      go_wp2_with fail
      refine HBAD.out.mono ?_
      rintro e c47 ⟨v9, z9, rfl, ⟨hs9, hz9⟩, hr', hk'⟩
      replace hk := KeepsTo.keeps hk hk' (Nat.le_refl _)
      replace hr := hr'
      clear hk' hr' HBAD HSL
      go_wp2_with fail
      refine (l2Bad_any _ _ _ c _ hr (by omega) (by omega)).mono ?_
      rintro e d47 ⟨l9, rfl, hl9, hr', hk'⟩
      have HS9 := Lib.hid ((hs9.keeps hk' hg.2).up hk'.size)
      replace hk := hk.trans hk'
      replace hr := hr'
      clear hk' hr' hs9
      go_wp2
      exact bodyPost_ret (v := .tuple #[v9, .string (str l9), .int .i64 yn, .int .i64 (d.length : Int)]) (by simp [results, Try.results30, go_sem]) rfl ⟨v9, z9, l9, yn, (d.length : Int), rfl, ⟨HS9.out, hz9⟩, ⟨hl9, hyb, hdb2⟩, hr.mono (by omega), hk⟩
    have e0 : ((m : Int) == 0) = false := by simp; omega
    by_cases hm1 : m = 1
    · subst hm1
      go_wp2_with fail
      refine (num_lit _ _ _ [-1, 600, 601, 9223372036854775807] _ _ _ hr (by omega) rfl (by simp) (by simp)).mono ?_
      rintro e c48 ⟨yn, hyn, rfl, hr', hk'⟩
      have hyb : -1 ≤ yn ∧ yn ≤ 9223372036854775807 := by simp at hyn; omega
      replace HSL := Lib.hid ((HSL.out.keeps hk' hg.2).up hk'.size)
      replace hk := hk.trans hk'
      replace hr := hr'
      clear hk' hr' hyn
      have HBAD := Lib.hid (l4Bad_any _ _ _ _ _ _ _ hr (by omega) HSL.out hk.size hg.2 hzl2)
      go_wp2_with fail
      refine HBAD.out.mono ?_
      rintro e c49 ⟨v9, z9, rfl, ⟨hs9, hz9⟩, hr', hk'⟩
      replace hk := KeepsTo.keeps hk hk' (Nat.le_refl _)
      replace hr := hr'
      clear hk' hr' HBAD HSL
      go_wp2_with fail
      refine (l2Bad_any _ _ _ c _ hr (by omega) (by omega)).mono ?_
      rintro e d49 ⟨l9, rfl, hl9, hr', hk'⟩
      have HS9 := Lib.hid ((hs9.keeps hk' hg.2).up hk'.size)
      replace hk := hk.trans hk'
      replace hr := hr'
      clear hk' hr' hs9
      go_wp2
      exact bodyPost_ret (v := .tuple #[v9, .string (str l9), .int .i64 (y : Int), .int .i64 yn]) (by simp [results, Try.results30, go_sem]) rfl ⟨v9, z9, l9, (y : Int), yn, rfl, ⟨HS9.out, hz9⟩, ⟨hl9, hyb2, hyb⟩, hr.mono (by omega), hk⟩
    have e1 : ((m : Int) == 1) = false := by simp; omega
    have HBAD := Lib.hid (l4Bad_any _ _ _ _ _ _ _ hr (by omega) HSL.out hk.size hg.2 hzl2)
    go_wp2_with fail
    refine HBAD.out.mono ?_
    rintro e c50 ⟨v9, z9, rfl, ⟨hs9, hz9⟩, hr', hk'⟩
    replace hk := KeepsTo.keeps hk hk' (Nat.le_refl _)
    replace hr := hr'
    clear hk' hr' HBAD HSL
    go_wp2_with fail
    refine (l2Bad_any _ _ _ c _ hr (by omega) (by omega)).mono ?_
    rintro e d50 ⟨l9, rfl, hl9, hr', hk'⟩
    have HS9 := Lib.hid ((hs9.keeps hk' hg.2).up hk'.size)
    replace hk := hk.trans hk'
    replace hr := hr'
    clear hk' hr' hs9
    go_wp2
    exact bodyPost_ret (v := .tuple #[v9, .string (str l9), .int .i64 (y : Int), .int .i64 (d.length : Int)]) (by simp [results, Try.results30, go_sem]) rfl ⟨v9, z9, l9, (y : Int), (d.length : Int), rfl, ⟨HS9.out, hz9⟩, ⟨hl9, hyb2, hdb2⟩, hr.mono (by omega), hk⟩
  have c0 : ((t3 : Int) == 0) = false := by simpa using ht0
  have hzl2 : z.length ≤ 10000 := by omega
  go_wp2_with fail
  refine (pick_any _ _ _ _ _ hr (by omega) (by omega) (by omega)).mono ?_
  rintro e b51 ⟨m, rfl, hm, hr', hk'⟩
  have hmb : m < 24 := by have := hm.1 (by omega); omega
  replace HSL := Lib.hid ((HSL.out.keeps hk' hg.2).up hk'.size)
  replace hk := hk.trans hk'
  replace hr := hr'
  clear hk' hr' hm
  by_cases hm0 : m = 0
  · subst hm0
    go_wp2_with fail
    refine (num_lit _ _ _ [-1, 3000, 3001, 9223372036854775807] _ _ _ hr (by omega) rfl (by simp) (by simp)).mono ?_
    rintro e c52 ⟨yn, hyn, rfl, hr', hk'⟩
    have hyb : -1 ≤ yn ∧ yn ≤ 9223372036854775807 := by simp at hyn; omega
    replace HSL := Lib.hid ((HSL.out.keeps hk' hg.2).up hk'.size)
    replace hk := hk.trans hk'
    replace hr := hr'
    clear hk' hr' hyn
    have HBAD := Lib.hid (l4Bad_any _ _ _ _ _ _ _ hr (by omega) HSL.out hk.size hg.2 hzl2)
    go_wp2_with fail
    refine HBAD.out.mono ?_
    rintro e c53 ⟨v9, z9, rfl, ⟨hs9, hz9⟩, hr', hk'⟩
    replace hk := KeepsTo.keeps hk hk' (Nat.le_refl _)
    replace hr := hr'
    clear hk' hr' HBAD HSL
    go_wp2_with fail
    refine (l2Bad_any _ _ _ c _ hr (by omega) (by omega)).mono ?_
    rintro e d53 ⟨l9, rfl, hl9, hr', hk'⟩
    have HS9 := Lib.hid ((hs9.keeps hk' hg.2).up hk'.size)
    replace hk := hk.trans hk'
    replace hr := hr'
    clear hk' hr' hs9
    go_wp2
    exact bodyPost_ret (v := .tuple #[v9, .string (str l9), .int .i64 yn, .int .i64 (d.length : Int)]) (by simp [results, Try.results30, go_sem]) rfl ⟨v9, z9, l9, yn, (d.length : Int), rfl, ⟨HS9.out, hz9⟩, ⟨hl9, hyb, hdb2⟩, hr.mono (by omega), hk⟩
  have e0 : ((m : Int) == 0) = false := by simp; omega
  by_cases hm1 : m = 1
  · subst hm1
    go_wp2_with fail
    refine (num_lit _ _ _ [-1, 600, 601, 9223372036854775807] _ _ _ hr (by omega) rfl (by simp) (by simp)).mono ?_
    rintro e c54 ⟨yn, hyn, rfl, hr', hk'⟩
    have hyb : -1 ≤ yn ∧ yn ≤ 9223372036854775807 := by simp at hyn; omega
    replace HSL := Lib.hid ((HSL.out.keeps hk' hg.2).up hk'.size)
    replace hk := hk.trans hk'
    replace hr := hr'
    clear hk' hr' hyn
    have HBAD := Lib.hid (l4Bad_any _ _ _ _ _ _ _ hr (by omega) HSL.out hk.size hg.2 hzl2)
    go_wp2_with fail
    refine HBAD.out.mono ?_
    rintro e c55 ⟨v9, z9, rfl, ⟨hs9, hz9⟩, hr', hk'⟩
    replace hk := KeepsTo.keeps hk hk' (Nat.le_refl _)
    replace hr := hr'
    clear hk' hr' HBAD HSL
    go_wp2_with fail
    refine (l2Bad_any _ _ _ c _ hr (by omega) (by omega)).mono ?_
    rintro e d55 ⟨l9, rfl, hl9, hr', hk'⟩
    have HS9 := Lib.hid ((hs9.keeps hk' hg.2).up hk'.size)
    replace hk := hk.trans hk'
    replace hr := hr'
    clear hk' hr' hs9
    go_wp2
    exact bodyPost_ret (v := .tuple #[v9, .string (str l9), .int .i64 (y : Int), .int .i64 yn]) (by simp [results, Try.results30, go_sem]) rfl ⟨v9, z9, l9, (y : Int), yn, rfl, ⟨HS9.out, hz9⟩, ⟨hl9, hyb2, hyb⟩, hr.mono (by omega), hk⟩
  have e1 : ((m : Int) == 1) = false := by simp; omega
  have HBAD := Lib.hid (l4Bad_any _ _ _ _ _ _ _ hr (by omega) HSL.out hk.size hg.2 hzl2)
  go_wp2_with fail
  refine HBAD.out.mono ?_
  rintro e c56 ⟨v9, z9, rfl, ⟨hs9, hz9⟩, hr', hk'⟩
  replace hk := KeepsTo.keeps hk hk' (Nat.le_refl _)
  replace hr := hr'
  clear hk' hr' HBAD HSL
  go_wp2_with fail
  refine (l2Bad_any _ _ _ c _ hr (by omega) (by omega)).mono ?_
  rintro e d56 ⟨l9, rfl, hl9, hr', hk'⟩
  have HS9 := Lib.hid ((hs9.keeps hk' hg.2).up hk'.size)
  replace hk := hk.trans hk'
  replace hr := hr'
  clear hk' hr' hs9
  go_wp2
  exact bodyPost_ret (v := .tuple #[v9, .string (str l9), .int .i64 (y : Int), .int .i64 (d.length : Int)]) (by simp [results, Try.results30, go_sem]) rfl ⟨v9, z9, l9, (y : Int), (d.length : Int), rfl, ⟨HS9.out, hz9⟩, ⟨hl9, hyb2, hdb2⟩, hr.mono (by omega), hk⟩
end Go.Proofs.Ytiiiaeemblcniaa
