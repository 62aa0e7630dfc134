/- Weak contracts of the functions that draw bits with frames. -/
import Derived.Test.YtmfblphnedoejaaDraw4
namespace Go.Proofs.Ytmfblphnedoejaa
set_option maxRecDepth 20000
open Go.ChangeShapes Go.WideShapes Go.ChangeAt Go.RowKit
set_option linter.unusedVariables false
set_option linter.unusedSimpArgs false

theorem BitsN.app {M N : Nat} {a b : List UInt8} (ha : BitsN M a) (hb : BitsN N b) : BitsN (M + N) (a ++ b) := ⟨by have := ha.1; have := hb.1; simp; omega, fun c hc => by
  rcases List.mem_append.1 hc with h | h
  · exact ha.2 c h
  · exact hb.2 c h⟩
theorem frame_bitsN {p : List UInt8} (h : BitsN 20 p) : BitsN 43 (frameL p) := ⟨by rw [frame_len]; have := h.1; omega, fun c hc => by
  have hb : ∀ c, bit1 c = true → bit c := fun c h => by simpa [bit1, bit] using h
  have hi := inner_bits (pay_mk (h.ok (by omega)) (by have := h.1; omega))
  unfold frameL at hc
  rcases List.mem_append.1 hc with hc | hc
  · rcases List.mem_append.1 hc with hc | hc
    · have hm : ∀ c ∈ mark8, bit1 c = true := by decide
      exact hb c (hm c hc)
    · exact bits_of_ok hi c hc
  · unfold crcL binL at hc
    simp only [List.mem_map] at hc
    obtain ⟨k, _, rfl⟩ := hc
    exact hb _ (digB_bit1 _ _)⟩
theorem inv_bitsN {N : Nat} {l : List UInt8} (h : BitsN N l) : BitsN N (l.map inv1) := ⟨by have := h.1; simpa using this, fun c hc => by
  simp only [List.mem_map] at hc
  obtain ⟨d, hd, rfl⟩ := hc
  exact inv1_bit (h.2 d hd)⟩
set_option maxHeartbeats 2000000 in
theorem stream_any (B g lim : Nat) (w : World) (hr : Rd w B g lim) (hlim : lim ≤ 1000) :
    Calls Try.prog 93 #[.pointer (some ⟨g, 0, none⟩)] w fun e w' => ∃ l, e = .returned (.string (str l)) ∧ BitsN 156 l ∧ Rd w' B g (lim + 2000) ∧ Keeps g w w' := by
  have hg := hr.lt
  have hk := Keeps.refl g w
  go_enter Try.func93, Try.ntmps93
  go_wp2_with fail
  refine (l1String_any _ _ _ 9 _ hr (by omega) (by omega)).mono ?_
  rintro e u1 ⟨l0, rfl, hl0, hr', hk'⟩
  replace hk := hk.trans hk'
  clear hk' hr
  have hr := hr'
  clear hr'
  go_wp2_with fail
  refine (pick_any _ _ _ _ _ hr (by omega) (by omega) (by omega)).mono ?_
  rintro e u2 ⟨m, rfl, hx, hr', hk'⟩
  replace hk := hk.trans hk'
  clear hk' hr
  have hr := hr'
  clear hr'
  have hm : m ≤ 3 := by have := hx.1 (by omega); omega
  have HR := Lib.hid hr
  have HK := Lib.hid hk
  clear hx hr hk
  go_wp2
  go_loopw [3, 4] (fun v i wr => ∃ (k : Nat) (l : List UInt8), i = .int .i64 (k : Int) ∧ v = .string (str l) ∧ k ≤ 3 ∧ BitsN (9 + (3 - k) * 49) l ∧ Rd wr B g (lim + 201 + (3 - k) * 400) ∧ Keeps g w wr) (fun _ i _ => (intOf i).toNat)
  case atStart => exact ⟨m, l0, rfl, rfl, hm, ⟨by have := hl0.1; omega, hl0.2⟩, HR.out.mono (by omega), HK.out⟩
  case round =>
    clear HR HK hl0
    obtain ⟨k, l, rfl, rfl, hk3, hl, hr, hk⟩ := hrel
    have hll := hl.1
    have HL := Lib.hid hl
    have zl := str_size l
    clear hl
    by_cases h0 : 0 < k
    · go_wp2_with fail
      refine (l1String_any _ _ _ 20 _ hr (by omega) (by omega)).mono ?_
      rintro e u3 ⟨p, rfl, hp, hr', hk'⟩
      replace hk := hk.trans hk'
      clear hk' hr
      have hr := hr'
      clear hr'
      have hpo : payOK p = true := pay_mk (hp.ok (by omega)) (by have := hp.1; omega)
      have HF := Lib.hid (frame_bitsN hp)
      have zf := str_size (frameL p)
      rw [frame_len] at zf
      have hpl := hp.1
      clear hp
      have s1 := str_add l (frameL p)
      obtain ⟨O, hO⟩ : ∃ O, O = l ++ frameL p := ⟨_, rfl⟩
      have HO : Hid (BitsN (9 + (3 - k) * 49 + 43) O) := Lib.hid (by rw [hO]; exact HL.out.app HF.out)
      rw [← hO] at s1
      clear hO
      have zo := str_size O
      have hol := HO.out.1
      go_wp2_with fail
      refine (l6Frame_any p _ hpo).mono ?_
      rintro e u4 ⟨rfl, hk'⟩
      replace hr := hr.below hk'
      replace hk := Keeps.after hk hk'
      clear hk'
      go_wp2_with fail
      refine (l1String_any _ _ _ 6 _ hr (by omega) (by omega)).mono ?_
      rintro e u5 ⟨q, rfl, hq, hr', hk'⟩
      replace hk := hk.trans hk'
      clear hk' hr
      have hr := hr'
      clear hr'
      have zq := str_size q
      have hql := hq.1
      have s2 := str_add O q
      obtain ⟨V, hV⟩ : ∃ V, V = O ++ q := ⟨_, rfl⟩
      have HV : Hid (BitsN (9 + (3 - k) * 49 + 43 + 6) V) := Lib.hid (by rw [hV]; exact HO.out.app hq)
      rw [← hV] at s2
      clear hV hq
      go_wp2
      go_roundw
      case rel => exact ⟨k - 1, V, by congr 1; omega, rfl, by omega, ⟨by have := HV.out.1; omega, HV.out.2⟩, hr.mono (by omega), hk⟩
      case measure => simp [intOf]; omega
    · go_wp2_with fail
      refine (pick_any _ _ _ _ _ hr (by omega) (by omega) (by omega)).mono ?_
      rintro e u6 ⟨i, rfl, hx, hr', hk'⟩
      replace hk := hk.trans hk'
      clear hk' hr
      have hr := hr'
      clear hr'
      clear hx
      by_cases h1 : i = 0
      · subst h1
        go_wp2_with fail
        refine (harm_any _ _ _ l _ hr (by omega) (by omega) HL.out.2).mono ?_
        rintro e u7 ⟨l2, rfl, hl2, hr', hk'⟩
        replace hk := hk.trans hk'
        clear hk' hr
        have hr := hr'
        clear hr'
        have HL2 : Hid (BitsN 156 l2) := Lib.hid ⟨by rw [hl2.1]; omega, hl2.2⟩
        clear hl2
        go_wp2_with fail
        refine (pick_any _ _ _ _ _ hr (by omega) (by omega) (by omega)).mono ?_
        rintro e u8 ⟨j, rfl, hx, hr', hk'⟩
        replace hk := hk.trans hk'
        clear hk' hr
        have hr := hr'
        clear hr'
        clear hx
        by_cases h2 : j = 0
        · subst h2
          go_wp2_with fail
          refine (invS_any l2 _ (by have := HL2.out.1; omega) HL2.out.2).mono ?_
          rintro e u9 ⟨rfl, hk'⟩
          replace hr := hr.below hk'
          replace hk := Keeps.after hk hk'
          clear hk'
          go_wp2
          go_ret
          exact ⟨_, rfl, inv_bitsN HL2.out, hr.mono (by omega), hk⟩
        · have b2 : ((j : Int) == 0) = false := by simpa using h2
          go_wp2
          go_ret
          exact ⟨_, rfl, HL2.out, hr.mono (by omega), hk⟩
      · have b1 : ((i : Int) == 0) = false := by simpa using h1
        have HL2 : Hid (BitsN 156 l) := Lib.hid ⟨by omega, HL.out.2⟩
        go_wp2_with fail
        refine (pick_any _ _ _ _ _ hr (by omega) (by omega) (by omega)).mono ?_
        rintro e u10 ⟨j, rfl, hx, hr', hk'⟩
        replace hk := hk.trans hk'
        clear hk' hr
        have hr := hr'
        clear hr'
        clear hx
        by_cases h2 : j = 0
        · subst h2
          go_wp2_with fail
          refine (invS_any l _ (by omega) HL2.out.2).mono ?_
          rintro e u11 ⟨rfl, hk'⟩
          replace hr := hr.below hk'
          replace hk := Keeps.after hk hk'
          clear hk'
          go_wp2
          go_ret
          exact ⟨_, rfl, inv_bitsN HL2.out, hr.mono (by omega), hk⟩
        · have b2 : ((j : Int) == 0) = false := by simpa using h2
          go_wp2
          go_ret
          exact ⟨_, rfl, HL2.out, hr.mono (by omega), hk⟩
set_option maxHeartbeats 1000000 in
theorem drawFind_any (a : Option Addr) (len cap : Nat) (zs : List Int) (w : World) (h : IsRow .u8 w a len cap zs) :
    Calls Try.prog 53 #[.slice a len cap] w fun e w' => ∃ (l : List UInt8) (n : Int), e = .returned (.tuple #[.string (str l), .int .i64 n]) ∧ l.length ≤ 2001 ∧ -1 ≤ n ∧ n ≤ 9223372036854775807 ∧ Below w.heap.size w w' := by
  go_enter Try.func53, Try.ntmps53
  go_wp2_with fail
  refine (open_any _ _ _ _ _ h).mono ?_
  rintro e w1 ⟨rfl, hr, hb⟩
  clear h
  have hg := hr.lt
  have hk := Keeps.refl w.heap.size w1
  go_wp2_with fail
  refine (stream_any _ _ _ _ hr (by omega)).mono ?_
  rintro e u12 ⟨l, rfl, hl, hr', hk'⟩
  replace hk := hk.trans hk'
  clear hk' hr
  have hr := hr'
  clear hr'
  go_wp2_with fail
  refine (wild_any _ _ _ l _ hr (by omega) (by have := hl.1; omega)).mono ?_
  rintro e u13 ⟨l2, rfl, hl2, hr', hk'⟩
  replace hk := hk.trans hk'
  clear hk' hr
  have hr := hr'
  clear hr'
  clear hl
  go_wp2_with fail
  refine (pick_any _ _ _ _ _ hr (by omega) (by omega) (by omega)).mono ?_
  rintro e u14 ⟨k, rfl, hx, hr', hk'⟩
  replace hk := hk.trans hk'
  clear hk' hr
  have hr := hr'
  clear hr'
  clear hx
  by_cases h0 : k = 0
  · subst h0
    go_wp2_with fail
    refine (num_lit _ _ _ [-1, 9223372036854775807] _ _ _ hr (by omega) rfl (by simp) (by simp)).mono ?_
    rintro e u15 ⟨n, hn, rfl, hr', hk'⟩
    replace hk := hk.trans hk'
    clear hk' hr
    have hr := hr'
    clear hr'
    have hn2 : -1 ≤ n ∧ n ≤ 9223372036854775807 := by simp at hn; omega
    clear hn
    go_wp2
    go_ret2
    exact ⟨l2, n, rfl, hl2, hn2.1, hn2.2, hb.trans hk.below⟩
  · have b0 : ((k : Int) == 0) = false := by simpa using h0
    go_wp2_with fail
    refine (pick_any _ _ _ _ _ hr (by omega) (by omega) (by omega)).mono ?_
    rintro e u16 ⟨m, rfl, hx, hr', hk'⟩
    replace hk := hk.trans hk'
    clear hk' hr
    have hr := hr'
    clear hr'
    have hm : m < 50 := by have := hx.1 (by omega); omega
    clear hx
    go_wp2
    go_ret2
    exact ⟨l2, m, rfl, hl2, by omega, by omega, hb.trans hk.below⟩
end Go.Proofs.Ytmfblphnedoejaa
