/- Weak contract of the function that draws the arguments of PilotSignal. -/
import Derived.Test.YtholipfekecloaaDrawD
namespace Go.Proofs.Ytholipfekecloaa
set_option maxRecDepth 20000
open Go.ChangeShapes Go.WideShapes Go.ChangeAt Go.RowKit
set_option linter.unusedVariables false
set_option linter.unusedSimpArgs false

set_option maxHeartbeats 8000000 in
theorem drawPs_any (a : Option Addr) (len cap : Nat) (zs : List Int) (w : World) (h : IsRow .u8 w a len cap zs) :
    Calls Try.prog 14 #[.slice a len cap] w fun e w' => ∃ (l : List UInt8) (m x k g : Int), e = .returned (.tuple #[.agg #[.string (str l), .int .i64 m], .int .i64 x, .int .i64 k, .int .i64 g]) ∧ (l.length ≤ 2001 ∧ -1 ≤ m ∧ m ≤ 9) ∧ (-1 ≤ x ∧ x ≤ 9223372036854775807) ∧ (-1 ≤ k ∧ k ≤ 3001) ∧ (-1001 ≤ g ∧ g ≤ 1001) ∧ Below w.heap.size w w' := by
  go_enter Try.func14, Try.ntmps14
  go_wp2_with fail
  obtain ⟨W, hW⟩ : ∃ W, W = w.alloc (.cells #[.string ⟨#[]⟩, .int .i64 0] 24) := ⟨_, rfl⟩
  have hb0 : Below w.heap.size w W := by rw [hW]; exact (Below.refl _ _).alloc (Nat.le_refl _) _
  have hWs : w.heap.size < W.heap.size := by rw [hW]; simp
  have hY : Two W w.heap.size (.string ⟨#[]⟩) (.int .i64 0) := by rw [hW]; exact Two.box _ _ _
  have hrow := row_below' h hb0
  rw [← hW]
  clear hW h
  refine (open_any _ _ _ _ _ hrow).mono ?_
  rintro e w1 ⟨rfl, hr, hb⟩
  clear hrow
  have hg := hr.lt
  replace hY := hY.block (hb.block _ (by omega)) hb.size
  have hk := Keeps.refl W.heap.size w1
  have hbw : Below w.heap.size w w1 := hb0.trans (hb.mono (by omega))
  clear hb hb0
  go_wp2_with fail
  refine (pilot_any _ _ _ _ hr (by omega)).mono ?_
  rintro e u1 ⟨l, m, rfl, ⟨hp, hl2, hl15, hm1, hm6⟩, hr1, hk1⟩
  replace hY := hY.keeps hk1 (by omega)
  replace hk := hk.trans hk1
  have hs1 := hk.size
  clear hr hk1
  obtain ⟨V, hV⟩ : ∃ V, V = u1.alloc (.cells #[.string (str l), .int .i64 (m : Int)] 24) := ⟨_, rfl⟩
  have hX : Two V u1.heap.size (.string (str l)) (.int .i64 (m : Int)) := by rw [hV]; exact Two.box _ _ _
  have hYV : Two V w.heap.size (.string ⟨#[]⟩) (.int .i64 0) := by rw [hV]; exact hY.alloc _
  have hkV : Keeps W.heap.size w1 V := by rw [hV]; exact hk.after ((Below.refl _ _).alloc (Nat.le_refl _) _)
  have hrV : Rd V W.heap.size W.heap.size (0 + 300) := by rw [hV]; exact hr1.alloc _
  have HX := Lib.hid hX
  have HY := Lib.hid hYV
  have HP := Lib.hid hp
  clear hX hYV hY hk hr1 hp
  go_wp2_with fail
  rw [← hV]
  clear hV
  refine (near_any _ _ _ l m 0 _ hrV (by omega) HP.out (by omega) (by omega) (by omega)).mono ?_
  rintro e u2 ⟨x, rfl, hx, hr2, hk2⟩
  clear hrV
  go_wp2_with fail
  refine (pick_any _ _ _ _ _ hr2 (by omega) (by omega) (by omega)).mono ?_
  rintro e u3 ⟨c, rfl, hc, hr3, hk3⟩
  have hc60 : c < 60 := by have := hc.1 (by omega); omega
  replace hk2 := hk2.trans hk3
  clear hc hk3 hr2
  go_wp2_with fail
  refine (pick_any _ _ _ _ _ hr3 (by omega) (by omega) (by omega)).mono ?_
  rintro e u4 ⟨q, rfl, hq, hr4, hk4⟩
  have hq9 : q < 9 := by have := hq.1 (by omega); omega
  replace hk2 := hk2.trans hk4
  clear hq hk4 hr3
  go_wp2_with fail
  refine (pick_any _ _ _ _ _ hr4 (by omega) (by omega) (by omega)).mono ?_
  rintro e u5 ⟨i, rfl, hi, hr5, hk5⟩
  replace hk2 := hk2.trans hk5
  clear hi hk5 hr4
  have HK2 := Lib.hid hk2
  clear hk2
  by_cases h0 : i = 0
  · subst h0
    go_wp2_with fail
    refine (num_lit _ _ _ [-1, 3000, 3001] _ _ _ hr5 (by omega) rfl (by simp) (by simp)).mono ?_
    rintro e u6 ⟨n, hn, rfl, hr6, hk6⟩
    have hn2 : -1 ≤ n ∧ n ≤ 3001 := by simp at hn; omega
    have hk26 := HK2.out.trans hk6
    have hX := HX.out.keeps hk26 (by omega)
    obtain ⟨c0, c1, cf, cl⟩ := hX
    have HK3 := Lib.hid hk26
    clear hn hk6 hk26 hr5
    go_wp2_with fail
    refine (l5Bad_any _ _ _ l m _ hr6 (by omega) (by omega) (by omega)).mono ?_
    rintro e u7 ⟨l', n', rfl, hn', hr7, hk7⟩
    have hk24 := HK3.out.trans hk7
    have hY := HY.out.keeps hk24 (by omega)
    have hB := (hbw.trans ((hkV.trans hk24).below.mono (by omega))).trans (two_set u7 (Nat.le_refl w.heap.size) (.string (str l')) (.int .i64 n'))
    obtain ⟨d0, d1, df, dl⟩ := hY
    clear hr6 hr7 hk24 hk7 hbw hkV c0 c1 cf cl
    go_wp2
    exact bodyPost_ret (v := .tuple #[.agg #[.string (str l'), .int .i64 n'], .int .i64 x, .int .i64 n, .int .i64 ((q : Int) - 4)]) (by simp [results, Try.results14, go_sem, d0, d1]) rfl ⟨_, _, _, _, _, rfl, hn', hx, hn2, by omega, hB⟩
  have b0 : ((i : Int) == 0) = false := by simpa using h0
  by_cases h1 : i = 1
  · subst h1
    go_wp2_with fail
    refine (num_lit _ _ _ [1000, 1001, -1001] _ _ _ hr5 (by omega) rfl (by simp) (by simp)).mono ?_
    rintro e u6 ⟨n, hn, rfl, hr6, hk6⟩
    have hn2 : -1001 ≤ n ∧ n ≤ 1001 := by simp at hn; omega
    have hk26 := HK2.out.trans hk6
    have hX := HX.out.keeps hk26 (by omega)
    obtain ⟨c0, c1, cf, cl⟩ := hX
    have HK3 := Lib.hid hk26
    clear hn hk6 hk26 hr5
    go_wp2_with fail
    refine (l5Bad_any _ _ _ l m _ hr6 (by omega) (by omega) (by omega)).mono ?_
    rintro e u7 ⟨l', n', rfl, hn', hr7, hk7⟩
    have hk24 := HK3.out.trans hk7
    have hY := HY.out.keeps hk24 (by omega)
    have hB := (hbw.trans ((hkV.trans hk24).below.mono (by omega))).trans (two_set u7 (Nat.le_refl w.heap.size) (.string (str l')) (.int .i64 n'))
    obtain ⟨d0, d1, df, dl⟩ := hY
    clear hr6 hr7 hk24 hk7 hbw hkV c0 c1 cf cl
    go_wp2
    exact bodyPost_ret (v := .tuple #[.agg #[.string (str l'), .int .i64 n'], .int .i64 x, .int .i64 (c : Int), .int .i64 n]) (by simp [results, Try.results14, go_sem, d0, d1]) rfl ⟨_, _, _, _, _, rfl, hn', hx, by omega, hn2, hB⟩
  have b1 : ((i : Int) == 1) = false := by simp; omega
  have hX := HX.out.keeps HK2.out (by omega)
  obtain ⟨c0, c1, cf, cl⟩ := hX
  go_wp2_with fail
  refine (l5Bad_any _ _ _ l m _ hr5 (by omega) (by omega) (by omega)).mono ?_
  rintro e u7 ⟨l', n', rfl, hn', hr7, hk7⟩
  have hk24 := HK2.out.trans hk7
  have hY := HY.out.keeps hk24 (by omega)
  have hB := (hbw.trans ((hkV.trans hk24).below.mono (by omega))).trans (two_set u7 (Nat.le_refl w.heap.size) (.string (str l')) (.int .i64 n'))
  obtain ⟨d0, d1, df, dl⟩ := hY
  clear hr5 hr7 hk24 hk7 hbw hkV c0 c1 cf cl
  go_wp2
  exact bodyPost_ret (v := .tuple #[.agg #[.string (str l'), .int .i64 n'], .int .i64 x, .int .i64 (c : Int), .int .i64 ((q : Int) - 4)]) (by simp [results, Try.results14, go_sem, d0, d1]) rfl ⟨_, _, _, _, _, rfl, hn', hx, by omega, by omega, hB⟩
end Go.Proofs.Ytholipfekecloaa
