/- Weak contracts of the functions that draw the arguments of receiving. -/
import Derived.Test.YtiiiaeemblcniaaDrawHd
namespace Go.Proofs.Ytiiiaeemblcniaa
set_option maxRecDepth 20000
open Go.ChangeShapes Go.WideShapes Go.ChangeAt Go.RowKit
set_option linter.unusedVariables false
set_option linter.unusedSimpArgs false

/-- what a draw of a signal, a code, a delay and a number of bits gives -/
def RcvD (w : World) (e : Ending) (w' : World) : Prop :=
  ∃ (v : Value) (z : List Int) (l : List UInt8) (x n : Int), e = .returned (.tuple #[v, .string (str l), .int .i64 x, .int .i64 n]) ∧ (Sl w' w.heap.size w'.heap.size v z ∧ z.length ≤ 10001) ∧ (l.length ≤ 2001 ∧ (-1 ≤ x ∧ x ≤ 9223372036854775807) ∧ -1 ≤ n ∧ n ≤ 9223372036854775807) ∧ Below w.heap.size w w'
theorem drawRcv_any (a : Option Addr) (len cap : Nat) (zs : List Int) (w : World) (h : IsRow .u8 w a len cap zs) :
    Calls Try.prog 8 #[.slice a len cap] w (RcvD w) := by
  go_enter Try.func8, Try.ntmps8
  go_wp2_with fail
  refine (open_any _ _ _ _ _ h).mono ?_
  rintro e w1 ⟨rfl, hr, hb⟩
  clear h
  have hg := hr.lt
  have hbs := hb.size
  go_wp2_with fail
  refine (heard_any _ _ _ _ hr (by omega)).mono ?_
  rintro e w2 ⟨v, z, l, x, n, rfl, ⟨hsl, hz⟩, hln, hr2, hk⟩
  have HS := Lib.hid (hsl.mono hbs (Nat.le_refl _))
  have HB := Lib.hid (hb.trans (hk.below.mono (by omega)))
  have HL := Lib.hid hln
  clear hsl hln hr hr2 hk hb
  go_wp2
  exact bodyPost_ret (v := .tuple #[v, .string (str l), .int .i64 x, .int .i64 n]) (by simp [results, Try.results8, go_sem]) rfl ⟨v, z, l, x, n, rfl, ⟨HS.out, hz⟩, HL.out, HB.out⟩
/-- what a draw of a signal, a code and a number of bits gives -/
def DesD (w : World) (e : Ending) (w' : World) : Prop :=
  ∃ (v : Value) (z : List Int) (l : List UInt8) (n : Int), e = .returned (.tuple #[v, .string (str l), .int .i64 n]) ∧ (Sl w' w.heap.size w'.heap.size v z ∧ z.length ≤ 10001) ∧ (l.length ≤ 2001 ∧ -1 ≤ n ∧ n ≤ 9223372036854775807) ∧ Below w.heap.size w w'
theorem drawDes_any (a : Option Addr) (len cap : Nat) (zs : List Int) (w : World) (h : IsRow .u8 w a len cap zs) :
    Calls Try.prog 25 #[.slice a len cap] w (DesD w) := by
  go_enter Try.func25, Try.ntmps25
  go_wp2_with fail
  refine (open_any _ _ _ _ _ h).mono ?_
  rintro e w1 ⟨rfl, hr, hb⟩
  clear h
  have hg := hr.lt
  have hbs := hb.size
  go_wp2_with fail
  refine (heard_any _ _ _ _ hr (by omega)).mono ?_
  rintro e w2 ⟨v, z, l, x, n, rfl, ⟨hsl, hz⟩, ⟨hl1, _, hl3, hl4⟩, hr2, hk⟩
  have HS := Lib.hid (hsl.mono hbs (Nat.le_refl _))
  have HB := Lib.hid (hb.trans (hk.below.mono (by omega)))
  clear hsl hr hr2 hk hb
  go_wp2
  exact bodyPost_ret (v := .tuple #[v, .string (str l), .int .i64 n]) (by simp [results, Try.results25, go_sem]) rfl ⟨v, z, l, n, rfl, ⟨HS.out, hz⟩, ⟨hl1, hl3, hl4⟩, HB.out⟩
theorem Own.cut4 {w : World} {B : Nat} {e : TypeId} {g n cap : Nat} {xs : List Value} (h : Own w B e g n cap xs) (j : Nat) (hj : j ≤ n) : Own w B e g j cap (xs.take j) := by
  obtain ⟨h1, h2⟩ := h
  refine ⟨by simp; omega, .inr ?_⟩
  rcases h2 with ⟨h2, _⟩ | ⟨g', c', cur, h', hB, hh, a, b, c, d⟩
  · cases h2
  · simp only [Value.slice.injEq, Option.some.injEq, Addr.mk.injEq, and_true, true_and] at h'
    obtain ⟨rfl, rfl⟩ := h'
    refine ⟨_, _, cur, rfl, hB, hh, by omega, b, c, ?_⟩
    rw [← d, List.take_take, Nat.min_eq_left (by omega), Nat.mul_one]
theorem Sl.cut4 {w : World} {lo hi n c : Nat} {A : Option Addr} {z : List Int} (h : Sl w lo hi (.slice A n c) z) (j : Nat) (hj : j ≤ n) : Sl w lo hi (.slice A j c) (z.take j) := by
  rcases h.form with ⟨e, rfl⟩ | ⟨g, cap, e, ho, hlo, hhi⟩
  · simp only [Value.slice.injEq] at e
    obtain ⟨rfl, rfl, rfl⟩ := e
    obtain rfl : j = 0 := by omega
    exact Sl.nil _ _ _
  · simp only [Value.slice.injEq] at e
    obtain ⟨rfl, rfl, rfl⟩ := e
    have hl : (z.take j).length = j := by simp; omega
    have := ho.cut4 j hj
    rw [← List.map_take] at this
    have h3 : Own w lo 3 g (z.take j).length c ((z.take j).map intV) := by rw [hl]; exact this
    have h4 := Sl.of_own h3 hhi
    rw [hl] at h4
    exact h4
/-- what a draw of a signal, a code, delays and a number of bits gives -/
def RakD (w : World) (e : Ending) (w' : World) : Prop :=
  ∃ (v : Value) (z : List Int) (l : List UInt8) (v2 : Value) (ds : List Int) (n : Int), e = .returned (.tuple #[v, .string (str l), v2, .int .i64 n]) ∧ (Sl w' w.heap.size w'.heap.size v z ∧ z.length ≤ 10001) ∧ (Sl w' w.heap.size w'.heap.size v2 ds ∧ ds.length ≤ 3) ∧ (l.length ≤ 2001 ∧ -1 ≤ n ∧ n ≤ 9223372036854775807) ∧ Below w.heap.size w w'
set_option maxHeartbeats 4000000 in
theorem drawRak_any (a : Option Addr) (len cap : Nat) (zs : List Int) (w : World) (h : IsRow .u8 w a len cap zs) :
    Calls Try.prog 13 #[.slice a len cap] w (RakD w) := by
  go_enter Try.func13, Try.ntmps13
  go_wp2_with fail
  refine (open_any _ _ _ _ _ h).mono ?_
  rintro e w1 ⟨rfl, hr, hb⟩
  clear h
  have hg := hr.lt
  have hbs := hb.size
  go_wp2_with fail
  refine (heard_any _ _ _ _ hr (by omega)).mono ?_
  rintro e w2 ⟨v, z, l, x, n, rfl, ⟨hsl, hz⟩, ⟨hl1, _, hl3, hl4⟩, hr2, hk⟩
  have hs12 := hk.size
  have HS2 := Lib.hid (hsl.below ((Below.refl w2.heap.size w2).alloc (Nat.le_refl _) (.cells #[.int .i64 x] 3)) (Nat.le_refl _))
  have HD2 : Hid (Sl (w2.alloc (.cells #[.int .i64 x] 3)) w2.heap.size (w2.alloc (.cells #[.int .i64 x] 3)).heap.size (.slice (some ⟨w2.heap.size, 0, none⟩) 1 1) [x]) := Lib.hid (Sl.of_own (l := [x]) (Own.lit (w := w2) (B := w2.heap.size) 3 #[.int .i64 x] 1 (Nat.le_refl _) (by unfold maxLen; omega) rfl) (by simp))
  have hr3 := hr2.alloc (.cells #[.int .i64 x] 3)
  have HK := Lib.hid (hk.after ((Below.refl _ _).alloc (Nat.le_refl _) (.cells #[.int .i64 x] 3)) hg.2)
  have HB := Lib.hid hb
  clear hsl hr hr2 hk hb
  go_wp2_with fail
  refine (pick_any _ _ _ _ _ hr3 (by omega) (by omega) (by omega)).mono ?_
  rintro e w3 ⟨k, rfl, hx, hr4, hk4⟩
  have hk2 : k ≤ 2 := by have := hx.1 (by omega); omega
  have hw23 : w2.heap.size ≤ w3.heap.size := by have := hk4.size; simp at this; omega
  have HS3 := Lib.hid (HS2.out.keeps hk4 (by omega))
  have HD3 := Lib.hid ((HD2.out.keeps hk4 (by omega)).up hk4.size)
  have HK3 := Lib.hid (HK.out.trans hk4)
  have HR3 := Lib.hid hr4
  clear hx hr3 hr4 hk4 HS2 HD2 HK
  go_wp2
  go_loopw [11, 12] (fun d i wr => ∃ (k : Nat) (ds : List Int), i = .int .i64 (k : Int) ∧ ds.length + k ≤ 3 ∧ Sl wr w1.heap.size w2.heap.size v z ∧ Sl wr w2.heap.size wr.heap.size d ds ∧ Rd wr w.heap.size w.heap.size (6000 + ds.length) ∧ Keeps w.heap.size w1 wr ∧ w2.heap.size ≤ wr.heap.size) (fun _ i _ => (intOf i).toNat)
  case atStart => exact ⟨k, [x], rfl, by simp; omega, HS3.out, HD3.out, HR3.out.mono (by simp), HK3.out, hw23⟩
  case round =>
    clear HS3 HR3 HK3 HD3 hk2
    obtain ⟨k, ds, rfl, hdk, hsz, hsd, hr, hk, hww⟩ := hrel
    by_cases hlt : 0 < k
    · go_wp2_with fail
      refine (pick_any _ _ _ _ _ hr (by omega) (by omega) (by omega)).mono ?_
      rintro e u ⟨j, rfl, hx, hr1, hk1⟩
      have hsz1 := hsz.keeps hk1 (by omega)
      have hsd1 := (hsd.keeps hk1 (by omega)).up hk1.size
      have hk2 := hk.trans hk1
      have hwu : w2.heap.size ≤ u.heap.size := Nat.le_trans hww hk1.size
      clear hx hsz hsd hr hk hk1
      have hs2 := Lib.hid (hsd1.below ((Below.refl u.heap.size u).alloc (Nat.le_refl _) (.cells #[.int .i64 (j : Int)] 3)) (Nat.le_refl _) |>.mono (Nat.le_refl _) (show u.heap.size ≤ (u.alloc (.cells #[.int .i64 (j : Int)] 3)).heap.size by simp))
      have hb2 := Lib.hid ((Below.refl u.heap.size u).alloc (Nat.le_refl _) (.cells #[.int .i64 (j : Int)] 3) |>.mono hwu)
      have HK2 := Lib.hid hk2
      have HR2 := Lib.hid hr1
      have HZ2 := Lib.hid hsz1
      clear hsd1 hsz1 hk2 hr1
      go_wp2_with (at_builtin; go_must (refine appSl (w0 := u) rfl _ _ rfl w2.heap.size _ ds [(j : Int)] (some ⟨u.heap.size, 0, none⟩) 1 1 rfl rfl rfl hs2.out ⟨_, rfl, fun i hi => by simp at hi; subst hi; simp [Addr.add]⟩ hb2.out hwu (by simp; omega) ?_); intro v2 w3 hs3 hb3)
      have hr3 := HR2.out.below' hb3 (by omega)
      have hw3 := Nat.le_trans hwu hb3.size
      have HK3 := Lib.hid (HK2.out.step (hb3.mono hs12) (by omega))
      have HZ3 := Lib.hid (HZ2.out.below hb3 (Nat.le_refl _))
      clear hs2 hb2 HR2 HK2 hb3
      go_wp2
      go_roundw
      case rel => exact ⟨k - 1, ds ++ [(j : Int)], by congr 1; omega, by simp; omega, HZ3.out, hs3, hr3.mono (by simp; omega), HK3.out, hw3⟩
      case measure => simp [intOf]; omega
    · have hwu := hww
      have HZ := Lib.hid hsz
      have HD := Lib.hid hsd
      have HKK := Lib.hid hk
      clear hsz hsd hk
      go_wp2_with fail
      refine (pick_any _ _ _ _ _ hr (by omega) (by omega) (by omega)).mono ?_
      rintro e u ⟨j, rfl, hx, hr1, hk1⟩
      have HZ1 := Lib.hid (((HZ.out.keeps hk1 (by omega)).mono hbs (Nat.le_trans hwu hk1.size)))
      have HD1 := Lib.hid (((HD.out.keeps hk1 (by omega)).up hk1.size).mono (Nat.le_trans hbs hs12) (Nat.le_refl _))
      have HBF := Lib.hid (HB.out.trans ((HKK.out.trans hk1).below.mono (by omega)))
      obtain ⟨A, c, rfl, _, _⟩ := HD1.out.reads
      clear hx hr hr1 hk1 HZ HD HKK
      by_cases h0 : j = 0
      · subst h0
        have HC := Lib.hid (HD1.out.cut4 0 (Nat.zero_le _))
        go_wp2
        refine wp_region_still_lit (by kernel_rfl) (by kernel_rfl) ?_
        repeat (refine wpStill_step (fun K hK => ?_); (try go_simp); (try simp only [IntWalk.iteOmega]); (try go_ints); (try simp (disch := omega) only [dif_pos]); (try go_simp); refine hK _ ?_; clear hK K)
        refine wpStill_nil ?_
        go_wp2
        exact bodyPost_ret (v := .tuple #[v, .string (str l), .slice A 0 c, .int .i64 n]) (by simp [results, Try.results13, go_sem]) rfl ⟨v, z, l, _, _, n, rfl, ⟨HZ1.out, hz⟩, ⟨HC.out, by simp⟩, ⟨hl1, hl3, hl4⟩, HBF.out.drew⟩
      · have b0 : ((j : Int) == 0) = false := by simpa using h0
        go_wp2
        exact bodyPost_ret (v := .tuple #[v, .string (str l), .slice A ds.length c, .int .i64 n]) (by simp [results, Try.results13, go_sem]) rfl ⟨v, z, l, _, ds, n, rfl, ⟨HZ1.out, hz⟩, ⟨HD1.out, by omega⟩, ⟨hl1, hl3, hl4⟩, HBF.out⟩
end Go.Proofs.Ytiiiaeemblcniaa
