/- Weak contract of the function that draws the arguments of a margin. -/
import Derived.Test.YtiiiaeemblcniaaDrawHd
import Derived.Test.YtiiiaeemblcniaaRecv
namespace Go.Proofs.Ytiiiaeemblcniaa
set_option maxRecDepth 20000
open Go.ChangeShapes Go.WideShapes Go.ChangeAt Go.RowKit
set_option linter.unusedVariables false
set_option linter.unusedSimpArgs false

/-- what a draw of a signal, a code, a delay and data gives -/
def MgD (w : World) (e : Ending) (w' : World) : Prop :=
  ∃ (v : Value) (z : List Int) (l : List UInt8) (x : Int) (d : List UInt8), e = .returned (.tuple #[v, .string (str l), .int .i64 x, .string (str d)]) ∧ (Sl w' w.heap.size w'.heap.size v z ∧ z.length ≤ 10001) ∧ (l.length ≤ 2001 ∧ (-1 ≤ x ∧ x ≤ 9223372036854775807) ∧ d.length ≤ 700) ∧ Below w.heap.size w w'
theorem flip_str (d : List UInt8) (k : Nat) (h : k < d.length) : ∃ d' : List UInt8, (str d).extract 0 k ++ (⟨#[49]⟩ : ByteArray) ++ (str d).extract (k + 1) d.length = str d' ∧ d'.length = d.length := by
  refine ⟨d.take k ++ [49] ++ d.drop (k + 1), ?_, by simp; omega⟩
  rw [str_ex, str_ex, show (⟨#[49]⟩ : ByteArray) = str [49] from rfl, str_add, str_add, List.take_of_length_le (Nat.le_refl d.length), List.drop_zero]
set_option maxHeartbeats 4000000 in
theorem drawMg_any (a : Option Addr) (len cap : Nat) (zs : List Int) (w : World) (h : IsRow .u8 w a len cap zs) :
    Calls Try.prog 16 #[.slice a len cap] w (MgD w) := by
  go_enter Try.func16, Try.ntmps16
  go_wp2_with fail
  refine (open_any _ _ _ _ _ h).mono ?_
  rintro e w1 ⟨rfl, hr, hb⟩
  clear h
  have hg := hr.lt
  have hbs := hb.size
  go_wp2_with fail
  refine (heard_any _ _ _ _ hr (by omega)).mono ?_
  rintro e w2 ⟨v, z, l, x, n, rfl, ⟨hsl, hz⟩, ⟨hl1, hx, hl3, hl4⟩, hr2, hk⟩
  have hs12 := hk.size
  obtain ⟨A, c, rfl, hrd, _⟩ := hsl.reads
  have HRC := Lib.hid (rcvS_any A c z (str l) x n w2 hrd (by omega) (by rw [str_size]; unfold maxLen; omega))
  have HS2 := Lib.hid hsl
  have HK2 := Lib.hid hk
  have HR2 := Lib.hid hr2
  have HB := Lib.hid hb
  obtain ⟨o, ho, hol⟩ : ∃ o, o = rcvO z (str l) x n ∧ ∀ d, o = some d → d.length ≤ 600 := by
    refine ⟨_, rfl, fun d hd => ?_⟩
    unfold rcvO at hd
    split at hd
    · rename_i h
      obtain ⟨_, _, X, N, _, e2, _, hN⟩ := ls_parts h
      rw [← Option.some.inj hd, signs_len, dots_len, e2]
      simpa using hN
    · cases hd
  rw [← ho] at HRC
  clear hsl hrd hr hr2 hk hb ho
  cases o with
  | none =>
    change Hid (Calls _ _ _ _ fun e w' => e = .returned (.tuple #[.string ⟨#[]⟩, .bool false]) ∧ _) at HRC
    clear hol
    go_wp2_with fail
    refine HRC.out.mono ?_
    rintro e w3 ⟨rfl, k3⟩
    have HS3 := Lib.hid ((HS2.out.below k3 (Nat.le_refl _)).up k3.size)
    have HK3 := Lib.hid (HK2.out.after k3 (by omega))
    have hr3 := HR2.out.below k3
    obtain ⟨d, hd, hdl⟩ : ∃ d : List UInt8, (⟨#[48, 49]⟩ : ByteArray) = str d ∧ d.length = 2 := ⟨[48, 49], rfl, rfl⟩
    have hd0 : 0 < d.length := by omega
    have zd := str_size d
    clear k3 HS2 HK2 HR2 HRC
    have hd7 : d.length ≤ 700 := by omega
    go_wp2_with fail
    refine (pick_any _ _ _ _ _ hr3 (by omega) (by omega) (by omega)).mono ?_
    rintro e w4 ⟨j, rfl, hj, hr4, hk4⟩
    have HS4 := Lib.hid ((HS3.out.keeps hk4 (by omega)).up hk4.size)
    have HK4 := Lib.hid (HK3.out.trans hk4)
    clear hj hr3 hk4 HS3 HK3
    by_cases h0 : j = 0
    · subst h0
      go_wp2_with fail
      refine (pick_any _ _ _ _ _ hr4 (by omega) (by omega) (by omega)).mono ?_
      rintro e w5 ⟨k, rfl, hk, hr5, hk5⟩
      have hkd : k < d.length := by have := hk.1 (by omega); omega
      have HS5 := Lib.hid ((HS4.out.keeps hk5 (by omega)).up hk5.size)
      have HK5 := Lib.hid (HK4.out.trans hk5)
      clear hk hr4 hk5 HS4 HK4
      obtain ⟨d', hd', hdl'⟩ := flip_str d k hkd
      have HD2 := Lib.hid hd'
      clear hd'
      go_wp2
      refine wp_region_still_lit (by kernel_rfl) (by kernel_rfl) ?_
      repeat (refine wpStill_step (fun K hK => ?_); (try go_simp); (try simp only [IntWalk.iteOmega]); (try go_ints); (try simp (disch := omega) only [dif_pos]); (try go_simp); refine hK _ ?_; clear hK K)
      refine wpStill_nil ?_
      go_wp2
      exact bodyPost_ret (v := .tuple #[.slice A z.length c, .string (str l), .int .i64 x, .string (str d')]) (by simp [results, Try.results16, go_sem]; first | exact HD2.out | (have q := HD2.out; rw [hdl] at q; exact q)) rfl ⟨_, z, l, x, d', rfl, ⟨HS5.out.mono hbs (Nat.le_refl _), hz⟩, ⟨hl1, hx, by omega⟩, (HB.out.trans (HK5.out.below.mono (by omega))).drew⟩
    · have b0 : ((j : Int) == 0) = false := by simpa using h0
      go_wp2
      exact bodyPost_ret (v := .tuple #[.slice A z.length c, .string (str l), .int .i64 x, .string (str d)]) (by simp [results, Try.results16, go_sem]) rfl ⟨_, z, l, x, d, rfl, ⟨HS4.out.mono hbs (Nat.le_refl _), hz⟩, ⟨hl1, hx, hd7⟩, HB.out.trans (HK4.out.below.mono (by omega))⟩
  | some d =>
    change Hid (Calls _ _ _ _ fun e w' => e = .returned (.tuple #[.string (str d), .bool true]) ∧ _) at HRC
    have hd7 : d.length ≤ 700 := by have := hol d rfl; omega
    have zd := str_size d
    clear hol
    go_wp2_with fail
    refine HRC.out.mono ?_
    rintro e w3 ⟨rfl, k3⟩
    have HS3 := Lib.hid ((HS2.out.below k3 (Nat.le_refl _)).up k3.size)
    have HK3 := Lib.hid (HK2.out.after k3 (by omega))
    have hr3 := HR2.out.below k3
    clear k3 HS2 HK2 HR2 HRC
    by_cases hd0 : 0 < d.length
    · skip
      go_wp2_with fail
      refine (pick_any _ _ _ _ _ hr3 (by omega) (by omega) (by omega)).mono ?_
      rintro e w4 ⟨j, rfl, hj, hr4, hk4⟩
      have HS4 := Lib.hid ((HS3.out.keeps hk4 (by omega)).up hk4.size)
      have HK4 := Lib.hid (HK3.out.trans hk4)
      clear hj hr3 hk4 HS3 HK3
      by_cases h0 : j = 0
      · subst h0
        go_wp2_with fail
        refine (pick_any _ _ _ _ _ hr4 (by omega) (by omega) (by omega)).mono ?_
        rintro e w5 ⟨k, rfl, hk, hr5, hk5⟩
        have hkd : k < d.length := by have := hk.1 (by omega); omega
        have HS5 := Lib.hid ((HS4.out.keeps hk5 (by omega)).up hk5.size)
        have HK5 := Lib.hid (HK4.out.trans hk5)
        clear hk hr4 hk5 HS4 HK4
        obtain ⟨d', hd', hdl'⟩ := flip_str d k hkd
        have HD2 := Lib.hid hd'
        clear hd'
        go_wp2
        refine wp_region_still_lit (by kernel_rfl) (by kernel_rfl) ?_
        repeat (refine wpStill_step (fun K hK => ?_); (try go_simp); (try simp only [IntWalk.iteOmega]); (try go_ints); (try simp (disch := omega) only [dif_pos]); (try go_simp); refine hK _ ?_; clear hK K)
        refine wpStill_nil ?_
        go_wp2
        exact bodyPost_ret (v := .tuple #[.slice A z.length c, .string (str l), .int .i64 x, .string (str d')]) (by simp [results, Try.results16, go_sem]; first | exact HD2.out | (have q := HD2.out; rw [hdl] at q; exact q)) rfl ⟨_, z, l, x, d', rfl, ⟨HS5.out.mono hbs (Nat.le_refl _), hz⟩, ⟨hl1, hx, by omega⟩, (HB.out.trans (HK5.out.below.mono (by omega))).drew⟩
      · have b0 : ((j : Int) == 0) = false := by simpa using h0
        go_wp2
        exact bodyPost_ret (v := .tuple #[.slice A z.length c, .string (str l), .int .i64 x, .string (str d)]) (by simp [results, Try.results16, go_sem]) rfl ⟨_, z, l, x, d, rfl, ⟨HS4.out.mono hbs (Nat.le_refl _), hz⟩, ⟨hl1, hx, hd7⟩, HB.out.trans (HK4.out.below.mono (by omega))⟩
    · go_wp2
      exact bodyPost_ret (v := .tuple #[.slice A z.length c, .string (str l), .int .i64 x, .string (str d)]) (by simp [results, Try.results16, go_sem]) rfl ⟨_, z, l, x, d, rfl, ⟨HS3.out.mono hbs (Nat.le_refl _), hz⟩, ⟨hl1, hx, hd7⟩, HB.out.trans (HK3.out.below.mono (by omega))⟩
end Go.Proofs.Ytiiiaeemblcniaa
