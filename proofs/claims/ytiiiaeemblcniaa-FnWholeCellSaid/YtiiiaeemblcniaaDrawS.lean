/- Weak contracts of the functions that draw signals. -/
import Derived.Test.YtiiiaeemblcniaaDrawQ
import Derived.Test.YtiiiaeemblcniaaDropS
import Derived.Laws.CopyOwn
namespace Go.Proofs.Ytiiiaeemblcniaa
set_option maxRecDepth 20000
open Go.ChangeShapes Go.WideShapes Go.ChangeAt Go.RowKit
set_option linter.unusedVariables false
set_option linter.unusedSimpArgs false

theorem Sl.keeps {w w' : World} {lo hi g : Nat} {v : Value} {l : List Int} (h : Sl w lo hi v l) (hk : Keeps g w w') (hg : g < lo) : Sl w' lo hi v l := by
  rcases h.form with ⟨rfl, rfl⟩ | ⟨b, cap, rfl, ho, hlo, hhi⟩
  · exact Sl.nil _ _ _
  · exact Sl.of_own (ho.keeps hk (by omega)) hhi
/-- all blocks below lo but g are as they were -/
structure KeepsTo (lo g : Nat) (w w' : World) : Prop where
  below : Below g w w'
  other : ∀ b, b ≠ g → b < lo → w'.heap[b]? = w.heap[b]?
theorem Keeps.to {lo g : Nat} {w w' : World} (h : Keeps g w w') (hl : lo ≤ w.heap.size) : KeepsTo lo g w w' := ⟨h.below, fun b hb hs => h.other b hb (by omega)⟩
theorem KeepsTo.step {lo g : Nat} {w u u' : World} (h : KeepsTo lo g w u) (k : Below lo u u') (hg : g < lo) : KeepsTo lo g w u' := ⟨h.below.trans (k.mono (by omega)), fun b hb hs => (k.block b hs).trans (h.other b hb hs)⟩
theorem KeepsTo.trans {lo g : Nat} {w u u' : World} (h : KeepsTo lo g w u) (k : KeepsTo lo g u u') : KeepsTo lo g w u' := ⟨h.below.trans k.below, fun b hb hs => (k.other b hb hs).trans (h.other b hb hs)⟩
theorem KeepsTo.keeps {lo g : Nat} {w u u' : World} (h : Keeps g w u) (k : KeepsTo lo g u u') (hl : w.heap.size ≤ lo) : Keeps g w u' := ⟨h.below.trans k.below, fun b hb hs => (k.other b hb (by omega)).trans (h.other b hb hs)⟩
theorem KeepsTo.size {lo g : Nat} {w w' : World} (h : KeepsTo lo g w w') : w.heap.size ≤ w'.heap.size := h.below.size
theorem Sl.up {w w' : World} {lo : Nat} {v : Value} {l : List Int} (h : Sl w' lo w.heap.size v l) (hs : w.heap.size ≤ w'.heap.size) : Sl w' lo w'.heap.size v l := h.mono (Nat.le_refl _) hs
set_option maxHeartbeats 2000000 in
theorem l4Some_any (B g lim most : Nat) (w : World) (hr : Rd w B g lim) (hlim : lim ≤ 5000) (hm : most ≤ 50) :
    Calls Try.prog 57 #[.pointer (some ⟨g, 0, none⟩), .int .i64 (most : Int)] w fun e w' => ∃ v z, e = .returned v ∧ (Sl w' w.heap.size w'.heap.size v z ∧ z.length ≤ most) ∧ Rd w' B g (lim + 100) ∧ Keeps g w w' := by
  have hg := hr.lt
  have h0 := sl_empty (w := w)
  have hk := (Keeps.refl g w).step ((Below.refl w.heap.size w).alloc (Nat.le_refl _) (.cells #[] 3)) hg.2
  have H0 := Lib.hid h0
  have HK := Lib.hid hk
  clear h0 hk
  go_enter Try.func57, Try.ntmps57
  go_wp2_with fail
  refine (pick_any B g lim _ _ (hr.alloc _) (by omega) (by omega) (by omega)).mono ?_
  rintro e w1 ⟨k, rfl, hx, hr1, hk1⟩
  have hkm : k ≤ most := by have := hx.1 (by omega); omega
  have H1 := Lib.hid ((H0.out.keeps hk1 (by omega)).up hk1.size)
  have HK1 := Lib.hid (HK.out.trans hk1)
  have HR1 := Lib.hid hr1
  clear hx hr1 hk1 hr H0 HK
  go_wp2
  go_loopw [5, 6] (fun v i wr => ∃ (k : Nat) (z : List Int), i = .int .i64 (k : Int) ∧ z.length + k ≤ most ∧ Sl wr w.heap.size wr.heap.size v z ∧ Rd wr B g (lim + 1 + z.length) ∧ Keeps g w wr) (fun _ i _ => (intOf i).toNat)
  case atStart => exact ⟨k, [], rfl, by simpa using hkm, H1.out, HR1.out, HK1.out⟩
  case round =>
    clear H1 HR1 HK1 hkm
    obtain ⟨k, z, rfl, hz, hs, hr, hk⟩ := hrel
    by_cases hlt : 0 < k
    · go_wp2_with fail
      refine (pick_any B g _ _ _ hr (by omega) (by omega) (by omega)).mono ?_
      rintro e u ⟨x, rfl, hx, hr1, hk1⟩
      have hx21 : x < 21 := by have := hx.1 (by omega); omega
      have hs1 := (hs.keeps hk1 (by omega)).up hk1.size
      have hk2 := hk.trans hk1
      clear hx hs hr hk hk1
      have hs2 := Lib.hid (hs1.below ((Below.refl u.heap.size u).alloc (Nat.le_refl _) (.cells #[.int .i64 ((x : Int) - 10)] 3)) (Nat.le_refl _) |>.mono (Nat.le_refl _) (show u.heap.size ≤ (u.alloc (.cells #[.int .i64 ((x : Int) - 10)] 3)).heap.size by simp))
      have hb2 := Lib.hid ((Below.refl u.heap.size u).alloc (Nat.le_refl _) (.cells #[.int .i64 ((x : Int) - 10)] 3) |>.mono hk2.size)
      have HK2 := Lib.hid hk2
      have HR2 := Lib.hid hr1
      clear hs1 hk2 hr1
      go_wp2_with (at_builtin; go_must (refine appSl (w0 := u) rfl _ _ rfl w.heap.size _ z [(x : Int) - 10] (some ⟨u.heap.size, 0, none⟩) 1 1 rfl rfl rfl hs2.out ⟨_, rfl, fun i hi => by simp at hi; subst hi; simp [Addr.add]⟩ hb2.out HK2.out.size (by simp; omega) ?_); intro v2 w2 hs3 hb3)
      have hr3 := HR2.out.below' hb3 hg.2
      have HK3 := Lib.hid (HK2.out.step hb3 hg.2)
      clear hs2 hb2 HR2 HK2 hb3
      go_wp2
      go_roundw
      case rel => exact ⟨k - 1, z ++ [(x : Int) - 10], by congr 1; omega, by simp; omega, hs3, hr3.mono (by simp; omega), HK3.out⟩
      case measure => simp [intOf]; omega
    · go_wp2
      go_ret
      exact ⟨_, z, rfl, ⟨hs, by omega⟩, hr.mono (by omega), hk⟩
set_option maxHeartbeats 2000000 in
theorem l4Bad_any (B g lim lo : Nat) (v : Value) (z : List Int) (w : World) (hr : Rd w B g lim) (hlim : lim ≤ 5000) (hs : Sl w lo w.heap.size v z) (hlo : lo ≤ w.heap.size) (hgl : g < lo) (hz : z.length ≤ 10000) :
    Calls Try.prog 56 #[.pointer (some ⟨g, 0, none⟩), v] w fun e w' => ∃ v' z', e = .returned v' ∧ (Sl w' lo w'.heap.size v' z' ∧ z'.length ≤ 10001) ∧ Rd w' B g (lim + 10) ∧ KeepsTo lo g w w' := by
  have hg := hr.lt
  have hk := Keeps.refl g w
  have HS := Lib.hid hs
  clear hs
  go_enter Try.func56, Try.ntmps56
  go_wp2_with fail
  refine (pick_any B g lim _ _ hr (by omega) (by omega) (by omega)).mono ?_
  rintro e u13 ⟨k, rfl, hx, hr', hk'⟩
  replace hk := hk.trans hk'
  clear hk' hr
  have hr := hr'
  clear hr'
  have HS1 := Lib.hid ((HS.out.keeps hk hgl).up hk.size)
  clear hx HS
  by_cases h0 : k = 0
  · subst h0
    go_wp2_with fail
    refine (num_lit B g _ [1000000, 1000001, -1000001, 9223372036854775807] _ _ _ hr (by omega) rfl (by simp) (by simp)).mono ?_
    rintro e u ⟨x, hx, rfl, hr1, hk1⟩
    have hs1 := (HS1.out.keeps hk1 hgl).up hk1.size
    have hk2 := hk.trans hk1
    clear hx hr hk hk1 HS1
    have hs2 := Lib.hid (hs1.below ((Below.refl u.heap.size u).alloc (Nat.le_refl _) (.cells #[.int .i64 x] 3)) (Nat.le_refl _) |>.mono (Nat.le_refl _) (show u.heap.size ≤ (u.alloc (.cells #[.int .i64 x] 3)).heap.size by simp))
    have hb2 := Lib.hid ((Below.refl u.heap.size u).alloc (Nat.le_refl _) (.cells #[.int .i64 x] 3) |>.mono (Nat.le_trans hlo hk2.size))
    have HK2 := Lib.hid hk2
    have HR2 := Lib.hid hr1
    clear hs1 hk2 hr1
    go_wp2_with (at_builtin; go_must (refine appSl (w0 := u) rfl _ _ rfl lo _ z [x] (some ⟨u.heap.size, 0, none⟩) 1 1 rfl rfl rfl hs2.out ⟨_, rfl, fun i hi => by simp at hi; subst hi; simp [Addr.add]⟩ hb2.out (Nat.le_trans hlo HK2.out.size) (by simp; omega) ?_); intro v2 w2 hs3 hb3)
    go_ret
    exact ⟨_, _, rfl, ⟨hs3, by simp; omega⟩, (HR2.out.below' hb3 hgl).mono (by omega), (HK2.out.to hlo).step hb3 hgl⟩
  have b0 : ((k : Int) == 0) = false := by simpa using h0
  by_cases h1 : k = 1
  · subst h1
    go_wp2_with fail
    refine (num_lit B g _ [3000, 3001] _ _ _ hr (by omega) rfl (by simp) (by simp)).mono ?_
    rintro e u ⟨x, hx, rfl, hr1, hk1⟩
    obtain ⟨n, rfl, hn⟩ : ∃ n : Nat, x = (n : Int) ∧ n ≤ 3001 := by refine ⟨x.toNat, ?_, ?_⟩ <;> (simp at hx; omega)
    have hk2 := hk.trans hk1
    have hmk := run_make_row' (P := Try.prog) 23 3 (.int .i64 0) 8 Try.underlying23 info_int rfl .i64 .i64 n (by omega) (by omega) u
    have hrow := World.rowIs_made u (.int .i64 0) n 3
    have hsl := Lib.hid (sl_of_row (w' := u.alloc (.cells (madeCells #[.int .i64 0] n) 3)) (lo := lo) (f := fun _ => 0) (hrow.congr (fun j hj => by rw [if_pos hj]; rfl)) (Nat.le_trans hlo hk2.size) (by omega))
    have HR1 := Lib.hid (hr1.alloc (.cells (madeCells #[.int .i64 0] n) 3))
    have HK2 := Lib.hid (hk2.after ((Below.refl _ _).alloc (Nat.le_refl _) (.cells (madeCells #[.int .i64 0] n) 3)))
    clear hx hr hk hk1 hrow hr1 hk2
    go_wp2
    go_ret
    exact ⟨_, _, rfl, ⟨hsl.out, by simp; omega⟩, HR1.out.mono (by omega), HK2.out.to hlo⟩
  have b1 : ((k : Int) == 1) = false := by simp; omega
  go_wp2
  go_ret
  exact ⟨v, z, rfl, ⟨HS1.out, by omega⟩, hr.mono (by omega), hk.to hlo⟩
end Go.Proofs.Ytiiiaeemblcniaa
