/- Weak contracts of the small functions that draw: numbers and strings of a list, strings of bits. -/
import Derived.Test.YtiiiaeemblcniaaDraw
import Derived.Test.YtiiiaeemblcniaaHamD
namespace Go.Proofs.Ytiiiaeemblcniaa
set_option maxRecDepth 20000
open Go.ChangeShapes Go.WideShapes Go.ChangeAt Go.RowKit
set_option linter.unusedVariables false
set_option linter.unusedSimpArgs false

theorem rd_lt {w : World} {x : Addr} {j : Nat} {v : Value} (h : w.cell? (x.add j) = some v) : x.block < w.heap.size := by
  rcases Nat.lt_or_ge (x.add j).block w.heap.size with h1 | h1
  · rwa [add_block] at h1
  · simp [World.cell?, Array.getElem?_eq_none h1] at h
theorem isRow_rd {w : World} {a : Option Addr} {len cap : Nat} {zs : List Int} (h : IsRow .u8 w a len cap zs) : ∃ f : Nat → Nat, len ≤ cap ∧ len ≤ maxLen ∧ (∀ j, f j ≤ 255) ∧ (0 < len → ∃ ad, a = some ad ∧ ad.block < w.heap.size ∧ ∀ j, j < len → w.cell? (ad.add j) = some (.int .u8 (f j : Int))) := by
  rcases h with ⟨rfl, rfl, rfl, rfl⟩ | ⟨x, rfl, hlc, hcm, hz, hc, hw⟩
  · exact ⟨fun _ => 0, by simp, by simp, by simp, fun h => absurd h (by simp)⟩
  · have hr : ∀ j, j < zs.length → 0 ≤ zs.getD j 0 ∧ zs.getD j 0 ≤ 255 := fun j hj => by
      have := hw (zs.getD j 0) (by rw [List.getD_eq_getElem?_getD, List.getElem?_eq_getElem hj]; simp)
      simpa [Lit.wf, IntKind.min, IntKind.max, IntKind.signed, IntKind.bits] using this
    refine ⟨fun j => if j < zs.length then (zs.getD j 0).toNat else 0, hlc, by omega, fun j => ?_, fun hl => ⟨x, rfl, rd_lt (hc 0 (by omega)), fun j hj => ?_⟩⟩
    · show (if j < zs.length then (zs.getD j 0).toNat else 0) ≤ 255
      split
      · have := hr j ‹_›; omega
      · omega
    · rw [hc j (by omega)]
      have := hr j (by omega)
      show some (Value.int .u8 (zs.getD j 0)) = some (.int .u8 ((if j < zs.length then (zs.getD j 0).toNat else 0 : Nat) : Int))
      rw [if_pos (by omega), Int.toNat_of_nonneg this.1]
theorem rd_box {w : World} {a : Option Addr} {len cap : Nat} {f : Nat → Nat} (T : TypeId) (h6 : len ≤ 2000) (h8 : ∀ j, f j ≤ 255) (h9 : 0 < len → ∃ ad, a = some ad ∧ ad.block < w.heap.size ∧ ∀ j, j < len → w.cell? (ad.add j) = some (.int .u8 (f j : Int))) :
    Rd (w.alloc (.cells #[.slice a len cap, .int .i64 0] T)) w.heap.size w.heap.size 0 :=
  ⟨a, len, cap, 0, f, Nat.le_refl _, by simp, by simp, by simp, by simp, h6, Nat.le_refl _, h8, fun hl => by
    obtain ⟨ad, e, hB, hc⟩ := h9 hl
    exact ⟨ad, e, hB, fun j hj => by rw [((Below.refl w.heap.size w).alloc (Nat.le_refl _) _).cell (by rw [add_block]; omega)]; exact hc j hj⟩⟩
theorem open_any (a : Option Addr) (len cap : Nat) (zs : List Int) (w : World) (h : IsRow .u8 w a len cap zs) :
    Calls Try.prog 31 #[.slice a len cap] w fun e w' => e = .returned (.pointer (some ⟨w.heap.size, 0, none⟩)) ∧ Rd w' w.heap.size w.heap.size 0 ∧ Below w.heap.size w w' := by
  obtain ⟨f, hlc, hlm, h8, h9⟩ := isRow_rd h
  unfold maxLen at hlm
  by_cases hl : len ≤ 2000
  · have R := Lib.hid (rd_box (w := w) (cap := cap) 81 hl h8 h9)
    clear h9 h8 h
    go_enter Try.func31, Try.ntmps31
    go_wp2
    go_ret
    exact ⟨rfl, R.out, (Below.refl _ _).alloc (Nat.le_refl _) _⟩
  · have R := Lib.hid (rd_box (w := w) (a := a) (len := 2000) (cap := cap) 81 (Nat.le_refl _) h8 (fun _ => by obtain ⟨ad, e, hB, hc⟩ := h9 (by omega); exact ⟨ad, e, hB, fun j hj => hc j (by omega)⟩))
    obtain ⟨ad, rfl, _, _⟩ := h9 (by omega)
    clear h9 h8 h
    go_enter Try.func31, Try.ntmps31
    go_wp2
    go_ret
    exact ⟨rfl, R.out, (Below.refl _ _).alloc (Nat.le_refl _) _⟩
theorem num_lit (B g lim : Nat) (xs : List Int) (cs : Array Value) (T : TypeId) (w : World) (hr : Rd w B g lim) (hlim : lim ≤ 900000) (hcs : cs.toList = xs.map intV) (hx : 1 ≤ xs.length) (hx2 : xs.length ≤ 100) :
    Calls Try.prog 60 #[.pointer (some ⟨g, 0, none⟩), .slice (some ⟨w.heap.size, 0, none⟩) xs.length xs.length] (w.alloc (.cells cs T)) fun e w' => ∃ n ∈ xs, e = .returned (.int .i64 n) ∧ Rd w' B g (lim + 1) ∧ Keeps g w w' := by
  have hg := hr.lt
  have hz : cs.size = xs.length := by rw [← Array.length_toList, hcs, List.length_map]
  have hcell : Hid (∀ u : World, Keeps g (w.alloc (.cells cs T)) u → ∀ j, j < xs.length → u.cell? ⟨w.heap.size, j, none⟩ = some (.int .i64 (xs.getD j 0))) := Lib.hid fun u hu j hj => by
    rw [hu.cell (p := ⟨w.heap.size, j, none⟩) (by show w.heap.size ≠ g; omega) (by simp)]
    have h := (Own.lit (w := w) (B := 0) T cs xs.length (Nat.zero_le _) (by unfold maxLen; omega) hz).cell hj
    rw [h, hcs, intV_at xs j hj]
  have hk0 : Keeps g w (w.alloc (.cells cs T)) := (Keeps.refl g w).step ((Below.refl _ _).alloc (Nat.le_refl _) _) hg.2
  have HK := Lib.hid hk0
  have hmem : Hid (∀ j, j < xs.length → xs.getD j 0 ∈ xs) := Lib.hid fun j hj => by rw [List.getD_eq_getElem?_getD, List.getElem?_eq_getElem hj]; simp
  clear hk0 hcs hz
  go_enter Try.func60, Try.ntmps60
  go_wp2_with fail
  refine (pick_any B g lim _ _ (hr.alloc _) (by omega) (by omega) (by omega)).mono ?_
  rintro e w1 ⟨k, rfl, hk, hr1, hk1⟩
  have hlt : k < xs.length := by have := hk.1 (by omega); omega
  have hc := hcell.out w1 hk1 k hlt
  have HM := Lib.hid (hmem.out k hlt)
  have HR := Lib.hid (And.intro hr1 (HK.out.trans hk1))
  generalize xs.getD k 0 = x at hc HM
  clear hr1 hk1 hk hcell hmem
  go_wp2
  go_ret
  exact ⟨x, HM.out, rfl, HR.out⟩
theorem of_lit (B g lim : Nat) (xs : List ByteArray) (cs : Array Value) (T : TypeId) (w : World) (hr : Rd w B g lim) (hlim : lim ≤ 900000) (hcs : cs.toList = xs.map Value.string) (hx : 1 ≤ xs.length) (hx2 : xs.length ≤ 100) :
    Calls Try.prog 77 #[.pointer (some ⟨g, 0, none⟩), .slice (some ⟨w.heap.size, 0, none⟩) xs.length xs.length] (w.alloc (.cells cs T)) fun e w' => ∃ s ∈ xs, e = .returned (.string s) ∧ Rd w' B g (lim + 1) ∧ Keeps g w w' := by
  have hg := hr.lt
  have hz : cs.size = xs.length := by rw [← Array.length_toList, hcs, List.length_map]
  have hcell : Hid (∀ u : World, Keeps g (w.alloc (.cells cs T)) u → ∀ j (hj : j < xs.length), u.cell? ⟨w.heap.size, j, none⟩ = some (.string xs[j])) := Lib.hid fun u hu j hj => by
    rw [hu.cell (p := ⟨w.heap.size, j, none⟩) (by show w.heap.size ≠ g; omega) (by simp)]
    have h := (Own.lit (w := w) (B := 0) T cs xs.length (Nat.zero_le _) (by unfold maxLen; omega) hz).cell hj
    rw [h, hcs, List.getElem?_map, List.getElem?_eq_getElem hj]; rfl
  have HK := Lib.hid ((Keeps.refl g w).step ((Below.refl w.heap.size w).alloc (Nat.le_refl _) (.cells cs T)) hg.2)
  have hmem : Hid (∀ j (hj : j < xs.length), xs[j] ∈ xs) := Lib.hid fun j hj => List.getElem_mem hj
  clear hcs hz
  go_enter Try.func77, Try.ntmps77
  go_wp2_with fail
  refine (pick_any B g lim _ _ (hr.alloc _) (by omega) (by omega) (by omega)).mono ?_
  rintro e w1 ⟨k, rfl, hk, hr1, hk1⟩
  have hlt : k < xs.length := by have := hk.1 (by omega); omega
  have hc := hcell.out w1 hk1 k hlt
  have HM := Lib.hid (hmem.out k hlt)
  have HR := Lib.hid (And.intro hr1 (HK.out.trans hk1))
  generalize xs[k] = x at hc HM
  clear hr1 hk1 hk hcell hmem
  go_wp2
  go_ret
  exact ⟨x, HM.out, rfl, HR.out⟩
/-- at most N bits -/
def BitsN (N : Nat) (l : List UInt8) : Prop := l.length ≤ N ∧ ∀ c ∈ l, bit c
set_option maxHeartbeats 1000000 in
theorem l1String_any (B g lim most : Nat) (w : World) (hr : Rd w B g lim) (hlim : lim ≤ 900000) (hm : most ≤ 100) :
    Calls Try.prog 84 #[.pointer (some ⟨g, 0, none⟩), .int .i64 (most : Int)] w fun e w' => ∃ l, e = .returned (.string (str l)) ∧ BitsN most l ∧ Rd w' B g (lim + 200) ∧ Keeps g w w' := by
  have hg := hr.lt
  have hmk : ∀ u : World, (Instr.makeSlice 22 (.int .i64 0) (.int .i64 (most : Int))).run Try.prog u = .ok (.slice (some ⟨u.heap.size, 0, none⟩) 0 most) (u.alloc (.cells (madeCells #[.int .u8 0] most) 5)) := fun u => run_make0 Try.underlying22 info_u8 rfl most (by omega) (by omega) u
  have h0 := Own.made (w := w) (B := w.heap.size) 5 (madeCells #[.int .u8 0] most) most (Nat.le_refl _) (by unfold maxLen; omega) (size_madeCells _ _)
  have hk := (Keeps.refl g w).step ((Below.refl w.heap.size w).alloc (Nat.le_refl _) (.cells (madeCells #[.int .u8 0] most) 5)) hg.2
  have h00 := Lib.hid h0
  have hk0 := Lib.hid hk
  clear h0 hk
  go_enter Try.func84, Try.ntmps84
  go_wp2_with fail
  refine (pick_any B g lim _ _ (hr.alloc _) (by omega) (by omega) (by omega)).mono ?_
  rintro e w1 ⟨k, rfl, hk, hr1, hk1⟩
  have hlt : k ≤ most := by have := hk.1 (by omega); omega
  have HO := Lib.hid (h00.out.keeps hk1 (by omega))
  have HK := Lib.hid (hk0.out.trans hk1)
  clear hk hk1 hmk h00 hk0 hr
  go_wp2
  go_loopw [5, 6] (fun v i wr => ∃ (k g' cap : Nat) (l : List UInt8), i = .int .i64 (k : Int) ∧ v = .slice (some ⟨g', 0, none⟩) l.length cap ∧ l.length + k ≤ most ∧ (∀ c ∈ l, bit c) ∧ Own wr w.heap.size 5 g' l.length cap (l.map byteV) ∧ Rd wr B g (lim + 1 + l.length) ∧ Keeps g w wr) (fun _ i _ => (intOf i).toNat)
  case atStart => exact ⟨k, w.heap.size, most, [], rfl, rfl, by simpa using hlt, by simp, HO.out, hr1, HK.out⟩
  case round =>
    clear hr1 HO HK hlt
    obtain ⟨k, g', cap, l, rfl, rfl, hle, hbits, hown, hr, hk⟩ := hrel
    have HB := Lib.hid hbits
    clear hbits
    by_cases hlt : 0 < k
    · go_wp2_with fail
      refine (pick_any B g _ _ _ hr (by omega) (by omega) (by omega)).mono ?_
      rintro e u ⟨x, rfl, hx, hr1, hk1⟩
      have hx2 : x < 2 := by have := hx.1 (by omega); omega
      have hown1 := hown.keeps hk1 (by have := hown.lt; omega)
      have hk2 := hk.trans hk1
      clear hx hown hr hk hk1
      obtain ⟨c, hcb, hcv⟩ : ∃ c : UInt8, bit c ∧ (48 + (x : Int)) = (c.toNat : Int) := by
        rcases (show x = 0 ∨ x = 1 by omega) with rfl | rfl
        · exact ⟨48, .inl rfl, rfl⟩
        · exact ⟨49, .inr rfl, rfl⟩
      have hcr : 48 ≤ (c.toNat : Int) ∧ (c.toNat : Int) ≤ 49 := by omega
      obtain ⟨hc1, hc2⟩ := hcr
      have HK2 := Lib.hid hk2
      have HCB := Lib.hid hcb
      clear hcb
      clear hk2
      go_wp2_with (at_builtin; refine app1 (w0 := u) (v := .int .u8 (c.toNat : Int)) 22 5 Try.underlying22 info_u8 rfl rfl _ _ rfl w.heap.size g' l.length cap _ rfl rfl hown1 (Below.refl _ _) HK2.out.size rfl (by omega) (by unfold maxLen; omega) ?_; intro g2 cap2 w2 hown2 hb2)
      have hr2 := hr1.below' hb2 hg.2
      have HK3 := Lib.hid (HK2.out.step hb2 hg.2)
      clear hown1 hr1 hb2 HK2
      go_wp2
      go_roundw
      case rel => exact ⟨k - 1, g2, cap2, l ++ [c], by congr 1; omega, by simp, by simp; omega, by
        intro d hd
        rcases List.mem_append.1 hd with h | h
        · exact HB.out d h
        · simp at h; subst h; exact HCB.out, by simpa [byteV] using hown2, hr2.mono (by simp; omega), HK3.out⟩
      case measure => simp [intOf]; omega
    · obtain rfl : k = 0 := by omega
      have hconv := conv_own (P := Try.prog) (src := 22) (dst := 9) l rfl hown Try.underlying22 Try.underlying5 Try.underlying9
      clear hown
      go_wp2
      go_ret
      exact ⟨l, rfl, ⟨by omega, HB.out⟩, hr.mono (by omega), hk⟩
end Go.Proofs.Ytiiiaeemblcniaa
