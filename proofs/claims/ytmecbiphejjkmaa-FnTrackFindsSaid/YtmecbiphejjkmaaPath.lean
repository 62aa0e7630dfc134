/- Contracts of TrackPath. -/
import Derived.Test.YtmecbiphejjkmaaStep
import Derived.Test.YtmecbiphejjkmaaTable
namespace Go.Proofs.Ytmecbiphejjkmaa
set_option maxRecDepth 20000
open Go.ChangeShapes Go.WideShapes Go.ChangeAt Go.RowKit
set_option linter.unusedVariables false
set_option linter.unusedSimpArgs false

/-- the offset of a tracking loop after k steps -/
def trkIt (z : List Int) (l : List UInt8) (m off : Nat) : Nat → Nat
  | 0 => off
  | k + 1 => trkN z l m (trkIt z l m off k)
theorem trkIt_lt {z : List Int} {l : List UInt8} {m off : Nat} (h : off < l.length * m) (k : Nat) : trkIt z l m off k < l.length * m := by
  induction k with
  | zero => exact h
  | succ k ih => exact trkN_lt ih
def pathL (z : List Int) (s : ByteArray) (n x p : Int) : List Int := if sigOK z && offOK s n x && inB p 0 200 then (List.range (p.toNat + 1)).map fun k => (trkIt z s.data.toList n.toNat x.toNat k : Int) else []
theorem pathL_ns {z : List Int} {s : ByteArray} {n x p : Int} (h : sigOK z = false) : pathL z s n x p = [] := by simp [pathL, h]
theorem pathL_no {z : List Int} {s : ByteArray} {n x p : Int} (h : offOK s n x = false) : pathL z s n x p = [] := by simp [pathL, h]
theorem pathL_np {z : List Int} {s : ByteArray} {n x p : Int} (h : inB p 0 200 = false) : pathL z s n x p = [] := by simp [pathL, h]
theorem pathL_yes {z : List Int} {s : ByteArray} {m off p : Nat} (h : sigOK z = true) (h' : offOK s (m : Int) (off : Int) = true) (h'' : inB (p : Int) 0 200 = true) :
    pathL z s (m : Int) (off : Int) (p : Int) = (List.range (p + 1)).map fun k => (trkIt z s.data.toList m off k : Int) := by simp [pathL, h, h', h'']
theorem pathL_len (z : List Int) (s : ByteArray) (n x p : Int) : (pathL z s n x p).length ≤ 201 := by
  unfold pathL
  split
  · rename_i h
    simp only [Bool.and_eq_true, inB, decide_eq_true_eq] at h
    simp; omega
  · simp
theorem off_ok {s : ByteArray} {m off : Nat} (hp : pilotOK s.data.toList (m : Int) = true) (h : off < s.size * m) : offOK s (m : Int) (off : Int) = true := by
  have e : (s.size : Int) * (m : Int) = ((s.size * m : Nat) : Int) := by simp
  rw [off_in hp, e]
  exact inB_yes (by omega) (by omega)
theorem range_snocF (f : Nat → Int) (k : Nat) : ((List.range k).map f).map intV ++ [.int .i64 (f k)] = ((List.range (k + 1)).map f).map intV := by
  rw [List.range_succ, List.map_append, List.map_append]; rfl
set_option maxHeartbeats 1000000 in
theorem pathI_any (A : Option Addr) (c : Nat) (z : List Int) (s : ByteArray) (n x p : Int) (w : World) (hr : Reads w w.heap.size A z) (hl : z.length ≤ 1048576) (hs : s.size ≤ maxLen) :
    Calls Try.prog 25 #[.slice A z.length c, .agg #[.string s, .int .i64 n], .int .i64 x, .int .i64 p] w (RetL (pathL z s n x p) w) := by
  have HR := Lib.hid hr
  cases hz : sigOK z
  · rw [pathL_ns hz]
    clear hr
    go_enter Try.func25, Try.ntmps25
    have hb := Below.refl (w.alloc (.cells #[.string s, .int .i64 n] 25)).heap.size (w.alloc (.cells #[.string s, .int .i64 n] 25))
    go_wp2_with fail
    refine (sigI_any _ _ _ _ (reads_up HR.out hb) hl).mono ?_
    rintro e w' ⟨rfl, rfl⟩
    go_wp2
    go_ret
    exact RetL.mk (Sl.nil _ _ _) (below_out hb)
  · cases ho : offOK s n x
    · rw [pathL_no ho]
      clear hr
      go_enter Try.func25, Try.ntmps25
      have hb := Below.refl (w.alloc (.cells #[.string s, .int .i64 n] 25)).heap.size (w.alloc (.cells #[.string s, .int .i64 n] 25))
      go_wp2_with fail
      refine (sigI_any _ _ _ _ (reads_up HR.out hb) hl).mono ?_
      rintro e w' ⟨rfl, rfl⟩
      go_wp2_with fail
      refine (isOff_any _ _ _ _ hs).mono ?_
      rintro e w1 ⟨rfl, k⟩
      replace hb := below_next hb k
      clear k
      (try clear hc hf)
      obtain ⟨hc, hf⟩ := bcell hb
      go_wp2
      go_ret
      exact RetL.mk (Sl.nil _ _ _) (below_out hb)
    · by_cases hp0 : 0 ≤ p
      · have d1 : decide (p < 0) = false := decide_eq_false (by omega)
        by_cases hp2 : p ≤ 200
        · have d2 : decide ((200 : Int) < p) = false := decide_eq_false (by omega)
          obtain ⟨m, off, rfl, rfl, hp, h0, h1, h2, h3, h4, h5⟩ := off_nat ho
          obtain ⟨p, rfl⟩ : ∃ q : Nat, p = q := ⟨p.toNat, by omega⟩
          rw [pathL_yes hz ho (inB_yes hp0 hp2)]
          have HST : Hid (∀ (q : Nat) (u : World), q < s.size * m → Below (w.alloc (.cells #[.string s, .int .i64 (m : Int)] 25)).heap.size (w.alloc (.cells #[.string s, .int .i64 (m : Int)] 25)) u → Calls Try.prog 28 #[.slice A z.length c, .agg #[.string s, .int .i64 (m : Int)], .int .i64 q] u fun e w' => e = .returned (.int .i64 (trkN z s.data.toList m q : Int)) ∧ Below u.heap.size u w') := fun q u hq hu =>
            trackI_core A c z s m q u (reads_up hr hu) hz (off_ok hp hq) hs
          have HTL : Hid (∀ k, trkIt z s.data.toList m off k < s.size * m) := fun k => by have := trkIt_lt (z := z) (l := s.data.toList) (m := m) (off := off) (by rw [data_length]; exact h0) k; rwa [data_length] at this
          clear hr
          go_enter Try.func25, Try.ntmps25
          have hb := Below.refl (w.alloc (.cells #[.string s, .int .i64 (m:Int)] 25)).heap.size (w.alloc (.cells #[.string s, .int .i64 (m:Int)] 25))
          go_wp2_with fail
          refine (sigI_any _ _ _ _ (reads_up HR.out hb) hl).mono ?_
          rintro e w' ⟨rfl, rfl⟩
          go_wp2_with fail
          refine (isOff_any _ _ _ _ hs).mono ?_
          rintro e w1 ⟨rfl, k⟩
          replace hb := below_next hb k
          clear k
          (try clear hc hf)
          obtain ⟨hc, hf⟩ := bcell hb
          clear hc hf
          go_wp2
          go_loopw [2, 9, 30] (fun q v i wr => ∃ k g cap : Nat, k ≤ p ∧ i = .int .i64 k ∧ q = .int .i64 (trkIt z s.data.toList m off k) ∧ v = .slice (some ⟨g, 0, none⟩) (k + 1) cap ∧ Own wr (w.alloc (.cells #[.string s, .int .i64 (m : Int)] 25)).heap.size 3 g (k + 1) cap (((List.range (k + 1)).map fun k => (trkIt z s.data.toList m off k : Int)).map intV) ∧ Below (w.alloc (.cells #[.string s, .int .i64 (m : Int)] 25)).heap.size (w.alloc (.cells #[.string s, .int .i64 (m : Int)] 25)) wr) (fun _ _ i _ => p - (intOf i).toNat)
          case atStart => exact ⟨0, w1.heap.size, 1, Nat.zero_le _, rfl, rfl, rfl, (Own.lit (w := w1) (B := (w.alloc (.cells #[.string s, .int .i64 (m : Int)] 25)).heap.size) 3 #[.int .i64 (off : Int)] 1 hb.size (by unfold maxLen; omega) rfl), hb.alloc hb.size _⟩
          case round =>
            clear hb d1 d2
            obtain ⟨k, g, cap, hk, rfl, rfl, rfl, hown, hb⟩ := hrel
            by_cases hlt : k < p
            · obtain ⟨hc, hf⟩ := bcell hb
              have HN := Lib.hid (range_snocF (fun k => (trkIt z s.data.toList m off k : Int)) (k + 1))
              have htl := HTL.out k
              have HTN : Hid (trkIt z s.data.toList m off (k + 1) = trkN z s.data.toList m (trkIt z s.data.toList m off k)) := rfl
              go_wp2_with fail
              refine (HST.out _ _ htl hb).mono ?_
              rintro e w3 ⟨rfl, k3⟩
              replace hown := hown.below k3 hown.lt.2
              replace hb := below_next hb k3
              rw [← HTN.out]
              clear hc hf k3
              go_wp2_with (at_builtin; refine app1 23 3 Try.underlying23 info_int rfl rfl _ _ rfl (w.alloc (.cells #[.string s, .int .i64 (m : Int)] 25)).heap.size g (k + 1) cap _ _ rfl rfl hown hb (Nat.le_refl _) rfl (by omega) (by unfold maxLen; omega) ?_; intro g' cap' w' hown' hb')
              rw [HN.out] at hown'
              clear hown hb
              go_wp2
              go_roundw
              case rel => exact ⟨k + 1, g', cap', by omega, by go_num, rfl, rfl, hown', hb'⟩
              case measure => simp [intOf]; omega
            · obtain rfl : k = p := by omega
              go_wp2
              go_ret
              exact RetL.mk (Sl.of_own (hown.mono (by simp)) hown.lt.2) (below_out hb)
        · have d2 : decide ((200 : Int) < p) = true := decide_eq_true (by omega)
          rw [pathL_np (inB_no (by omega))]
          clear hr
          go_enter Try.func25, Try.ntmps25
          have hb := Below.refl (w.alloc (.cells #[.string s, .int .i64 n] 25)).heap.size (w.alloc (.cells #[.string s, .int .i64 n] 25))
          go_wp2_with fail
          refine (sigI_any _ _ _ _ (reads_up HR.out hb) hl).mono ?_
          rintro e w' ⟨rfl, rfl⟩
          go_wp2_with fail
          refine (isOff_any _ _ _ _ hs).mono ?_
          rintro e w1 ⟨rfl, k⟩
          replace hb := below_next hb k
          clear k
          (try clear hc hf)
          obtain ⟨hc, hf⟩ := bcell hb
          go_wp2
          go_ret
          exact RetL.mk (Sl.nil _ _ _) (below_out hb)
      · have d1 : decide (p < 0) = true := decide_eq_true (by omega)
        rw [pathL_np (inB_no (by omega))]
        clear hr
        go_enter Try.func25, Try.ntmps25
        have hb := Below.refl (w.alloc (.cells #[.string s, .int .i64 n] 25)).heap.size (w.alloc (.cells #[.string s, .int .i64 n] 25))
        go_wp2_with fail
        refine (sigI_any _ _ _ _ (reads_up HR.out hb) hl).mono ?_
        rintro e w' ⟨rfl, rfl⟩
        go_wp2_with fail
        refine (isOff_any _ _ _ _ hs).mono ?_
        rintro e w1 ⟨rfl, k⟩
        replace hb := below_next hb k
        clear k
        (try clear hc hf)
        obtain ⟨hc, hf⟩ := bcell hb
        go_wp2
        go_ret
        exact RetL.mk (Sl.nil _ _ _) (below_out hb)
set_option maxHeartbeats 1000000 in
theorem pathS_any (A : Option Addr) (c : Nat) (z : List Int) (s : ByteArray) (n x p : Int) (w : World) (hr : Reads w w.heap.size A z) (hl : z.length ≤ 1048576) (hs : s.size ≤ maxLen) :
    Calls Try.prog 27 #[.slice A z.length c, .agg #[.string s, .int .i64 n], .int .i64 x, .int .i64 p] w (RetL (pathL z s n x p) w) := by
  have HR := Lib.hid hr
  have HO : Hid (∀ n : Int, Own ((w.alloc (.cells #[.string s, .int .i64 n] 25)).alloc (.cells #[] 3)) (w.heap.size + 1) 3 (w.heap.size + 1) 0 0 []) := fun n => by
    have := Own.lit (w := w.alloc (.cells #[.string s, .int .i64 n] 25)) (B := (w.alloc (.cells #[.string s, .int .i64 n] 25)).heap.size) 3 #[] 0 (Nat.le_refl _) (by unfold maxLen; omega) rfl
    rw [alloc_size] at this
    exact this
  cases hrd : (sigOK z && pilotOK s.data.toList n)
  · have hno : pathL z s n x p = [] := by
      rw [Bool.and_eq_false_iff] at hrd
      rcases hrd with h | h
      · exact pathL_ns h
      · exact pathL_no (off_inv h)
    rw [hno]
    clear hno hr
    go_enter Try.func27, Try.ntmps27
    have hb := (Below.refl (w.alloc (.cells #[.string s, .int .i64 n] 25)).heap.size (w.alloc (.cells #[.string s, .int .i64 n] 25))).alloc (Nat.le_refl _) (.cells #[] 3)
    have ho := HO.out n
    go_wp2_with fail
    refine (readyS_any _ _ _ _ _ _ (reads_up HR.out hb) hl hs).mono ?_
    rintro e w1 ⟨rfl, k⟩
    replace ho := ho.below k ho.lt.2
    replace hb := below_next hb k
    go_wp2
    go_ret
    exact RetL.mk (Sl.of_own (l := []) (ho.mono (by omega)) ho.lt.2) (below_out hb)
  · have hrd2 := hrd
    rw [Bool.and_eq_true] at hrd2
    obtain ⟨hz, hp⟩ := hrd2
    cases hox : offOK s n x
    · rw [pathL_no hox]
      clear hr
      go_enter Try.func27, Try.ntmps27
      have hb := (Below.refl (w.alloc (.cells #[.string s, .int .i64 n] 25)).heap.size (w.alloc (.cells #[.string s, .int .i64 n] 25))).alloc (Nat.le_refl _) (.cells #[] 3)
      have ho := HO.out n
      go_wp2_with fail
      refine (readyS_any _ _ _ _ _ _ (reads_up HR.out hb) hl hs).mono ?_
      rintro e w1 ⟨rfl, k⟩
      replace ho := ho.below k ho.lt.2
      replace hb := below_next hb k
      obtain ⟨hc, hf⟩ := bcell hb
      go_wp2_with fail
      refine (l5Off_any _ _ _ _ hp).mono ?_
      rintro e w2 ⟨rfl, k2⟩
      replace ho := ho.below k2 ho.lt.2
      replace hb := below_next hb k2
      go_wp2
      go_ret
      exact RetL.mk (Sl.of_own (l := []) (ho.mono (by omega)) ho.lt.2) (below_out hb)
    · cases hi : inB p 0 200
      · rw [pathL_np hi]
        clear hr
        go_enter Try.func27, Try.ntmps27
        have hb := (Below.refl (w.alloc (.cells #[.string s, .int .i64 n] 25)).heap.size (w.alloc (.cells #[.string s, .int .i64 n] 25))).alloc (Nat.le_refl _) (.cells #[] 3)
        have ho := HO.out n
        go_wp2_with fail
        refine (readyS_any _ _ _ _ _ _ (reads_up HR.out hb) hl hs).mono ?_
        rintro e w1 ⟨rfl, k⟩
        replace ho := ho.below k ho.lt.2
        replace hb := below_next hb k
        obtain ⟨hc, hf⟩ := bcell hb
        go_wp2_with fail
        refine (l5Off_any _ _ _ _ hp).mono ?_
        rintro e w2 ⟨rfl, k2⟩
        replace ho := ho.below k2 ho.lt.2
        replace hb := below_next hb k2
        go_wp2_with fail
        refine (l1In_any _ _ _ _).mono ?_
        rintro e w' ⟨rfl, rfl⟩
        go_wp2
        go_ret
        exact RetL.mk (Sl.of_own (l := []) (ho.mono (by omega)) ho.lt.2) (below_out hb)
      · have hi2 := hi
        simp only [inB, Bool.and_eq_true, decide_eq_true_eq] at hi2
        obtain ⟨p, rfl⟩ : ∃ q : Nat, p = q := ⟨p.toNat, by omega⟩
        obtain ⟨m, off, rfl, rfl, _, h0, h1, h2, h3, h4, h5⟩ := off_nat hox
        rw [pathL_yes hz hox hi]
        have HST : Hid (∀ (q : Nat) (u : World), q < s.size * m → Below (w.alloc (.cells #[.string s, .int .i64 (m : Int)] 25)).heap.size (w.alloc (.cells #[.string s, .int .i64 (m : Int)] 25)) u → Calls Try.prog 53 #[.slice A z.length c, .agg #[.string s, .int .i64 (m : Int)], .int .i64 q] u fun e w' => e = .returned (.int .i64 (trkN z s.data.toList m q : Int)) ∧ Below u.heap.size u w') := fun q u hq hu =>
          l5stepS_any A c z s m q u (reads_up hr hu) hz (off_ok hp hq)
        have HTL : Hid (∀ k, trkIt z s.data.toList m off k < s.size * m) := fun k => by have := trkIt_lt (z := z) (l := s.data.toList) (m := m) (off := off) (by rw [data_length]; exact h0) k; rwa [data_length] at this
        clear hr
        go_enter Try.func27, Try.ntmps27
        have hb := (Below.refl (w.alloc (.cells #[.string s, .int .i64 (m : Int)] 25)).heap.size (w.alloc (.cells #[.string s, .int .i64 (m : Int)] 25))).alloc (Nat.le_refl _) (.cells #[] 3)
        have ho := HO.out (m : Int)
        go_wp2_with fail
        refine (readyS_any _ _ _ _ _ _ (reads_up HR.out hb) hl hs).mono ?_
        rintro e w1 ⟨rfl, k⟩
        replace ho := ho.below k ho.lt.2
        replace hb := below_next hb k
        obtain ⟨hc, hf⟩ := bcell hb
        go_wp2_with fail
        refine (l5Off_any _ _ _ _ hp).mono ?_
        rintro e w2 ⟨rfl, k2⟩
        replace ho := ho.below k2 ho.lt.2
        replace hb := below_next hb k2
        clear hc hf
        go_wp2_with fail
        refine (l1In_any _ _ _ _).mono ?_
        rintro e w' ⟨rfl, rfl⟩
        go_wp2
        clear hrd hi
        go_loopw [2, 9, 10] (fun q v i wr => ∃ k g cap : Nat, k ≤ p + 1 ∧ i = .int .i64 k ∧ q = .int .i64 (trkIt z s.data.toList m off k) ∧ v = .slice (some ⟨g, 0, none⟩) k cap ∧ Own wr (w.alloc (.cells #[.string s, .int .i64 (m : Int)] 25)).heap.size 3 g k cap (((List.range k).map fun k => (trkIt z s.data.toList m off k : Int)).map intV) ∧ Below (w.alloc (.cells #[.string s, .int .i64 (m : Int)] 25)).heap.size (w.alloc (.cells #[.string s, .int .i64 (m : Int)] 25)) wr) (fun _ _ i _ => p + 1 - (intOf i).toNat)
        case atStart => exact ⟨0, w.heap.size + 1, 0, Nat.zero_le _, rfl, rfl, rfl, ho.mono (by simp), hb⟩
        case round =>
          clear hb ho k k2
          obtain ⟨k, g, cap, hk, rfl, rfl, rfl, hown, hb⟩ := hrel
          by_cases hlt : k ≤ p
          · have HN := Lib.hid (range_snocF (fun k => (trkIt z s.data.toList m off k : Int)) k)
            have htl := HTL.out k
            have HTN : Hid (trkIt z s.data.toList m off (k + 1) = trkN z s.data.toList m (trkIt z s.data.toList m off k)) := rfl
            go_wp2_with (at_builtin; refine app1 23 3 Try.underlying23 info_int rfl rfl _ _ rfl (w.alloc (.cells #[.string s, .int .i64 (m : Int)] 25)).heap.size g k cap _ _ rfl rfl hown hb (Nat.le_refl _) rfl (by omega) (by unfold maxLen; omega) ?_; intro g' cap' w' hown' hb'; obtain ⟨hc, hf⟩ := bcell hb')
            rw [HN.out] at hown'
            refine (HST.out _ _ htl hb').mono ?_
            rintro e w3 ⟨rfl, k3⟩
            replace hown' := hown'.below k3 hown'.lt.2
            replace hb' := below_next hb' k3
            rw [← HTN.out]
            clear hc hf k3 hown hb
            go_wp2
            go_roundw
            case rel => exact ⟨k + 1, g', cap', by omega, by go_num, rfl, rfl, hown', hb'⟩
            case measure => simp [intOf]; omega
          · obtain rfl : k = p + 1 := by omega
            go_wp2
            go_ret
            exact RetL.mk (Sl.of_own (hown.mono (by simp)) hown.lt.2) (below_out hb)
end Go.Proofs.Ytmecbiphejjkmaa
