/- Contracts of the small helpers of the laws: a changed bit, a sum, the reverse order, zeros. -/
import Derived.Test.YtmfblphnedoejaaDraw3
namespace Go.Proofs.Ytmfblphnedoejaa
set_option maxRecDepth 20000
open Go.ChangeShapes Go.WideShapes Go.ChangeAt Go.RowKit
set_option linter.unusedVariables false
set_option linter.unusedSimpArgs false

theorem inv1_97 {c : UInt8} (h : bit c) : (97 - (c.toNat : Int)) = ((inv1 c).toNat : Int) ∧ 48 ≤ (c.toNat : Int) ∧ (c.toNat : Int) ≤ 49 := by rcases h with h | h <;> rw [h] <;> decide
set_option maxHeartbeats 1000000 in
theorem ssFlip_any (l : List UInt8) (k : Nat) (w : World) (hl : l.length ≤ 1000000) (hk : k < l.length) (hb : bit (l.getD k 0)) :
    Calls Try.prog 24 #[.string (str l), .int .i64 (k : Int)] w fun e w' => e = .returned (.string (str (flipL l k))) ∧ Below w.heap.size w w' := by
  have z0 := str_size l
  obtain ⟨c, hce⟩ : ∃ c, c = l.getD k 0 := ⟨_, rfl⟩
  have HCE := Lib.hid hce
  rw [← hce] at hb
  obtain ⟨hi, hc1, hc2⟩ := inv1_97 hb
  have HI := Lib.hid hi
  clear hi hb hce
  have HCV : Hid (∀ (w1 : World) (bcap : Nat), bRow w1 w.heap.size 5 l.length (fun j => byteV (l.getD j 0)) → (convert 22 9 (.slice (some ⟨w.heap.size, 0, none⟩) l.length bcap)).run Try.prog (w1.setCell ⟨w.heap.size, k, none⟩ (.int .u8 (97 - (c.toNat : Int)))) = .ok (.string (str (flipL l k))) (w1.setCell ⟨w.heap.size, k, none⟩ (.int .u8 (97 - (c.toNat : Int))))) := Lib.hid fun w1 bcap hrow => by
    have hrow2 : bRow (w1.setCell ⟨w.heap.size, k, none⟩ (.int .u8 ((inv1 c).toNat : Int))) w.heap.size 5 l.length (fun j => byteV ((flipL l k).getD j 0)) := by
      refine (hrow.set k _).congr fun j hj => ?_
      by_cases e : j = k
      · subst e
        rw [if_pos rfl, HCE.out]
        simp [flipL, List.getD_eq_getElem?_getD, List.getElem?_set, hj, byteV]
      · rw [if_neg e]
        simp [flipL, List.getD_eq_getElem?_getD, List.getElem?_set, Ne.symm e]
    rw [HI.out]
    exact conv_bRow (P := Try.prog) (src := 22) (dst := 9) (cap := bcap) (flipL l k) (flipL_len l k) hrow2 (fun _ _ => rfl) Try.underlying22 Try.underlying5 Try.underlying9
  go_enter Try.func24, Try.ntmps24
  go_wp2_with (refine wpList_bytes rfl 9 22 5 _ rfl _ rfl Try.underlying9 Try.underlying22 Try.underlying5 ?_; intro bcap w1 hrow hb1; rw [str_list, z0] at hrow; have hc := hrow.cell hk; have hf := hrow.frozen hk; have HROW := Lib.hid hrow; clear hrow; unfold byteV at hc; rw [← HCE.out] at hc; have hcv := HCV.out w1 bcap HROW.out; rw [z0])
  have HB := Lib.hid hb1
  clear hb1 HROW
  go_wp2
  go_ret
  exact ⟨rfl, HB.out.setCell (Nat.le_refl _) _⟩
theorem bitW_xor {c d : UInt8} (hc : bit c) (hd : bit d) : bits .xor .u8 (IntKind.u8.wrap (48 + IntKind.u8.wrap ((c.toNat : Int) - 48))) (IntKind.u8.wrap ((d.toNat : Int) - 48)) = ((if c = d then 48 else 49 : UInt8).toNat : Int) := by
  rcases hc with rfl | rfl <;> rcases hd with rfl | rfl <;> decide +kernel
set_option maxHeartbeats 1000000 in
theorem ssXor_any (a b : List UInt8) (w : World) (hl : a.length ≤ 100000) (hab : b.length = a.length) (ha : ∀ c ∈ a, bit c) (hb : ∀ c ∈ b, bit c) :
    Calls Try.prog 30 #[.string (str a), .string (str b)] w fun e w' => e = .returned (.string (str (sumL a b))) ∧ Below w.heap.size w w' := by
  have z0 := str_size a
  have z1 := str_size b
  rw [hab] at z1
  have HA : Hid (∀ k, k < a.length → bit (a.getD k 0)) := Lib.hid fun k hk => ha _ (by rw [List.getD_eq_getElem?_getD, List.getElem?_eq_getElem hk]; exact List.getElem_mem hk)
  have HB : Hid (∀ k, k < a.length → bit (b.getD k 0)) := Lib.hid fun k hk => hb _ (by rw [List.getD_eq_getElem?_getD, List.getElem?_eq_getElem (by omega)]; exact List.getElem_mem (by omega))
  have hmk : ∀ u : World, (Instr.makeSlice 22 (.int .i64 0) (.int .i64 (a.length : Int))).run Try.prog u = .ok (.slice (some ⟨u.heap.size, 0, none⟩) 0 a.length) (u.alloc (.cells (madeCells #[.int .u8 0] a.length) 5)) := fun u => run_make0 Try.underlying22 info_u8 rfl a.length (by omega) (by omega) u
  clear ha hb hab
  go_enter Try.func30, Try.ntmps30
  go_wp2
  go_loopw [5, 6] (fun v i wr => ∃ (k g' cap : Nat), i = .int .i64 (k : Int) ∧ v = .slice (some ⟨g', 0, none⟩) k cap ∧ k ≤ a.length ∧ Own wr w.heap.size 5 g' k cap (((sumL a b).take k).map byteV) ∧ Below w.heap.size w wr) (fun _ i _ => a.length - (intOf i).toNat)
  case atStart => exact ⟨0, w.heap.size, a.length, rfl, rfl, Nat.zero_le _, Own.made (w := w) (B := w.heap.size) 5 (madeCells #[.int .u8 0] a.length) a.length (Nat.le_refl _) (by unfold maxLen; omega) (size_madeCells _ _), (Below.refl _ _).alloc (Nat.le_refl _) _⟩
  case round =>
    clear hmk
    obtain ⟨k, g', cap, rfl, rfl, hle, hown, hb⟩ := hrel
    by_cases hlt : k < a.length
    · have g1 := str_get a k (by omega)
      have g2 := str_get b k (by omega)
      have hx := bitS_xor (HA.out k hlt) (HB.out k hlt)
      have HX : Hid ((sumL a b).take (k + 1) = (sumL a b).take k ++ [if a.getD k 0 = b.getD k 0 then 48 else 49]) := Lib.hid (by
        have h1 : k < (sumL a b).length := by rw [sumL_len]; exact hlt
        rw [List.take_succ_eq_append_getElem h1]
        have := sumL_getD a b k hlt
        rw [List.getD_eq_getElem?_getD, List.getElem?_eq_getElem h1] at this
        simp only [Option.getD_some] at this
        rw [this]; rfl)
      have HX2 := Lib.hid (bitW_xor (HA.out k hlt) (HB.out k hlt))
      clear hx
      generalize (if a.getD k 0 = b.getD k 0 then 48 else 49 : UInt8) = c at HX HX2
      generalize a.getD k 0 = x at *
      generalize b.getD k 0 = y at *
      go_wp2
      go_region_held3 (fun u => True) (trivial) (first | (show (if Region.wanted (⟨some 34, _, _, _, _, _⟩ : Oper) _ = true then Oper.wp _ _ _ _ _ _ else _); refine stepN 22 5 Try.underlying22 info_u8 rfl (by rfl) _ _ (by rfl) w.heap.size g' k cap 1 wr.heap.size _ _ (by rfl) (by rfl) (heap_alloc_new wr _) (by rfl) (by omega) (hown.alloc _).drew (hb.alloc hb.size _).drew (Nat.le_refl _) (by simp [Value.oneCell']) (by omega) (by unfold maxLen; omega) ?_; intro g2 cap2 w2 hown2 hb2 hgr))
      all_goals
        rw [HX2.out] at hown2
        have hown3 : Own w2 w.heap.size 5 g2 (k + 1) cap2 (((sumL a b).take (k + 1)).map byteV) := by rw [HX.out, List.map_append]; exact hown2
        clear hown2 hgr hown hb
        go_wp2
        go_roundw
        case rel => exact ⟨k + 1, g2, cap2, by go_num, rfl, by omega, hown3, hb2⟩
        case measure => simp [intOf] <;> omega
    · obtain rfl : k = a.length := by omega
      have e : (sumL a b).take a.length = sumL a b := by rw [List.take_of_length_le (by rw [sumL_len]; omega)]
      rw [e] at hown
      have hconv := conv_own (P := Try.prog) (src := 22) (dst := 9) (sumL a b) (sumL_len a b) hown Try.underlying22 Try.underlying5 Try.underlying9
      clear hown e
      go_wp2
      go_ret
      exact ⟨rfl, hb⟩
set_option maxHeartbeats 1000000 in
theorem ssTurned_any (l : List UInt8) (w : World) (hl : l.length ≤ 100000) :
    Calls Try.prog 29 #[.string (str l)] w fun e w' => e = .returned (.string (str l.reverse)) ∧ Below w.heap.size w w' := by
  have z0 := str_size l
  have hmk : ∀ u : World, (Instr.makeSlice 22 (.int .i64 0) (.int .i64 (l.length : Int))).run Try.prog u = .ok (.slice (some ⟨u.heap.size, 0, none⟩) 0 l.length) (u.alloc (.cells (madeCells #[.int .u8 0] l.length) 5)) := fun u => run_make0 Try.underlying22 info_u8 rfl l.length (by omega) (by omega) u
  go_enter Try.func29, Try.ntmps29
  go_wp2
  go_loopw [3, 4] (fun v i wr => ∃ (k g' cap : Nat), i = .int .i64 ((k : Int) - 1) ∧ v = .slice (some ⟨g', 0, none⟩) (l.length - k) cap ∧ k ≤ l.length ∧ Own wr w.heap.size 5 g' (l.length - k) cap ((l.drop k).reverse.map byteV) ∧ Below w.heap.size w wr) (fun _ i _ => (intOf i + 1).toNat)
  case atStart => exact ⟨l.length, w.heap.size, l.length, rfl, by simp, Nat.le_refl _, by simpa using Own.made (w := w) (B := w.heap.size) 5 (madeCells #[.int .u8 0] l.length) l.length (Nat.le_refl _) (by unfold maxLen; omega) (size_madeCells _ _), (Below.refl _ _).alloc (Nat.le_refl _) _⟩
  case round =>
    clear hmk
    obtain ⟨k, g', cap, rfl, rfl, hle, hown, hb⟩ := hrel
    by_cases hlt : 0 < k
    · obtain ⟨m, rfl⟩ : ∃ m, k = m + 1 := ⟨k - 1, by omega⟩
      have g1 := str_get l m (by omega)
      have e0 : ((m + 1 : Nat) : Int) - 1 = (m : Int) := by omega
      rw [e0]
      have HD : Hid (l.drop m = l.getD m 0 :: l.drop (m + 1)) := Lib.hid (by rw [List.drop_eq_getElem_cons (by omega), List.getD_eq_getElem?_getD, List.getElem?_eq_getElem (by omega)]; rfl)
      generalize l.getD m 0 = c at g1 HD
      go_wp2_with (at_builtin; refine app1 (w0 := w) 22 5 Try.underlying22 info_u8 rfl rfl _ _ rfl w.heap.size g' (l.length - (m + 1)) cap _ _ rfl rfl hown hb (Nat.le_refl _) rfl (by omega) (by unfold maxLen; omega) ?_; intro g2 cap2 w2 hown2 hb2)
      have e1 : l.length - (m + 1) + 1 = l.length - m := by omega
      rw [e1] at hown2 ⊢
      clear hown hb
      go_wp2
      go_roundw
      case rel => exact ⟨m, g2, cap2, (by first | rfl | go_num), rfl, by omega, by rw [HD.out]; simpa [byteV] using hown2, hb2⟩
      case measure => simp [intOf] <;> omega
    · obtain rfl : k = 0 := by omega
      simp only [Nat.sub_zero, List.drop_zero] at hown ⊢
      have hconv := conv_own (P := Try.prog) (src := 22) (dst := 9) l.reverse (by simp) hown Try.underlying22 Try.underlying5 Try.underlying9
      clear hown
      go_wp2
      go_ret
      exact ⟨rfl, hb⟩
set_option maxHeartbeats 1000000 in
theorem ssZeros_any (n : Nat) (w : World) (hl : n ≤ 100000) :
    Calls Try.prog 42 #[.int .i64 (n : Int)] w fun e w' => e = .returned (.string (str (List.replicate n 48))) ∧ Below w.heap.size w w' := by
  have hmk : ∀ u : World, (Instr.makeSlice 22 (.int .i64 0) (.int .i64 (n : Int))).run Try.prog u = .ok (.slice (some ⟨u.heap.size, 0, none⟩) 0 n) (u.alloc (.cells (madeCells #[.int .u8 0] n) 5)) := fun u => run_make0 Try.underlying22 info_u8 rfl n (by omega) (by omega) u
  go_enter Try.func42, Try.ntmps42
  go_wp2
  go_loopw [3, 4] (fun v i wr => ∃ (k g' cap : Nat), i = .int .i64 (k : Int) ∧ v = .slice (some ⟨g', 0, none⟩) k cap ∧ k ≤ n ∧ Own wr w.heap.size 5 g' k cap ((List.replicate k 48).map byteV) ∧ Below w.heap.size w wr) (fun _ i _ => n - (intOf i).toNat)
  case atStart => exact ⟨0, w.heap.size, n, rfl, rfl, Nat.zero_le _, Own.made (w := w) (B := w.heap.size) 5 (madeCells #[.int .u8 0] n) n (Nat.le_refl _) (by unfold maxLen; omega) (size_madeCells _ _), (Below.refl _ _).alloc (Nat.le_refl _) _⟩
  case round =>
    clear hmk
    obtain ⟨k, g', cap, rfl, rfl, hle, hown, hb⟩ := hrel
    by_cases hlt : k < n
    · go_wp2_with (at_builtin; refine app1 (w0 := w) 22 5 Try.underlying22 info_u8 rfl rfl _ _ rfl w.heap.size g' k cap _ _ rfl rfl hown hb (Nat.le_refl _) rfl (by omega) (by unfold maxLen; omega) ?_; intro g2 cap2 w2 hown2 hb2)
      clear hown hb
      go_wp2
      go_roundw
      case rel => exact ⟨k + 1, g2, cap2, by go_num, rfl, by omega, by rw [List.replicate_succ']; simpa [byteV] using hown2, hb2⟩
      case measure => simp [intOf] <;> omega
    · obtain rfl : k = n := by omega
      have hconv := conv_own (P := Try.prog) (src := 22) (dst := 9) (List.replicate k 48) (by simp) hown Try.underlying22 Try.underlying5 Try.underlying9
      clear hown
      go_wp2
      go_ret
      exact ⟨rfl, hb⟩
end Go.Proofs.Ytmfblphnedoejaa
