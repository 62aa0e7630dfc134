/- Contracts of HammingDecode. -/
import Derived.Test.YtmfblphnedoejaaHamE
import Derived.Test.YtmfblphnedoejaaHamming
import Derived.Test.YtmfblphnedoejaaRepeat
import Derived.Deep.RegionHeld3
import Derived.Deep.DrawnRows
namespace Go.Proofs.Ytmfblphnedoejaa
set_option maxRecDepth 20000
open Go.ChangeShapes Go.WideShapes Go.ChangeAt Go.RowKit
set_option linter.unusedVariables false
set_option linter.unusedSimpArgs false

/-- a bit changed -/
def inv1 (c : UInt8) : UInt8 := if c = 49 then 48 else 49
def flipL (l : List UInt8) (k : Nat) : List UInt8 := l.set k (inv1 (l.getD k 0))
theorem flipL_len (l : List UInt8) (k : Nat) : (flipL l k).length = l.length := by simp [flipL]
theorem inv1_bit {c : UInt8} (h : bit c) : bit (inv1 c) := by unfold inv1; split; exact .inl rfl; exact .inr rfl
/-- the bits from k on, n of them -/
def cutL (l : List UInt8) (k n : Nat) : List UInt8 := (l.drop k).take n
theorem cutL_len {l : List UInt8} {k n : Nat} (h : k + n ≤ l.length) : (cutL l k n).length = n := by simp [cutL]; omega
theorem cutL_getD {l : List UInt8} {k n j : Nat} (hj : j < n) : (cutL l k n).getD j 0 = l.getD (k + j) 0 := by
  simp only [cutL, List.getD_eq_getElem?_getD, List.getElem?_take, if_pos hj, List.getElem?_drop]
theorem ex_cut (s : ByteArray) (k n : Nat) : s.extract k (k + n) = str (cutL s.data.toList k n) := by
  rw [← str_of (s.extract k (k + n)), ex_list, cutL]
  congr 1
  rw [List.take_drop]
/-- a block corrected -/
def hfix (b : List UInt8) : List UInt8 := if synTo b 7 = 0 then b else flipL b (synTo b 7 - 1)
/-- the data bits of a block -/
def hdata (b : List UInt8) : List UInt8 := [b.getD 2 0, b.getD 4 0, b.getD 5 0, b.getD 6 0]
def hdecTo (l : List UInt8) : Nat → List UInt8
  | 0 => []
  | k + 1 => hdecTo l k ++ hdata (hfix (cutL l (7 * k) 7))
def hcntTo (l : List UInt8) : Nat → Nat
  | 0 => 0
  | k + 1 => hcntTo l k + if synTo (cutL l (7 * k) 7) 7 = 0 then 0 else 1
theorem hdecTo_len (l : List UInt8) (k : Nat) : (hdecTo l k).length = 4 * k := by
  induction k with
  | zero => rfl
  | succ k ih => simp only [hdecTo, List.length_append, ih, hdata, List.length_cons, List.length_nil]; omega
theorem hcntTo_le (l : List UInt8) (k : Nat) : hcntTo l k ≤ k := by
  induction k with
  | zero => exact Nat.le_refl _
  | succ k ih => simp only [hcntTo]; split <;> omega
theorem syn7_lt (b : List UInt8) : synTo b 7 ≤ 7 := by
  have : ∀ k, k ≤ 7 → synTo b k < 8 := by
    intro k
    induction k with
    | zero => intro _; simp [synTo]
    | succ k ih =>
      intro hk
      simp only [synTo]
      split
      · exact Nat.xor_lt_two_pow (n := 3) (ih (by omega)) (by omega)
      · exact ih (by omega)
  have := this 7 (by omega)
  omega
/-- what HammingDecode returns -/
def hamDec (l : List UInt8) : Option (List UInt8 × Nat) := if bitsOK l && decide (l.length % 7 = 0) then some (hdecTo l (l.length / 7), hcntTo l (l.length / 7)) else none
def decRes (o : Option (List UInt8 × Nat)) : Value := match o with
  | some (l, n) => .tuple #[.string (str l), .int .i64 n, .bool true]
  | none => .tuple #[.string ⟨#[]⟩, .int .i64 0, .bool false]
theorem decRes_form (o : Option (List UInt8 × Nat)) : ∃ x n b, decRes o = .tuple #[.string x, .int .i64 n, .bool b] := by
  cases o <;> exact ⟨_, _, _, rfl⟩
theorem hamDec_nb {s : ByteArray} (h : bitsOK s.data.toList = false) : hamDec s.data.toList = none := by simp [hamDec, h]
theorem hamDec_n7 {s : ByteArray} (h : ¬ s.size % 7 = 0) : hamDec s.data.toList = none := by
  unfold hamDec; rw [data_length, decide_eq_false h, Bool.and_false]; rfl
theorem hamDec_yes {s : ByteArray} (h : bitsOK s.data.toList = true) (h7 : s.size % 7 = 0) : hamDec s.data.toList = some (hdecTo s.data.toList (s.size / 7), hcntTo s.data.toList (s.size / 7)) := by
  unfold hamDec; rw [data_length, decide_eq_true h7, h]; rfl
theorem xor_one {c : UInt8} (h : bit c) : bits .xor .u8 (c.toNat : Int) 1 = ((inv1 c).toNat : Int) := by
  rcases h with rfl | rfl <;> decide +kernel
/-- the bits of a block -/
theorem cut_bit {s : ByteArray} (hb : ∀ k (h : k < s.size), bit s[k]) {k n j : Nat} (h : k + n ≤ s.size) (hj : j < n) : bit ((cutL s.data.toList k n).getD j 0) := by
  rw [cutL_getD hj, getD_at s _ (by omega)]; exact hb _ _
theorem synI_str (b : List UInt8) (w : World) (h : b.length = 7) : Calls Try.prog 75 #[.string (str b)] w fun e w' => e = .returned (.int .i64 (synTo b 7)) ∧ w = w' := by
  have := synI_any (str b) w (by rw [str_size, h]; omega)
  rwa [str_list, str_size, h] at this
set_option maxHeartbeats 3000000 in
theorem hamDecI_yes (s : ByteArray) (w : World) (hs : s.size ≤ maxLen) (hb : bitsOK s.data.toList = true) (N : Nat) (hN : s.size = 7 * N) :
    Calls Try.prog 37 #[.string s] w fun e w' => e = .returned (decRes (some (hdecTo s.data.toList N, hcntTo s.data.toList N))) ∧ Below w.heap.size w w' := by
  have h6 := bits_le_size hb
  have HB := Lib.hid (bits_bit hb)
  have HN := Lib.hid hN
  have d1 : ((s.size : Int) % 7 != 0) = false := by simp; omega
  have e1 : (s.size : Int) / 7 = (N : Int) := by omega
  have hmk : ∀ u : World, (Instr.makeSlice 22 (.int .i64 0) (.int .i64 ((N : Int) * 4))).run Try.prog u = .ok (.slice (some ⟨u.heap.size, 0, none⟩) 0 (N * 4)) (u.alloc (.cells (madeCells #[.int .u8 0] (N * 4)) 5)) := fun u => by
    have := run_make0 (P := Try.prog) Try.underlying22 info_u8 rfl (N * 4) (by omega) (by omega) u
    rwa [Int.natCast_mul] at this
  have hN2 : N ≤ 100 := by omega
  clear hN
  go_enter Try.func37, Try.ntmps37
  go_wp2_with fail
  refine (isBits_any _ _ hs).mono ?_
  rintro e w' ⟨rfl, rfl⟩
  go_wp2
  go_loopw [5, 6, 7, 8, 9] (fun v n i _ _ wr => ∃ k g cap : Nat, k ≤ N ∧ i = .int .i64 (7 * (k : Int)) ∧ n = .int .i64 (hcntTo s.data.toList k) ∧ v = .slice (some ⟨g, 0, none⟩) (4 * k) cap ∧ Own wr w.heap.size 5 g (4 * k) cap ((hdecTo s.data.toList k).map byteV) ∧ Below w.heap.size w wr) (fun _ _ i _ _ _ => 7 * N - (intOf i).toNat)
  case atStart =>
    refine ⟨0, w.heap.size, N * 4, Nat.zero_le _, rfl, rfl, rfl, ?_, (Below.refl _ _).alloc (Nat.le_refl _) _⟩
    exact Own.made (w := w) (B := w.heap.size) 5 (madeCells #[.int .u8 0] (N * 4)) (N * 4) (Nat.le_refl _) (by unfold maxLen; omega) (size_madeCells _ _)
  case round =>
    obtain ⟨k, g, cap, hk, rfl, rfl, rfl, hown, hbl⟩ := hrel
    clear hmk e1
    by_cases hlt : k < N
    · have hsz : 7 * k + 7 ≤ s.size := by have := HN.out; omega
      have hsi : 7 * (k : Int) + 7 ≤ (s.size : Int) := by omega
      have hcn := hcntTo_le s.data.toList k
      obtain ⟨b, hbe⟩ : ∃ b, b = cutL s.data.toList (7 * k) 7 := ⟨_, rfl⟩
      have hbl7 : b.length = 7 := by rw [hbe]; exact cutL_len (by rw [data_length]; omega)
      have HBB : Hid (∀ j, j < 7 → bit (b.getD j 0)) := fun j hj => by rw [hbe]; exact cut_bit HB.out hsz hj
      have hex : s.extract (7 * k) (7 * k + 7) = str b := by rw [hbe]; exact ex_cut s (7 * k) 7
      have hz : (str b).size = 7 := by rw [str_size, hbl7]
      have hsy := syn7_lt b
      have HD : Hid (hdecTo s.data.toList (k + 1) = hdecTo s.data.toList k ++ hdata (hfix b)) := by rw [hbe]; rfl
      have HC : Hid (hcntTo s.data.toList (k + 1) = hcntTo s.data.toList k + if synTo b 7 = 0 then 0 else 1) := by rw [hbe]; rfl
      have HZ := Lib.hid hbl7
      clear hbe hbl7
      go_wp2_with (refine wpList_bytes rfl 9 22 5 _ rfl _ rfl Try.underlying9 Try.underlying22 Try.underlying5 ?_; intro bcap w1 hrow hb1; rw [hex, str_list, hz] at hrow; have hcv := conv_bRow (P := Try.prog) (src := 22) (dst := 9) (cap := bcap) b HZ.out hrow (fun _ _ => rfl) Try.underlying22 Try.underlying5 Try.underlying9)
      refine (synI_str b _ HZ.out).mono ?_
      rintro e w' ⟨rfl, rfl⟩
      have hbw : Below w.heap.size w w1 := hbl.trans (hb1.mono hbl.size)
      have hown1 : Own w1 w.heap.size 5 g (4 * k) cap ((hdecTo s.data.toList k).map byteV) := hown.below hb1 hown.lt.2
      have hgw := hown.lt.2
      have hbs := hbl.size
      clear hown hbl hcv
      have hne1 : some wr.heap.size ≠ some g := by have := hgw; intro e; injection e with e; omega
      by_cases h0 : synTo b 7 = 0
      · have b1 : ((synTo b 7 : Int) != 0) = false := by simp [h0]
        have HF : Hid (hfix b = b) := if_pos h0
        have HK : Hid (hcntTo s.data.toList (k + 1) = hcntTo s.data.toList k) := by have := HC.out; rw [if_pos h0] at this; exact this
        have hl1 : wr.heap.size < (w1.alloc (.cells #[.int .u8 ((b.getD 2 0).toNat : Int), .int .u8 ((b.getD 4 0).toNat : Int), .int .u8 ((b.getD 5 0).toNat : Int), .int .u8 ((b.getD 6 0).toNat : Int)] 5)).heap.size := by have := hrow.lt; simp; omega
        clear h0
        go_wp2
        go_region_held3 (fun u => u.cell? ⟨wr.heap.size, 2, none⟩ = some (.int .u8 ((b.getD 2 0).toNat : Int)) ∧ u.cell? ⟨wr.heap.size, 4, none⟩ = some (.int .u8 ((b.getD 4 0).toNat : Int)) ∧ u.cell? ⟨wr.heap.size, 5, none⟩ = some (.int .u8 ((b.getD 5 0).toNat : Int)) ∧ u.cell? ⟨wr.heap.size, 6, none⟩ = some (.int .u8 ((b.getD 6 0).toNat : Int))) (first | exact cells4 hrow | exact cells4 (hrow.alloc _) | exact cells4 ((hrow.alloc _).of_block (hgr.block _ hl1 hne1))) (first | (show (if Region.wanted (⟨some 64, _, _, _, _, _⟩ : Oper) _ = true then Oper.wp _ _ _ _ _ _ else _); refine stepN 22 5 Try.underlying22 info_u8 rfl (by rfl) _ _ (by rfl) w.heap.size g (4 * k) cap 4 w1.heap.size _ _ (by rfl) (by rfl) (heap_alloc_new w1 _) (by rfl) (by omega) (hown1.alloc _).drew (hbw.alloc hbw.size _).drew (Nat.le_refl _) (by simp [Value.oneCell']) (by omega) (by unfold maxLen; omega) ?_; intro g' cap' w' hown' hb' hgr))
        have hown2 : Own w' w.heap.size 5 g' (4 * (k + 1)) cap' ((hdecTo s.data.toList (k + 1)).map byteV) := by rw [HD.out, HF.out, List.map_append]; exact hown'
        clear hown' hown1 hbw hrow hgr
        go_wp2
        go_roundw
        case rel => exact ⟨k + 1, g', cap', by omega, by go_num, by rw [HK.out], rfl, hown2, hb'⟩
        case measure => simp [intOf]; omega
      · have b1 : ((synTo b 7 : Int) != 0) = true := by simp; omega
        have p1 : 1 ≤ synTo b 7 := by omega
        have HF : Hid (hfix b = flipL b (synTo b 7 - 1)) := if_neg h0
        have HK : Hid (hcntTo s.data.toList (k + 1) = hcntTo s.data.toList k + 1) := by have := HC.out; rw [if_neg h0] at this; exact this
        obtain ⟨m, hm⟩ : ∃ m, m = synTo b 7 := ⟨_, rfl⟩
        rw [← hm] at hsy b1 p1 HF ⊢
        clear h0 hm
        have hcm := hrow.cell (i := m - 1) (by omega)
        have hfm := hrow.frozen (i := m - 1) (by omega)
        have hxm := xor_one (HBB.out (m - 1) (by omega))
        obtain ⟨c, hce⟩ : ∃ c, c = b.getD (m - 1) 0 := ⟨_, rfl⟩
        rw [← hce] at hcm hxm
        have i1 : 0 ≤ (m : Int) - 1 := by omega
        have i2 : (m : Int) - 1 < 7 := by omega
        unfold byteV at hcm
        have hrow2 : bRow (w1.setCell ⟨wr.heap.size, m - 1, none⟩ (.int .u8 ((inv1 c).toNat : Int))) wr.heap.size 5 7 (fun j => byteV ((flipL b (m - 1)).getD j 0)) := by
          refine (hrow.set (m - 1) _).congr fun j hj => ?_
          have hl := HZ.out
          by_cases e : j = m - 1
          · subst e
            rw [if_pos rfl, hce]
            simp [flipL, List.getD_eq_getElem?_getD, hl, hj, byteV]
          · rw [if_neg e]
            simp only [flipL, List.getD_eq_getElem?_getD]
            rw [List.getElem?_set_ne (by omega)]
        have hgne : g ≠ wr.heap.size := fun e => hne1 (by rw [e])
        clear hce
        have hown3 := hown1.setOther (p := ⟨wr.heap.size, m - 1, none⟩) hgne (.int .u8 ((inv1 c).toNat : Int))
        have hbw2 : Below w.heap.size w (w1.setCell ⟨wr.heap.size, m - 1, none⟩ (.int .u8 ((inv1 c).toNat : Int))) := hbw.setCell (by have := hbs; exact this) _
        go_wp2
        obtain ⟨w2, hw2⟩ : ∃ w2, w2 = w1.setCell ⟨wr.heap.size, m - 1, none⟩ (.int .u8 ((inv1 c).toNat : Int)) := ⟨_, rfl⟩
        rw [← hw2] at hrow2 hown3 hbw2 ⊢
        clear hw2 hcm hfm hxm hrow hown1 hbw
        have hl1 : wr.heap.size < (w2.alloc (.cells #[.int .u8 (((flipL b (m - 1)).getD 2 0).toNat : Int), .int .u8 (((flipL b (m - 1)).getD 4 0).toNat : Int), .int .u8 (((flipL b (m - 1)).getD 5 0).toNat : Int), .int .u8 (((flipL b (m - 1)).getD 6 0).toNat : Int)] 5)).heap.size := by have := hrow2.lt; simp; omega
        go_region_held3 (fun u => u.cell? ⟨wr.heap.size, 2, none⟩ = some (.int .u8 (((flipL b (m - 1)).getD 2 0).toNat : Int)) ∧ u.cell? ⟨wr.heap.size, 4, none⟩ = some (.int .u8 (((flipL b (m - 1)).getD 4 0).toNat : Int)) ∧ u.cell? ⟨wr.heap.size, 5, none⟩ = some (.int .u8 (((flipL b (m - 1)).getD 5 0).toNat : Int)) ∧ u.cell? ⟨wr.heap.size, 6, none⟩ = some (.int .u8 (((flipL b (m - 1)).getD 6 0).toNat : Int))) (first | exact cells4 hrow2 | exact cells4 (hrow2.alloc _) | exact cells4 ((hrow2.alloc _).of_block (hgr.block _ hl1 hne1))) (first | (show (if Region.wanted (⟨some 64, _, _, _, _, _⟩ : Oper) _ = true then Oper.wp _ _ _ _ _ _ else _); refine stepN 22 5 Try.underlying22 info_u8 rfl (by rfl) _ _ (by rfl) w.heap.size g (4 * k) cap 4 w2.heap.size _ _ (by rfl) (by rfl) (heap_alloc_new w2 _) (by rfl) (by omega) (hown3.alloc _).drew (hbw2.alloc hbw2.size _).drew (Nat.le_refl _) (by simp [Value.oneCell']) (by omega) (by unfold maxLen; omega) ?_; intro g' cap' w' hown' hb' hgr))
        have hown2 : Own w' w.heap.size 5 g' (4 * (k + 1)) cap' ((hdecTo s.data.toList (k + 1)).map byteV) := by rw [HD.out, HF.out, List.map_append]; exact hown'
        clear hown' hown3 hbw2 hrow2 hgr
        go_wp2
        go_roundw
        case rel => exact ⟨k + 1, g', cap', by omega, by go_num, by rw [HK.out]; go_num, rfl, hown2, hb'⟩
        case measure => simp [intOf]; omega
    · obtain rfl : k = N := by omega
      have hsz : s.size = 7 * k := HN.out
      have hcn := hcntTo_le s.data.toList k
      have hconv := conv_own (P := Try.prog) (src := 22) (dst := 9) (hdecTo s.data.toList k) (hdecTo_len _ _) hown Try.underlying22 Try.underlying5 Try.underlying9
      have hge : (s.size : Int) ≤ 7 * (k : Int) := by omega
      clear hown hsz
      go_wp2
      go_ret3
      exact ⟨rfl, hbl⟩
theorem hamDecI_any (s : ByteArray) (w : World) (hs : s.size ≤ maxLen) :
    Calls Try.prog 37 #[.string s] w fun e w' => e = .returned (decRes (hamDec s.data.toList)) ∧ Below w.heap.size w w' := by
  cases hb : bitsOK s.data.toList
  · rw [hamDec_nb hb]
    go_enter Try.func37, Try.ntmps37
    go_wp2_with fail
    refine (isBits_any _ _ hs).mono ?_
    rintro e w' ⟨rfl, rfl⟩
    go_wp2
    go_ret3
    exact ⟨rfl, Below.refl _ _⟩
  · have h6 := bits_le_size hb
    by_cases h7 : s.size % 7 = 0
    · rw [hamDec_yes hb h7]
      exact hamDecI_yes s w hs hb (s.size / 7) (by omega)
    · rw [hamDec_n7 h7]
      have d1 : ((s.size : Int) % 7 != 0) = true := by simp; omega
      clear h7
      go_enter Try.func37, Try.ntmps37
      go_wp2_with fail
      refine (isBits_any _ _ hs).mono ?_
      rintro e w' ⟨rfl, rfl⟩
      go_wp2
      go_ret3
      exact ⟨rfl, Below.refl _ _⟩
theorem inv_sum (l : List UInt8) (h : ∀ c ∈ l, bit c) : sumL l (manyL [49] l.length) = l.map inv1 := by
  rw [manyL_one]
  apply List.ext_getElem
  · simp [sumL]
  · intro i h1 h2
    simp only [List.length_map] at h2
    simp only [sumL, List.getElem_map, List.getElem_range, sumAt]
    rw [List.getD_eq_getElem?_getD, List.getElem?_eq_getElem h2, List.getD_eq_getElem?_getD, List.getElem?_eq_getElem (by simpa using h2)]
    simp only [Option.getD_some, List.getElem_replicate]
    unfold inv1
    rfl
theorem invS_any (l : List UInt8) (w : World) (hl : l.length ≤ 100000) (h : ∀ c ∈ l, bit c) : Calls Try.prog 109 #[.string (str l)] w fun e w' => e = .returned (.string (str (l.map inv1))) ∧ Below w.heap.size w w' := by
  have hz : (str l).size = l.length := str_size l
  have HC : Hid (∀ u : World, Calls Try.prog 77 #[.string ⟨#[49]⟩, .int .i64 (l.length : Int)] u fun e w' => e = .returned (.string (str (manyL [49] l.length))) ∧ u = w') := fun u => by
    have := many_any (str [49]) (l.length : Int) u (by rw [str_size]; simp; omega) (by omega)
    rw [str_list, Int.toNat_natCast] at this
    exact this
  have HS : Hid (∀ u : World, Calls Try.prog 69 #[.string (str l), .string (str (manyL [49] l.length))] u fun e w' => e = .returned (.string (str (l.map inv1))) ∧ Below u.heap.size u w') := fun u => by
    have := sumS_any (str l) (str (manyL [49] l.length)) u (by rw [str_size]; omega) (by rw [str_size, str_size, manyL_len]; simp)
      (fun k hk => by rw [str_get]; rw [str_size] at hk; rw [List.getD_eq_getElem?_getD, List.getElem?_eq_getElem hk]; exact h _ (List.getElem_mem hk))
      (fun k hk => by rw [str_get, manyL_one]; rw [str_size, manyL_one, List.length_replicate] at hk; rw [List.getD_eq_getElem?_getD, List.getElem?_eq_getElem (by simpa using hk)]; simp; exact .inr rfl)
    rw [str_list, str_list, inv_sum l h] at this
    exact this
  clear h
  go_enter Try.func109, Try.ntmps109
  go_wp2_with fail
  refine (HC.out _).mono ?_
  rintro e w' ⟨rfl, rfl⟩
  go_wp2_with fail
  refine (HS.out _).mono ?_
  rintro e w1 ⟨rfl, k1⟩
  go_wp2
  go_ret
  exact ⟨rfl, k1⟩
theorem flip_eq (l : List UInt8) (k : Nat) (h : k < l.length) : str (l.take k ++ [inv1 (l.getD k 0)]) ++ str (l.drop (k + 1)) = str (flipL l k) := by
  rw [str_add]
  congr 1
  rw [flipL, List.set_eq_take_append_cons_drop, if_pos h, List.append_assoc]
  rfl
set_option maxHeartbeats 1000000 in
theorem flipS_any (l : List UInt8) (k : Nat) (w : World) (hl : l.length ≤ 100000) (hk : k < l.length) (h : ∀ c ∈ l, bit c) :
    Calls Try.prog 88 #[.string (str l), .int .i64 k] w fun e w' => e = .returned (.string (str (flipL l k))) ∧ Below w.heap.size w w' := by
  obtain ⟨n, hn⟩ : ∃ n, n = l.length := ⟨_, rfl⟩
  have hz : (str l).size = n := by rw [str_size, hn]
  have e1 : (str l).extract 0 k = str (l.take k) := by rw [str_ex, List.drop_zero]
  have e2 : (str l).extract k (k + 1) = str [l.getD k 0] := by rw [ex_one _ _ (by rw [str_size]; exact hk), str_get]
  have e3 : (str l).extract (k + 1) n = str (l.drop (k + 1)) := by rw [str_ex, hn, List.take_length]
  have q1 : str (l.take k) ++ str [inv1 (l.getD k 0)] = str (l.take k ++ [inv1 (l.getD k 0)]) := str_add _ _
  have q2 := flip_eq l k hk
  have hbk : bit (l.getD k 0) := by rw [List.getD_eq_getElem?_getD, List.getElem?_eq_getElem hk]; exact h _ (List.getElem_mem hk)
  have HI : Hid (∀ u : World, Calls Try.prog 109 #[.string (str [l.getD k 0])] u fun e w' => e = .returned (.string (str [inv1 (l.getD k 0)])) ∧ Below u.heap.size u w') := fun u =>
    invS_any [l.getD k 0] u (by simp) (by intro c hc; simp at hc; subst hc; simpa using hbk)
  have s1 : ¬ (9223372036854775807 < (str (l.take k)).size + (str [inv1 (l.getD k 0)]).size) := by rw [str_size, str_size]; simp; omega
  have s2 : ¬ (9223372036854775807 < (str (l.take k ++ [inv1 (l.getD k 0)])).size + (str (l.drop (k + 1))).size) := by rw [str_size, str_size]; simp; omega
  have i1 : (0 : Int) ≤ (k : Int) := by omega
  have i2 : (k : Int) + 1 ≤ (n : Int) := by omega
  have i3 : (k : Int) ≤ (n : Int) := by omega
  have i4 : (0 : Int) ≤ (k : Int) + 1 := by omega
  have i5 : (k : Int) ≤ (k : Int) + 1 := by omega
  have y1 : IntKind.i64.wrap ((k : Int) + 1) = (k : Int) + 1 := IntWalk.i64_in _ (by omega)
  have y2 : ((k : Int) + 1).toNat = k + 1 := by omega
  obtain ⟨c, hc⟩ : ∃ c, c = l.getD k 0 := ⟨_, rfl⟩
  rw [← hc] at e2 q1 q2 HI s1 s2
  clear hc hbk h hn hl hk
  go_enter Try.func88, Try.ntmps88
  go_wp2
  go_region_held3 (fun _ => True) (trivial) (first | (go_at_call 109; refine (HI.out _).mono ?_; rintro e w' ⟨rfl, hb2⟩))
  all_goals
    clear y1 y2
    go_wp2
    go_ret
    exact ⟨rfl, (Below.refl _ _).drew.trans hb2⟩
theorem synS_str (b : List UInt8) (w : World) (h : b.length = 7) : Calls Try.prog 76 #[.string (str b)] w fun e w' => e = .returned (.int .i64 (synTo b 7)) ∧ w = w' := by
  have := synS_any (str b) w (by rw [str_size, h]; omega)
  rwa [str_list, str_size, h] at this
theorem seven {b : List UInt8} (h : b.length = 7) : b.drop 4 = [b.getD 4 0, b.getD 5 0, b.getD 6 0] := by
  match b, h with
  | [_, _, _, _, _, _, _], _ => rfl
theorem data_add {b o : List UInt8} (h : b.length = 7) : str (o ++ [b.getD 2 0]) ++ str (b.drop 4) = str (o ++ hdata b) := by
  rw [str_add, seven h, List.append_assoc]; rfl
set_option maxHeartbeats 3000000 in
theorem hamDecS_any (s : ByteArray) (w : World) (hs : s.size ≤ maxLen) :
    Calls Try.prog 48 #[.string s] w fun e w' => e = .returned (decRes (hamDec s.data.toList)) ∧ Below w.heap.size w w' := by
  cases hb : bitsOK s.data.toList
  · rw [hamDec_nb hb]
    go_enter Try.func48, Try.ntmps48
    go_wp2_with fail
    refine (l1Bits_any _ _ hs).mono ?_
    rintro e w' ⟨rfl, rfl⟩
    go_wp2
    go_ret3
    exact ⟨rfl, Below.refl _ _⟩
  · have h6 := bits_le_size hb
    by_cases h7 : s.size % 7 = 0
    · rw [hamDec_yes hb h7]
      have HB := Lib.hid (bits_bit hb)
      have d1 : ((s.size : Int) % 7 != 0) = false := by simp; omega
      obtain ⟨N, hN⟩ : ∃ N, s.size = 7 * N := ⟨s.size / 7, by omega⟩
      have eN : s.size / 7 = N := by omega
      rw [eN]
      have hN2 : N ≤ 100 := by omega
      have HN := Lib.hid hN
      clear hN eN h7
      go_enter Try.func48, Try.ntmps48
      go_wp2_with fail
      refine (l1Bits_any _ _ hs).mono ?_
      rintro e w' ⟨rfl, rfl⟩
      go_wp2
      go_loopw [5, 6, 7, 8, 9] (fun v n i _ _ wr => ∃ k : Nat, k ≤ N ∧ i = .int .i64 (7 * (k : Int)) ∧ n = .int .i64 (hcntTo s.data.toList k) ∧ v = .string (str (hdecTo s.data.toList k)) ∧ Below w.heap.size w wr) (fun _ _ i _ _ _ => 7 * N - (intOf i).toNat)
      case atStart => exact ⟨0, Nat.zero_le _, rfl, rfl, rfl, Below.refl _ _⟩
      case round =>
        obtain ⟨k, hk, rfl, rfl, rfl, hbl⟩ := hrel
        have hcn := hcntTo_le s.data.toList k
        by_cases hlt : k < N
        · have hsz : 7 * k + 7 ≤ s.size := by have := HN.out; omega
          have hsi : 7 * (k : Int) + 7 ≤ (s.size : Int) := by omega
          obtain ⟨b, hbe⟩ : ∃ b, b = cutL s.data.toList (7 * k) 7 := ⟨_, rfl⟩
          have hbl7 : b.length = 7 := by rw [hbe]; exact cutL_len (by rw [data_length]; omega)
          have HBB : Hid (∀ c ∈ b, bit c) := fun c hc => by
            obtain ⟨j, hj, rfl⟩ := List.getElem_of_mem hc
            have := cut_bit HB.out hsz (j := j) (by omega)
            rw [← hbe, List.getD_eq_getElem?_getD, List.getElem?_eq_getElem hj] at this
            exact this
          have hex : s.extract (7 * k) (7 * k + 7) = str b := by rw [hbe]; exact ex_cut s (7 * k) 7
          have hz : (str b).size = 7 := by rw [str_size, hbl7]
          have hsy := syn7_lt b
          have HD : Hid (hdecTo s.data.toList (k + 1) = hdecTo s.data.toList k ++ hdata (hfix b)) := by rw [hbe]; rfl
          have HC : Hid (hcntTo s.data.toList (k + 1) = hcntTo s.data.toList k + if synTo b 7 = 0 then 0 else 1) := by rw [hbe]; rfl
          have HZ := Lib.hid hbl7
          have z0 : (str (hdecTo s.data.toList k)).size ≤ 400 := by rw [str_size, hdecTo_len]; omega
          have HO := Lib.hid (hdecTo_len s.data.toList k)
          obtain ⟨o, ho⟩ : ∃ o, o = hdecTo s.data.toList k := ⟨_, rfl⟩
          rw [← ho] at HD z0 HO ⊢
          clear hbe hbl7 ho
          go_wp2_with fail
          refine (synS_str b _ HZ.out).mono ?_
          rintro e w' ⟨rfl, rfl⟩
          by_cases h0 : synTo b 7 = 0
          · have HF : Hid (hfix b = b) := if_pos h0
            have HK : Hid (hcntTo s.data.toList (k + 1) = hcntTo s.data.toList k) := by have := HC.out; rw [if_pos h0] at this; exact this
            have hl7 := HZ.out
            obtain ⟨d2, hd2⟩ : ∃ d2, d2 = b.getD 2 0 := ⟨_, rfl⟩
            have x1 : (str b).extract 2 3 = str [d2] := by rw [hd2, ex_one _ _ (by rw [str_size, hl7]; omega), str_get]
            have x2 : (str b).extract 4 7 = str (b.drop 4) := by rw [str_ex, List.take_of_length_le (by rw [hl7]; omega)]
            have x3 : (str b).size = 7 := by rw [str_size, hl7]
            have q1 : str o ++ str [d2] = str (o ++ [d2]) := str_add _ _
            have q2 : str (o ++ [d2]) ++ str (b.drop 4) = str (o ++ hdata b) := by rw [hd2]; exact data_add (o := o) hl7
            have s1 : ¬ (9223372036854775807 < (str o).size + (str [d2]).size) := by rw [str_size [d2]]; simp; omega
            have s2 : ¬ (9223372036854775807 < (str (o ++ [d2])).size + (str (b.drop 4)).size) := by have := HO.out; rw [str_size, str_size]; simp; omega
            clear hl7 hd2
            go_wp2
            refine wp_region_still_lit (by kernel_rfl) (by kernel_rfl) ?_
            repeat (refine wpStill_step (fun K hK => ?_); (try go_simp); (try simp only [IntWalk.iteOmega]); (try go_ints); (try simp (disch := omega) only [dif_pos]); (try go_simp); refine hK _ ?_; clear hK K)
            refine wpStill_nil ?_
            go_wp2
            go_roundw
            case rel => exact ⟨k + 1, by omega, by go_num, by rw [HK.out], by rw [HD.out, HF.out], hbl.drew⟩
            case measure => simp [intOf]; omega
          · have p1 : 1 ≤ synTo b 7 := by omega
            have HF : Hid (hfix b = flipL b (synTo b 7 - 1)) := if_neg h0
            have HK : Hid (hcntTo s.data.toList (k + 1) = hcntTo s.data.toList k + 1) := by have := HC.out; rw [if_neg h0] at this; exact this
            have HX : Hid (∀ u : World, Calls Try.prog 88 #[.string (str b), .int .i64 ((synTo b 7 : Int) - 1)] u fun e w' => e = .returned (.string (str (flipL b (synTo b 7 - 1)))) ∧ Below u.heap.size u w') := fun u => by
              have := flipS_any b (synTo b 7 - 1) u (by rw [HZ.out]; omega) (by rw [HZ.out]; omega) HBB.out
              rw [show ((synTo b 7 - 1 : Nat) : Int) = (synTo b 7 : Int) - 1 by omega] at this
              exact this
            obtain ⟨f, hf⟩ : ∃ f, f = flipL b (synTo b 7 - 1) := ⟨_, rfl⟩
            have hl7 : f.length = 7 := by rw [hf, flipL_len, HZ.out]
            rw [← hf] at HF HX
            clear hf
            go_wp2_with fail
            refine (HX.out _).mono ?_
            rintro e w1 ⟨rfl, k1⟩
            replace hbl := below_next hbl k1
            clear k1 hex hz
            obtain ⟨d2, hd2⟩ : ∃ d2, d2 = f.getD 2 0 := ⟨_, rfl⟩
            have x1 : (str f).extract 2 3 = str [d2] := by rw [hd2, ex_one _ _ (by rw [str_size, hl7]; omega), str_get]
            have x2 : (str f).extract 4 7 = str (f.drop 4) := by rw [str_ex, List.take_of_length_le (by rw [hl7]; omega)]
            have x3 : (str f).size = 7 := by rw [str_size, hl7]
            have q1 : str o ++ str [d2] = str (o ++ [d2]) := str_add _ _
            have q2 : str (o ++ [d2]) ++ str (f.drop 4) = str (o ++ hdata f) := by rw [hd2]; exact data_add (o := o) hl7
            have s1 : ¬ (9223372036854775807 < (str o).size + (str [d2]).size) := by rw [str_size [d2]]; simp; omega
            have s2 : ¬ (9223372036854775807 < (str (o ++ [d2])).size + (str (f.drop 4)).size) := by have := HO.out; rw [str_size, str_size]; simp; omega
            clear hl7 hd2
            clear h0
            go_wp2
            refine wp_region_still_lit (by kernel_rfl) (by kernel_rfl) ?_
            repeat (refine wpStill_step (fun K hK => ?_); (try go_simp); (try simp only [IntWalk.iteOmega]); (try go_ints); (try simp (disch := omega) only [dif_pos]); (try go_simp); refine hK _ ?_; clear hK K)
            refine wpStill_nil ?_
            go_wp2
            go_roundw
            case rel => exact ⟨k + 1, by omega, by go_num, by rw [HK.out]; go_num, by rw [HD.out, HF.out], hbl.drew⟩
            case measure => simp [intOf]; omega
        · obtain rfl : k = N := by omega
          have hge : (s.size : Int) ≤ 7 * (k : Int) := by have := HN.out; omega
          go_wp2
          go_ret3
          exact ⟨rfl, hbl⟩
    · rw [hamDec_n7 h7]
      have d1 : ((s.size : Int) % 7 != 0) = true := by simp; omega
      clear h7
      go_enter Try.func48, Try.ntmps48
      go_wp2_with fail
      refine (l1Bits_any _ _ hs).mono ?_
      rintro e w' ⟨rfl, rfl⟩
      go_wp2
      go_ret3
      exact ⟨rfl, Below.refl _ _⟩
end Go.Proofs.Ytmfblphnedoejaa
