/- Contracts of AllFrames on both sides, and of the helpers of its exact law. -/
import Derived.Test.YtfcnpbcnpielcaaFind
import Derived.Test.YtfcnpbcnpielcaaDraw
import Derived.Deep.RegionHeld3
namespace Go.Proofs.Ytfcnpbcnpielcaa
set_option maxRecDepth 20000
open Go.ChangeShapes Go.WideShapes Go.ChangeAt Go.RowKit
set_option linter.unusedVariables false
set_option linter.unusedSimpArgs false

theorem info_str : (Try.prog.info? 9).map (fun i => (i.zero, i.size, i.bytes)) = some (some (.string ⟨#[]⟩), 1, 16) := by kernel_rfl
def strV (l : List UInt8) : Value := .string (str l)
theorem findN_some (l : List UInt8) : ∀ f a, findN l f a = -1 ∨ ∃ (m : Nat) (x : List UInt8 × Nat), findN l f a = (m : Int) ∧ a ≤ m ∧ m < a + f ∧ parseL l m = some x
  | 0, a => .inl rfl
  | f + 1, a => by
    cases hp : parseL l a with
    | some x => exact .inr ⟨a, x, findN_here (by omega) hp, Nat.le_refl _, by omega, hp⟩
    | none =>
      have e := findN_next (l := l) (f := f + 1) (a := a) (by omega) hp
      rw [e, Nat.add_sub_cancel]
      rcases findN_some l f (a + 1) with h | ⟨m, x, h1, h2, h3, h4⟩
      · exact .inl h
      · exact .inr ⟨m, x, h1, by omega, by omega, h4⟩
theorem parseL_end {l : List UInt8} {a : Nat} {p : List UInt8} {e : Nat} (h : parseL l a = some (p, e)) : a + 23 ≤ e ∧ e ≤ l.length := by
  unfold parseL at h
  split at h
  · cases h
  · split at h
    · cases h
    · rename_i h1 h2
      split at h
      · have := Option.some.inj h
        simp only [Prod.mk.injEq] at this
        omega
      · cases h
theorem find_some {l : List UInt8} {a : Nat} (h : 0 ≤ find l (a : Int)) : ∃ (m : Nat) (p : List UInt8) (e : Nat), find l (a : Int) = (m : Int) ∧ a ≤ m ∧ bitsOK l = true ∧ parseL l m = some (p, e) ∧ m + 23 ≤ e ∧ e ≤ l.length ∧ l.length ≤ 600 := by
  cases hb : bitsOK l with
  | false => rw [find_no (by rw [hb]; simp)] at h; omega
  | true =>
    rw [find_yes a hb] at h ⊢
    rcases findN_some l (l.length - a) a with h1 | ⟨m, ⟨p, e⟩, h1, h2, h3, h4⟩
    · rw [h1] at h; omega
    · have := parseL_end h4
      exact ⟨m, p, e, h1, h2, rfl, h4, this.1, this.2, bits_le hb⟩
/-- the payloads from a place on -/
def allG (l : List UInt8) : Nat → Nat → List (List UInt8)
  | 0, _ => []
  | f + 1, a => if find l (a : Int) < 0 then [] else match parseL l (find l (a : Int)).toNat with
    | some (p, e) => p :: allG l f e
    | none => []
def allL (l : List UInt8) : List (List UInt8) := allG l (l.length + 1) 0
theorem allG_no {l : List UInt8} {f a : Nat} (h : find l (a : Int) < 0) : allG l f a = [] := by
  cases f with
  | zero => rfl
  | succ f => simp only [allG]; rw [if_pos h]
theorem allG_yes {l : List UInt8} {f a m : Nat} {p : List UInt8} {e : Nat} (h : find l (a : Int) = (m : Int)) (hp : parseL l m = some (p, e)) : allG l (f + 1) a = p :: allG l f e := by
  simp only [allG]
  rw [if_neg (by omega), h, Int.toNat_natCast, hp]
/-- how much is ahead of a place -/
def ahead (L : Nat) (q : Int) : Nat := if q < 0 then 0 else L + 1 - q.toNat
theorem ahead_lt {L m e : Nat} {q : Int} (h : q < 0 ∨ (e : Int) ≤ q) (he : m < e) (hm : e ≤ L) : ahead L q < ahead L (m : Int) := by
  unfold ahead
  rw [if_neg (show ¬ (m : Int) < 0 by omega)]
  by_cases h1 : q < 0
  · rw [if_pos h1]; omega
  · rw [if_neg h1]; omega
set_option maxHeartbeats 4000000 in
theorem allI_any (l : List UInt8) (w : World) (hl : l.length ≤ 2000000) :
    Calls Try.prog 15 #[.string (str l)] w fun e w' => ∃ g cap : Nat, e = .returned (.slice (some ⟨g, 0, none⟩) (allL l).length cap) ∧ Own w' w.heap.size 9 g (allL l).length cap ((allL l).map strV) ∧ Below w.heap.size w w' := by
  have HF := Lib.hid (fun (a : Nat) (u : World) (h : a ≤ 2000000) => findI_any l (a : Int) u hl (by omega) (by omega))
  have HP := Lib.hid (fun (m : Nat) (u : World) (h : m ≤ 2000000) => parseI_any l (m : Int) u hl (by omega) (by omega))
  have HF0 := HF.out 0 
  have HZ := Lib.hid (fun u : World => HF.out 0 u (by omega))
  clear HF0
  simp only [Int.ofNat_zero, Int.natCast_zero] at HZ
  have h0 := Own.lit (w := w) (B := w.heap.size) 9 #[] 0 (Nat.le_refl _) (Nat.zero_le _) rfl
  have hb0 : Below w.heap.size w (w.alloc (.cells #[] 9)) := (Below.refl _ _).alloc (Nat.le_refl _) _
  have H0 := Lib.hid h0
  have HB0 := Lib.hid hb0
  clear h0 hb0
  go_enter Try.func15, Try.ntmps15
  go_wp2_with fail
  refine (HZ.out _).mono ?_
  rintro e w1 ⟨rfl, k1⟩
  have H1 := Lib.hid (H0.out.below k1 H0.out.lt.2)
  have HB1 := Lib.hid (HB0.out.trans (k1.mono HB0.out.size))
  clear k1 H0 HB0
  go_wp2
  go_loopw [3, 4, 5, 6, 7] (fun v i _ _ _ wr => ∃ (a f g cap : Nat) (xs : List (List UInt8)), i = .int .i64 (find l (a : Int)) ∧ v = .slice (some ⟨g, 0, none⟩) xs.length cap ∧ l.length < a + f ∧ allL l = xs ++ allG l f a ∧ 23 * xs.length ≤ a ∧ (a = 0 ∨ a ≤ 600) ∧ Own wr w.heap.size 9 g xs.length cap (xs.map strV) ∧ Below w.heap.size w wr) (fun _ i _ _ _ _ => ahead l.length (intOf i))
  case atStart => exact ⟨0, l.length + 1, w.heap.size, 0, [], rfl, rfl, by omega, rfl, by simp, .inl rfl, H1.out, HB1.out⟩
  case round =>
    clear H1 HB1
    obtain ⟨a, f, g, cap, xs, rfl, rfl, hf, he, hx, ha, hown, hb⟩ := hrel
    have HE := Lib.hid he
    clear he
    by_cases h0 : 0 ≤ find l (a : Int)
    · obtain ⟨m, p, e, hm, ham, hbl, hp, h23, hel, h6⟩ := find_some h0
      obtain ⟨f', rfl⟩ : ∃ f', f = f' + 1 := ⟨f - 1, by omega⟩
      have HN : Hid (allL l = (xs ++ [p]) ++ allG l f' e) := Lib.hid (by rw [HE.out, allG_yes hm hp, List.append_assoc]; rfl)
      have hpa := fun u => HP.out m u (by omega)
      rw [parse_yes m hbl (by omega), hp] at hpa
      have HPA : Hid (∀ u : World, Calls Try.prog 26 #[.string (str l), .int .i64 (m : Int)] u fun e' w' => e' = .returned (.tuple #[.string (str p), .int .i64 (e : Int), .bool true]) ∧ Below u.heap.size u w') := hpa
      have HFA := Lib.hid (fun u : World => HF.out e u (by omega))
      have HFS : Hid (find l (e : Int) < 0 ∨ (e : Int) ≤ find l (e : Int)) := Lib.hid (by
        by_cases h1 : 0 ≤ find l (e : Int)
        · obtain ⟨m', _, _, h2, h3, _⟩ := find_some h1
          right; omega
        · left; omega)
      rw [hm]
      clear hpa hp hm h0 HE hbl
      go_wp2_with fail
      refine (HPA.out _).mono ?_
      rintro e' w2 ⟨rfl, k2⟩
      have hown2 := hown.below k2 hown.lt.2
      have hb2 := hb.trans (k2.mono hb.size)
      clear hown hb k2
      go_wp2_with (first | (at_builtin; refine app1 (w0 := w) 29 9 Try.underlying29 info_str rfl rfl _ _ rfl w.heap.size g xs.length cap _ _ rfl rfl hown2 hb2 (Nat.le_refl _) rfl (by omega) (by unfold maxLen; omega) ?_; intro g2 cap2 w3 hown3 hb3) | (go_at_call 25; refine (HFA.out _).mono ?_; rintro e' w4 ⟨rfl, k4⟩))
      have hown4 := hown3.below k4 hown3.lt.2
      have hb4 := hb3.trans (k4.mono hb3.size)
      clear hown2 hb2 hown3 hb3 k4
      go_roundw
      case rel => exact ⟨e, f', g2, cap2, xs ++ [p], rfl, by simp, by omega, HN.out, by simp; omega, .inr (by omega), by simpa [strV] using hown4, hb4⟩
      case measure =>
        exact ahead_lt HFS.out (by omega) hel
    · have hneg : find l (a : Int) < 0 := by omega
      have HN : Hid (allL l = xs) := Lib.hid (by rw [HE.out, allG_no hneg, List.append_nil])
      generalize find l (a : Int) = q at *
      rw [← HN.out] at hown ⊢
      go_wp2
      go_ret
      exact ⟨g, cap, rfl, hown, hb⟩
set_option maxHeartbeats 4000000 in
theorem allS_any (l : List UInt8) (w : World) (hl : l.length ≤ 2000000) :
    Calls Try.prog 14 #[.string (str l)] w fun e w' => ∃ g cap : Nat, e = .returned (.slice (some ⟨g, 0, none⟩) (allL l).length cap) ∧ Own w' w.heap.size 9 g (allL l).length cap ((allL l).map strV) ∧ Below w.heap.size w w' := by
  have HF := Lib.hid (fun (a : Nat) (u : World) (h : a ≤ 2000000) => findS_any l (a : Int) u hl (by omega) (by omega))
  have HP := Lib.hid (fun (m : Nat) (u : World) (h : m ≤ 2000000) => parseS_any l (m : Int) u hl (by omega) (by omega))
  have HF0 := HF.out 0 
  have HZ := Lib.hid (fun u : World => HF.out 0 u (by omega))
  clear HF0
  simp only [Int.ofNat_zero, Int.natCast_zero] at HZ
  have h0 := Own.lit (w := w) (B := w.heap.size) 9 #[] 0 (Nat.le_refl _) (Nat.zero_le _) rfl
  have hb0 : Below w.heap.size w (w.alloc (.cells #[] 9)) := (Below.refl _ _).alloc (Nat.le_refl _) _
  have H0 := Lib.hid h0
  have HB0 := Lib.hid hb0
  clear h0 hb0
  go_enter Try.func14, Try.ntmps14
  go_wp2_with fail
  refine (HZ.out _).mono ?_
  rintro e w1 ⟨rfl, k1⟩
  have H1 := Lib.hid (H0.out.below k1 H0.out.lt.2)
  have HB1 := Lib.hid (HB0.out.trans (k1.mono HB0.out.size))
  clear k1 H0 HB0
  go_wp2
  go_loopw [3, 4, 5, 6, 7] (fun v i _ _ _ wr => ∃ (a f g cap : Nat) (xs : List (List UInt8)), i = .int .i64 (find l (a : Int)) ∧ v = .slice (some ⟨g, 0, none⟩) xs.length cap ∧ l.length < a + f ∧ allL l = xs ++ allG l f a ∧ 23 * xs.length ≤ a ∧ (a = 0 ∨ a ≤ 600) ∧ Own wr w.heap.size 9 g xs.length cap (xs.map strV) ∧ Below w.heap.size w wr) (fun _ i _ _ _ _ => ahead l.length (intOf i))
  case atStart => exact ⟨0, l.length + 1, w.heap.size, 0, [], rfl, rfl, by omega, rfl, by simp, .inl rfl, H1.out, HB1.out⟩
  case round =>
    clear H1 HB1
    obtain ⟨a, f, g, cap, xs, rfl, rfl, hf, he, hx, ha, hown, hb⟩ := hrel
    have HE := Lib.hid he
    clear he
    by_cases h0 : 0 ≤ find l (a : Int)
    · obtain ⟨m, p, e, hm, ham, hbl, hp, h23, hel, h6⟩ := find_some h0
      obtain ⟨f', rfl⟩ : ∃ f', f = f' + 1 := ⟨f - 1, by omega⟩
      have HN : Hid (allL l = (xs ++ [p]) ++ allG l f' e) := Lib.hid (by rw [HE.out, allG_yes hm hp, List.append_assoc]; rfl)
      have hpa := fun u => HP.out m u (by omega)
      rw [parse_yes m hbl (by omega), hp] at hpa
      have HPA : Hid (∀ u : World, Calls Try.prog 24 #[.string (str l), .int .i64 (m : Int)] u fun e' w' => e' = .returned (.tuple #[.string (str p), .int .i64 (e : Int), .bool true]) ∧ Below u.heap.size u w') := hpa
      have HFA := Lib.hid (fun u : World => HF.out e u (by omega))
      have HFS : Hid (find l (e : Int) < 0 ∨ (e : Int) ≤ find l (e : Int)) := Lib.hid (by
        by_cases h1 : 0 ≤ find l (e : Int)
        · obtain ⟨m', _, _, h2, h3, _⟩ := find_some h1
          right; omega
        · left; omega)
      rw [hm]
      clear hpa hp hm h0 HE hbl
      go_wp2_with fail
      refine (HPA.out _).mono ?_
      rintro e' w2 ⟨rfl, k2⟩
      have hown2 := hown.below k2 hown.lt.2
      have hb2 := hb.trans (k2.mono hb.size)
      clear hown hb k2
      go_wp2_with (first | (at_builtin; refine app1 (w0 := w) 29 9 Try.underlying29 info_str rfl rfl _ _ rfl w.heap.size g xs.length cap _ _ rfl rfl hown2 hb2 (Nat.le_refl _) rfl (by omega) (by unfold maxLen; omega) ?_; intro g2 cap2 w3 hown3 hb3) | (go_at_call 23; refine (HFA.out _).mono ?_; rintro e' w4 ⟨rfl, k4⟩))
      have hown4 := hown3.below k4 hown3.lt.2
      have hb4 := hb3.trans (k4.mono hb3.size)
      clear hown2 hb2 hown3 hb3 k4
      go_roundw
      case rel => exact ⟨e, f', g2, cap2, xs ++ [p], rfl, by simp, by omega, HN.out, by simp; omega, .inr (by omega), by simpa [strV] using hown4, hb4⟩
      case measure =>
        exact ahead_lt HFS.out (by omega) hel
    · have hneg : find l (a : Int) < 0 := by omega
      have HN : Hid (allL l = xs) := Lib.hid (by rw [HE.out, allG_no hneg, List.append_nil])
      generalize find l (a : Int) = q at *
      rw [← HN.out] at hown ⊢
      go_wp2
      go_ret
      exact ⟨g, cap, rfl, hown, hb⟩
set_option maxHeartbeats 1000000 in
theorem eqStr_any {w : World} {B B' g g' cap cap' : Nat} (xs : List (List UInt8)) (h : Own w B 9 g xs.length cap (xs.map strV)) (h' : Own w B' 9 g' xs.length cap' (xs.map strV)) (hn : xs.length ≤ 1000) :
    Calls Try.prog 16 #[.slice (some ⟨g, 0, none⟩) xs.length cap, .slice (some ⟨g', 0, none⟩) xs.length cap'] w fun e w' => e = .returned (.bool true) ∧ Below w.heap.size w w' := by
  have HO := Lib.hid h
  have HO' := Lib.hid h'
  clear h h'
  go_enter Try.func16, Try.ntmps16
  go_wp2
  go_loopw [5] (fun i wr => ∃ k : Nat, i = .int .i64 (k : Int) ∧ k ≤ xs.length ∧ Below w.heap.size w wr) (fun i _ => xs.length - (intOf i).toNat)
  case atStart => exact ⟨0, rfl, Nat.zero_le _, Below.refl _ _⟩
  case round =>
    obtain ⟨k, rfl, hk, hb⟩ := hrel
    by_cases hlt : k < xs.length
    · have c1 := (HO.out.below hb HO.out.lt.2).cell hlt
      have c2 := (HO'.out.below hb HO'.out.lt.2).cell hlt
      have e : (xs.map strV)[k]? = some (strV xs[k]) := by rw [List.getElem?_map, List.getElem?_eq_getElem hlt]; rfl
      rw [e] at c1 c2
      unfold strV at c1 c2
      generalize xs[k] = x at *
      clear e
      go_wp2
      refine wp_region_still_lit (by kernel_rfl) (by kernel_rfl) ?_
      repeat (refine wpStill_step (fun K hK => ?_); (try go_simp); (try simp only [IntWalk.iteOmega]); (try go_ints); (try simp (disch := omega) only [dif_pos]); (try go_simp); refine hK _ ?_; clear hK K)
      refine wpStill_nil ?_
      go_wp2
      go_roundw
      case rel => exact ⟨k + 1, by go_num, by omega, hb.drew⟩
      case measure => simp [intOf]; omega
    · go_wp2
      go_ret
      exact ⟨rfl, hb⟩
def mdig (d : Nat) : UInt8 := UInt8.ofNat (48 + d)
def mtF : Nat → Nat → List UInt8 → List UInt8
  | 0, _, o => o
  | f + 1, k, o => if k = 0 then o else mtF f (k / 10) (mdig (k % 10) :: o)
/-- the text of a mark -/
def mtx (k : Nat) : List UInt8 := 109 :: mtF 8 k []
set_option maxHeartbeats 1000000 in
theorem mtx_any (k0 : Nat) (w : World) (h1 : 1 ≤ k0) (h2 : k0 ≤ 100000) : Calls Try.prog 27 #[.int .i64 (k0 : Int)] w fun e w' => e = .returned (.string (str (mtx k0))) ∧ Below w.heap.size w w' := by
  have hcv : ∀ (d : Nat) (u : World), d ≤ 9 → (convert 48 9 (.slice (some ⟨u.heap.size, 0, none⟩) 1 1)).run Try.prog (u.alloc (.cells #[.int .u8 (48 + (d : Int))] 5)) = .ok (.string (str [mdig d])) (u.alloc (.cells #[.int .u8 (48 + (d : Int))] 5)) := by
    intro d u h
    have ho := Own.lit (w := u) (B := u.heap.size) 5 #[.int .u8 (48 + (d : Int))] 1 (Nat.le_refl _) (by unfold maxLen; omega) rfl
    refine conv_own (P := Try.prog) [mdig d] rfl (B := u.heap.size) ?_ Try.underlying48 Try.underlying5 Try.underlying9
    have e : ([mdig d] : List UInt8).map byteV = [.int .u8 (48 + (d : Int))] := by
      simp only [List.map_cons, List.map_nil, byteV, mdig]
      congr 2
      rw [UInt8.toNat_ofNat', Nat.mod_eq_of_lt (by omega)]
      omega
    rw [e]
    exact ho
  have HCV := Lib.hid hcv
  clear hcv
  go_enter Try.func27, Try.ntmps27
  go_wp2
  go_loopw [0, 3] (fun i v wr => ∃ (k f : Nat) (o : List UInt8), i = .int .i64 (k : Int) ∧ v = .string (str o) ∧ k < 10 ^ f ∧ f + o.length ≤ 8 ∧ k ≤ 100000 ∧ mtF 8 k0 [] = mtF f k o ∧ Below w.heap.size w wr) (fun i _ _ => (intOf i).toNat)
  case atStart => exact ⟨k0, 8, [], rfl, rfl, by omega, by simp, h2, rfl, Below.refl _ _⟩
  case round =>
    obtain ⟨k, f, o, rfl, rfl, hkf, hfo, hk, he, hb⟩ := hrel
    have HE := Lib.hid he
    clear he
    have zo := str_size o
    by_cases h0 : 0 < k
    · obtain ⟨f', rfl⟩ : ∃ f', f = f' + 1 := ⟨f - 1, by
        rcases f with _ | f
        · simp at hkf; omega
        · rfl⟩
      obtain ⟨d, hd, hd9⟩ : ∃ d : Nat, d = k % 10 ∧ d ≤ 9 := ⟨_, rfl, by omega⟩
      have hdI : (k : Int) % 10 = (d : Int) := by omega
      obtain ⟨q, hq⟩ : ∃ q : Nat, q = k / 10 := ⟨_, rfl⟩
      have hqI : (k : Int) / 10 = (q : Int) := by omega
      have hqf : q < 10 ^ f' := by rw [Nat.pow_succ] at hkf; omega
      have HN : Hid (mtF 8 k0 [] = mtF f' q (mdig d :: o)) := Lib.hid (by rw [HE.out, mtF, if_neg (by omega), hd, hq])
      have hqk : q < k := by omega
      have s1 : str [mdig d] ++ str o = str (mdig d :: o) := str_add _ _
      have z1 := str_size [mdig d]
      have hcv := HCV.out d wr hd9
      have hdI2 : (0 : Int) ≤ (d : Int) ∧ (d : Int) ≤ 9 := by omega
      clear hd hq hkf HE
      go_wp2
      go_roundw
      case rel => exact ⟨q, f', mdig d :: o, rfl, rfl, hqf, by simp; omega, by omega, HN.out, hb.alloc hb.size _⟩
      case measure => simp [intOf]; omega
    · obtain rfl : k = 0 := by omega
      have HN : Hid (mtF 8 k0 [] = o) := Lib.hid (by rw [HE.out]; cases f with
        | zero => rfl
        | succ f => simp [mtF])
      have s1 : (⟨#[109]⟩ : ByteArray) ++ str o = str (109 :: o) := str_add [109] o
      go_wp2
      go_ret
      have HM : mtx k0 = 109 :: o := by unfold mtx; rw [HN.out]
      exact ⟨by rw [HM]; rfl, hb⟩
theorem set_str {xs : List Value} {n k : Nat} {f : Nat → Value} (hn : xs.length = n) (hk : k < n) (h : ∀ j, j < k → xs[j]? = some (f j)) : ∀ j, j < k + 1 → (xs.set k (f k))[j]? = some (f j) := by
  intro j hj
  by_cases e : j = k
  · subst e; rw [List.getElem?_set_self (by omega)]
  · rw [List.getElem?_set_ne (by omega)]; exact h j (by omega)
/-- the marks from 1 on -/
def markL (n : Nat) : List Value := (List.range n).map fun j => strV (mtx (1 + j))
theorem markL_at {n j : Nat} (h : j < n) : (markL n)[j]? = some (strV (mtx (1 + j))) := by simp [markL, h]
set_option maxHeartbeats 1000000 in
theorem markStr_any {w : World} {B g n cap : Nat} {xs : List Value} (ho : Own w B 9 g n cap xs) (hn : n ≤ 1000) :
    Calls Try.prog 17 #[.slice (some ⟨g, 0, none⟩) n cap, .int .i64 1] w fun e w' => e = .returned (.int .i64 (1 + (n : Int))) ∧ Own w' B 9 g n cap (markL n) ∧ Keeps g w w' := by
  have HO := Lib.hid ho
  have hg := ho.lt.2
  clear ho
  go_enter Try.func17, Try.ntmps17
  go_wp2
  go_loopw [1, 5] (fun m i wr => ∃ (k : Nat) (ys : List Value), k ≤ n ∧ i = .int .i64 k ∧ m = .int .i64 (1 + (k : Int)) ∧ Own wr B 9 g n cap ys ∧ (∀ j, j < k → ys[j]? = some (strV (mtx (1 + j)))) ∧ Keeps g w wr) (fun _ i _ => n - (intOf i).toNat)
  case atStart => exact ⟨0, xs, Nat.zero_le _, rfl, rfl, HO.out, fun j hj => absurd hj (by omega), Keeps.refl _ _⟩
  case round =>
    clear HO
    obtain ⟨k, ys, hk, rfl, rfl, hown, hys, hkp⟩ := hrel
    have HY := Lib.hid hys
    clear hys
    by_cases hlt : k < n
    · have hlen := hown.len
      have hm := fun u => mtx_any (1 + k) u (by omega) (by omega)
      have e1 : (((1 + k : Nat) : Nat) : Int) = 1 + (k : Int) := by omega
      rw [e1] at hm
      have HM := Lib.hid hm
      have HLN := Lib.hid hlen
      clear hm hlen e1
      go_wp2_with fail
      refine (HM.out _).mono ?_
      rintro e w2 ⟨rfl, k2⟩
      have hown2 := hown.below k2 hown.lt.2
      have hk2 := hkp.after k2
      have hc := hown2.cell hlt
      have hlen := HLN.out
      rw [List.getElem?_eq_getElem (by omega)] at hc
      have hf := hown2.frozen k
      obtain ⟨u, hu⟩ : ∃ u, u = ys[k]'(by omega) := ⟨_, rfl⟩
      rw [← hu] at hc
      have HK2 := Lib.hid hk2
      have HO2 := Lib.hid hown2
      have hg2 := hown2.lt.2
      clear hu hown k2 hkp hown2 hk2 hlen
      go_wp2
      go_roundw
      case rel => exact ⟨k + 1, ys.set k (strV (mtx (1 + k))), by omega, by go_num, by congr 1, HO2.out.set k _, set_str (f := fun j => strV (mtx (1 + j))) HLN.out hlt HY.out, HK2.out.trans ⟨(Below.refl g _).setCell (p := ⟨g, k, none⟩) (Nat.le_refl g) _, fun b hb hs => Below.heap_setCell _ _ _ b hb⟩⟩
      case measure => simp [intOf]; omega
    · obtain rfl : k = n := by omega
      have hlen := hown.len
      have e : ys = markL k := by
        apply List.ext_getElem?
        intro i
        by_cases hi : i < k
        · rw [HY.out i hi, markL_at hi]
        · rw [List.getElem?_eq_none (by omega), List.getElem?_eq_none (by simp [markL]; omega)]
      rw [e] at hown
      clear e
      go_wp2
      go_ret
      exact ⟨rfl, hown, hkp⟩
set_option maxHeartbeats 1000000 in
theorem heldStr_any {w : World} {B g n cap : Nat} (ho : Own w B 9 g n cap (markL n)) (hn : n ≤ 1000) :
    Calls Try.prog 18 #[.slice (some ⟨g, 0, none⟩) n cap, .int .i64 1] w fun e w' => e = .returned (.int .i64 (1 + (n : Int))) ∧ Below w.heap.size w w' := by
  have HO := Lib.hid ho
  clear ho
  go_enter Try.func18, Try.ntmps18
  go_wp2
  go_loopw [1, 5] (fun m i wr => ∃ k : Nat, k ≤ n ∧ i = .int .i64 k ∧ m = .int .i64 (1 + (k : Int)) ∧ Below w.heap.size w wr) (fun _ i _ => n - (intOf i).toNat)
  case atStart => exact ⟨0, Nat.zero_le _, rfl, rfl, Below.refl _ _⟩
  case round =>
    obtain ⟨k, hk, rfl, rfl, hb⟩ := hrel
    by_cases hlt : k < n
    · have hm := fun u => mtx_any (1 + k) u (by omega) (by omega)
      have e1 : (((1 + k : Nat) : Nat) : Int) = 1 + (k : Int) := by omega
      rw [e1] at hm
      have HM := Lib.hid hm
      have HC : Hid (∀ u, Below w.heap.size w u → u.cell? ⟨g, k, none⟩ = some (.string (str (mtx (1 + k))))) := Lib.hid fun u hu => by
        rw [(HO.out.below hu HO.out.lt.2).cell hlt, markL_at hlt]; rfl
      generalize mtx (1 + k) = x at *
      have hgk : (k : Int) < (n : Int) := by omega
      have hgk0 : (0 : Int) ≤ (k : Int) := by omega
      clear hm e1
      go_wp2
      go_region_held3 (fun u => u.cell? ⟨g, k, none⟩ = some (.string (str x))) (exact HC.out _ (by first | assumption | exact Below.drew (by assumption))) (first | (go_at_call 27; refine ((HM.out _).mono (fun e w' (h : e = _ ∧ Below _ _ w') => (⟨h.1, below_next (by first | assumption | exact Below.drew (by assumption)) h.2⟩ : e = _ ∧ Below w.heap.size w w'))).mono ?_; rintro e v1 ⟨rfl, hv1⟩))
      all_goals
        go_wp2
        go_roundw
        case rel => exact ⟨k + 1, by omega, by go_num, by congr 1, hv1⟩
        case measure => simp [intOf] <;> omega
    · obtain rfl : k = n := by omega
      go_wp2
      go_ret
      exact ⟨rfl, hb⟩
end Go.Proofs.Ytfcnpbcnpielcaa
