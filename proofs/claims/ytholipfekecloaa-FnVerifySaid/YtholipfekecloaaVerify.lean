/- Contracts of VerifyOffset. -/
import Derived.Test.YtholipfekecloaaReady
namespace Go.Proofs.Ytholipfekecloaa
set_option maxRecDepth 20000
open Go.ChangeShapes Go.WideShapes Go.ChangeAt Go.RowKit
set_option linter.unusedVariables false
set_option linter.unusedSimpArgs false

/-- in how many of the first k periods the score is great enough -/
def vcnt (z : List Int) (l : List UInt8) (m off : Nat) (t : Int) : Nat → Nat
  | 0 => 0
  | k + 1 => vcnt z l m off t k + if t ≤ score z l m off (k * (l.length * m)) then 1 else 0
theorem vcnt_le (z : List Int) (l : List UInt8) (m off : Nat) (t : Int) (k : Nat) : vcnt z l m off t k ≤ k := by
  induction k with
  | zero => exact Nat.le_refl _
  | succ k ih => simp only [vcnt]; split <;> omega
theorem scT_drop (z : List Int) (l : List UInt8) (m off fr : Nat) : ∀ k, scT (z.drop fr) l m off 0 k = scT z l m off fr k
  | 0 => rfl
  | k + 1 => by
    rw [scT, scT, scT_drop z l m off fr k]
    congr 2
    simp [List.getD_eq_getElem?_getD]
theorem score_drop (z : List Int) (l : List UInt8) (m off fr : Nat) : score (z.drop fr) l m off 0 = score z l m off fr := scT_drop _ _ _ _ _ _
theorem score_past {z : List Int} {l : List UInt8} {m off fr : Nat} (h : z.length ≤ fr) : score z l m off fr = 0 := by
  have := scT_end (z := z) (l := l) (m := m) (off := off) (fr := fr) (k := 0) (by omega) (l.length * m)
  rw [Nat.zero_add] at this
  exact this
theorem sig_drop {z : List Int} (h : sigOK z = true) (k : Nat) : sigOK (z.drop k) = true := by
  simp only [sigOK, Bool.and_eq_true, decide_eq_true_eq, List.all_eq_true] at h ⊢
  exact ⟨by rw [List.length_drop]; omega, fun x hx => h.2 x (List.mem_of_mem_drop hx)⟩
/-- what VerifyOffset returns -/
def verB (z : List Int) (s : ByteArray) (n x t p d : Int) : Bool := sigOK z && offOK s n x && inB p 0 200 && decide (d ≤ (vcnt z s.data.toList n.toNat x.toNat t p.toNat : Int))
theorem verB_ns {z : List Int} {s : ByteArray} {n x t p d : Int} (h : sigOK z = false) : verB z s n x t p d = false := by simp [verB, h]
theorem verB_no {z : List Int} {s : ByteArray} {n x t p d : Int} (h : offOK s n x = false) : verB z s n x t p d = false := by simp [verB, h]
theorem verB_np {z : List Int} {s : ByteArray} {n x t p d : Int} (h : inB p 0 200 = false) : verB z s n x t p d = false := by simp [verB, h]
theorem verB_yes {z : List Int} {s : ByteArray} {m off p : Nat} {t d : Int} (h : sigOK z = true) (h' : offOK s (m : Int) (off : Int) = true) (h'' : inB (p : Int) 0 200 = true) :
    verB z s (m : Int) (off : Int) t (p : Int) d = decide (d ≤ (vcnt z s.data.toList m off t p : Int)) := by simp [verB, h, h', h'']
set_option maxHeartbeats 3000000 in
theorem verI_yes (A : Option Addr) (c : Nat) (z : List Int) (s : ByteArray) (m off p : Nat) (t d : Int) (w : World) (hr : Reads w w.heap.size A z) (hcap : z.length ≤ c) (hz : sigOK z = true) (ho : offOK s (m : Int) (off : Int) = true) (hp2 : p ≤ 200) (hs : s.size ≤ maxLen) :
    Calls Try.prog 33 #[.slice A z.length c, .agg #[.string s, .int .i64 (m : Int)], .int .i64 off, .int .i64 t, .int .i64 p, .int .i64 d] w fun e w' => e = .returned (.bool (decide (d ≤ (vcnt z s.data.toList m off t p : Int)))) ∧ Below w.heap.size w w' := by
  obtain ⟨m', off', e1, e2, hp, h0, h1, h2, h3, h4, h5⟩ := off_nat ho
  obtain rfl : m = m' := by omega
  obtain rfl : off = off' := by omega
  clear e1 e2
  have hl := sig_len hz
  obtain ⟨L, hLe⟩ : ∃ L, L = s.size * m := ⟨_, rfl⟩
  have HPL : Hid (∀ u : World, Calls Try.prog 13 #[.agg #[.string s, .int .i64 (m : Int)]] u fun e w' => e = .returned (.int .i64 (L : Int)) ∧ Below u.heap.size u w') := fun u => by rw [hLe]; exact plenI_nat u hp hs
  have HSC : Hid (∀ (fr c' : Nat) (u : World), fr ≤ z.length → Below (w.alloc (.cells #[.string s, .int .i64 (m : Int)] 24)).heap.size (w.alloc (.cells #[.string s, .int .i64 (m : Int)] 24)) u → Calls Try.prog 68 #[.slice (if c = fr then A else A.map (·.add fr)) (z.length - fr) c', .agg #[.string s, .int .i64 (m : Int)], .int .i64 off] u fun e w' => e = .returned (.int .i64 (score z s.data.toList m off fr)) ∧ Below u.heap.size u w') := fun fr c' u hf hu => by
    have := scoreI_any (if c = fr then A else A.map (·.add fr)) c' (z.drop fr) s m off u ((reads_up hr hu).cut hf hcap) (sig_drop hz fr) h1 h2 h3 h4 h5 (by omega) (by omega)
    rw [score_drop, List.length_drop] at this
    exact this
  have HVC : Hid (∀ k q, q = k * L → vcnt z s.data.toList m off t (k + 1) = vcnt z s.data.toList m off t k + if t ≤ score z s.data.toList m off q then 1 else 0) := fun k q hq => by
    rw [hq, hLe]; show vcnt z s.data.toList m off t k + (if t ≤ score z s.data.toList m off (k * (s.data.toList.length * m)) then 1 else 0) = _; rw [data_length]
  have HR := Lib.hid hr
  have hoL : off < L := by omega
  have hL2 : L ≤ 2040 := by omega
  clear hr hp hLe
  have d1 : decide ((p : Int) < 0) = false := decide_eq_false (by omega)
  have d2 : decide ((200 : Int) < (p : Int)) = false := decide_eq_false (by omega)
  go_enter Try.func33, Try.ntmps33
  have hb := Below.refl (w.alloc (.cells #[.string s, .int .i64 (m:Int)] 24)).heap.size (w.alloc (.cells #[.string s, .int .i64 (m:Int)] 24))
  go_wp2_with fail
  refine (sigI_any _ _ _ _ (reads_up HR.out hb) (by omega)).mono ?_
  rintro e w' ⟨rfl, rfl⟩
  go_wp2_with fail
  refine (isOff_any _ _ _ _ hs).mono ?_
  rintro e w1 ⟨rfl, k⟩
  replace hb := below_next hb k
  clear k
  (try clear hc hf)
  obtain ⟨hc, hf⟩ := bcell hb
  go_wp2
  go_loopw [13, 14, 15, 34] (fun v _ _ i wr => ∃ k : Nat, k ≤ p ∧ i = .int .i64 k ∧ v = .int .i64 (vcnt z s.data.toList m off t k) ∧ Below (w.alloc (.cells #[.string s, .int .i64 (m : Int)] 24)).heap.size (w.alloc (.cells #[.string s, .int .i64 (m : Int)] 24)) wr) (fun _ _ _ i _ => p - (intOf i).toNat)
  case atStart => exact ⟨0, Nat.zero_le _, rfl, rfl, hb⟩
  case round =>
    clear hb hc hf d1 d2
    obtain ⟨k, hk, rfl, rfl, hb⟩ := hrel
    have hvl := vcnt_le z s.data.toList m off t k
    obtain ⟨hc, hf⟩ := bcell hb
    by_cases hlt : k < p
    · obtain ⟨q, hq⟩ : ∃ q, q = k * L := ⟨_, rfl⟩
      have hqb : q ≤ 408000 := by rw [hq]; have : k * L ≤ 200 * 2040 := Nat.mul_le_mul (by omega) hL2; omega
      have eq1 : (k : Int) * (L : Int) = (q : Int) := by rw [hq]; simp
      have HV := Lib.hid (HVC.out k q hq)
      clear hq
      have key : ∃ fr : Nat, fr ≤ z.length ∧ score z s.data.toList m off fr = score z s.data.toList m off q ∧ (q < z.length ∧ fr = q ∨ z.length ≤ q ∧ fr = z.length) := by
        by_cases h : q < z.length
        · exact ⟨q, by omega, rfl, .inl ⟨h, rfl⟩⟩
        · exact ⟨z.length, Nat.le_refl _, by rw [score_past (Nat.le_refl _), score_past (by omega)], .inr ⟨by omega, rfl⟩⟩
      obtain ⟨fr, hfr, hsq, hcase⟩ := key
      rw [← hsq] at HV
      clear hsq
      go_wp2_with fail
      refine (HPL.out _).mono ?_
      rintro e w1 ⟨rfl, k⟩
      replace hb := below_next hb k
      clear k
      (try clear hc hf)
      obtain ⟨hc, hf⟩ := bcell hb
      have fin : ∀ (b : Bool), True := fun _ => trivial
      rcases hcase with ⟨hq1, rfl⟩ | ⟨hq1, rfl⟩
      · by_cases hcf : c = fr
        · exfalso; omega
        · have HS2 : Hid (∀ (c' : Nat) (u : World), Below (w.alloc (.cells #[.string s, .int .i64 (m : Int)] 24)).heap.size (w.alloc (.cells #[.string s, .int .i64 (m : Int)] 24)) u → Calls Try.prog 68 #[.slice (A.map (·.add fr)) (z.length - fr) c', .agg #[.string s, .int .i64 (m : Int)], .int .i64 off] u fun e w' => e = .returned (.int .i64 (score z s.data.toList m off fr)) ∧ Below u.heap.size u w') := fun c' u hu => by
            have := HSC.out fr c' u hfr hu; rw [if_neg hcf] at this; exact this
          have i1 : (fr : Int) ≤ (z.length : Int) := by omega
          go_wp2
          clear hc hf eq1
          go_region_held3 (fun u => u.cell? ⟨w.heap.size, 0, none⟩ = some (.string s) ∧ u.cell? ⟨w.heap.size, 1, none⟩ = some (.int .i64 (m : Int))) (exact pcells (w := w) (by first | assumption | exact Below.drew (by assumption))) (first | (go_at_call 68; refine (rel_of (W0 := (w.alloc (.cells #[.string s, .int .i64 (m : Int)] 24))) (by first | assumption | exact Below.drew (by assumption)) (HS2.out _ _ (by first | assumption | exact Below.drew (by assumption)))).mono ?_; rintro e u1 ⟨rfl, hu1⟩))
          all_goals
            by_cases hh : t ≤ score z s.data.toList m off fr
            · have HV2 : Hid (vcnt z s.data.toList m off t (k + 1) = vcnt z s.data.toList m off t k + 1) := by have := HV.out; rw [if_pos hh] at this; exact this
              go_wp2
              go_roundw
              case rel => exact ⟨k + 1, by omega, by go_num, by rw [HV2.out]; go_num, by assumption⟩
              case measure => simp [intOf]; omega
            · have HV2 : Hid (vcnt z s.data.toList m off t (k + 1) = vcnt z s.data.toList m off t k) := by have := HV.out; rw [if_neg hh] at this; exact this
              go_wp2
              go_roundw
              case rel => exact ⟨k + 1, by omega, by go_num, by rw [HV2.out], by assumption⟩
              case measure => simp [intOf]; omega
      · obtain ⟨fr, hfe⟩ : ∃ fr, fr = z.length := ⟨_, rfl⟩
        rw [← hfe] at HV
        have hqq : q = z.length ∨ z.length < q := by omega
        by_cases hcf : c = z.length
        · have HS2 : Hid (∀ (c' : Nat) (u : World), Below (w.alloc (.cells #[.string s, .int .i64 (m : Int)] 24)).heap.size (w.alloc (.cells #[.string s, .int .i64 (m : Int)] 24)) u → Calls Try.prog 68 #[.slice A 0 c', .agg #[.string s, .int .i64 (m : Int)], .int .i64 off] u fun e w' => e = .returned (.int .i64 (score z s.data.toList m off fr)) ∧ Below u.heap.size u w') := fun c' u hu => by
            have := HSC.out z.length c' u hfr hu; rw [if_pos hcf, Nat.sub_self] at this; rw [hfe]; exact this
          subst hcf
          clear hfe
          rcases hqq with rfl | hqq
          all_goals
            go_wp2
            clear hc hf eq1
            go_region_held3 (fun u => u.cell? ⟨w.heap.size, 0, none⟩ = some (.string s) ∧ u.cell? ⟨w.heap.size, 1, none⟩ = some (.int .i64 (m : Int))) (exact pcells (w := w) (by first | assumption | exact Below.drew (by assumption))) (first | (go_at_call 68; refine (rel_of (W0 := (w.alloc (.cells #[.string s, .int .i64 (m : Int)] 24))) (by first | assumption | exact Below.drew (by assumption)) (HS2.out _ _ (by first | assumption | exact Below.drew (by assumption)))).mono ?_; rintro e u1 ⟨rfl, hu1⟩))
            all_goals
              by_cases hh : t ≤ score z s.data.toList m off fr
              · have HV2 : Hid (vcnt z s.data.toList m off t (k + 1) = vcnt z s.data.toList m off t k + 1) := by have := HV.out; rw [if_pos hh] at this; exact this
                go_wp2
                go_roundw
                case rel => exact ⟨k + 1, by omega, by go_num, by rw [HV2.out]; go_num, by assumption⟩
                case measure => simp [intOf]; omega
              · have HV2 : Hid (vcnt z s.data.toList m off t (k + 1) = vcnt z s.data.toList m off t k) := by have := HV.out; rw [if_neg hh] at this; exact this
                go_wp2
                go_roundw
                case rel => exact ⟨k + 1, by omega, by go_num, by rw [HV2.out], by assumption⟩
                case measure => simp [intOf]; omega
        · have HS2 : Hid (∀ (c' : Nat) (u : World), Below (w.alloc (.cells #[.string s, .int .i64 (m : Int)] 24)).heap.size (w.alloc (.cells #[.string s, .int .i64 (m : Int)] 24)) u → Calls Try.prog 68 #[.slice (A.map (·.add z.length)) 0 c', .agg #[.string s, .int .i64 (m : Int)], .int .i64 off] u fun e w' => e = .returned (.int .i64 (score z s.data.toList m off fr)) ∧ Below u.heap.size u w') := fun c' u hu => by
            have := HSC.out z.length c' u hfr hu; rw [if_neg hcf, Nat.sub_self] at this; rw [hfe]; exact this
          clear hfe
          rcases hqq with rfl | hqq
          all_goals
            go_wp2
            clear hc hf eq1
            go_region_held3 (fun u => u.cell? ⟨w.heap.size, 0, none⟩ = some (.string s) ∧ u.cell? ⟨w.heap.size, 1, none⟩ = some (.int .i64 (m : Int))) (exact pcells (w := w) (by first | assumption | exact Below.drew (by assumption))) (first | (go_at_call 68; refine (rel_of (W0 := (w.alloc (.cells #[.string s, .int .i64 (m : Int)] 24))) (by first | assumption | exact Below.drew (by assumption)) (HS2.out _ _ (by first | assumption | exact Below.drew (by assumption)))).mono ?_; rintro e u1 ⟨rfl, hu1⟩))
            all_goals
              by_cases hh : t ≤ score z s.data.toList m off fr
              · have HV2 : Hid (vcnt z s.data.toList m off t (k + 1) = vcnt z s.data.toList m off t k + 1) := by have := HV.out; rw [if_pos hh] at this; exact this
                go_wp2
                go_roundw
                case rel => exact ⟨k + 1, by omega, by go_num, by rw [HV2.out]; go_num, by assumption⟩
                case measure => simp [intOf]; omega
              · have HV2 : Hid (vcnt z s.data.toList m off t (k + 1) = vcnt z s.data.toList m off t k) := by have := HV.out; rw [if_neg hh] at this; exact this
                go_wp2
                go_roundw
                case rel => exact ⟨k + 1, by omega, by go_num, by rw [HV2.out], by assumption⟩
                case measure => simp [intOf]; omega
    · obtain rfl : k = p := by omega
      go_wp2
      go_ret
      exact ⟨ret_bool (by simp), below_out hb⟩
theorem verI_any (A : Option Addr) (c : Nat) (z : List Int) (s : ByteArray) (n x t p d : Int) (w : World) (hr : Reads w w.heap.size A z) (hcap : z.length ≤ c) (hl : z.length ≤ 1048576) (hs : s.size ≤ maxLen) :
    Calls Try.prog 33 #[.slice A z.length c, .agg #[.string s, .int .i64 n], .int .i64 x, .int .i64 t, .int .i64 p, .int .i64 d] w fun e w' => e = .returned (.bool (verB z s n x t p d)) ∧ Below w.heap.size w w' := by
  have HR := Lib.hid hr
  cases hz : sigOK z
  · rw [verB_ns hz]
    clear hr
    go_enter Try.func33, Try.ntmps33
    have hb := Below.refl (w.alloc (.cells #[.string s, .int .i64 n] 24)).heap.size (w.alloc (.cells #[.string s, .int .i64 n] 24))
    go_wp2_with fail
    refine (sigI_any _ _ _ _ (reads_up HR.out hb) hl).mono ?_
    rintro e w' ⟨rfl, rfl⟩
    go_wp2
    go_ret
    exact ⟨rfl, below_out hb⟩
  · cases ho : offOK s n x
    · rw [verB_no ho]
      clear hr
      go_enter Try.func33, Try.ntmps33
      have hb := Below.refl (w.alloc (.cells #[.string s, .int .i64 n] 24)).heap.size (w.alloc (.cells #[.string s, .int .i64 n] 24))
      go_wp2_with fail
      refine (sigI_any _ _ _ _ (reads_up HR.out hb) hl).mono ?_
      rintro e w' ⟨rfl, rfl⟩
      go_wp2_with fail
      refine (isOff_any _ _ _ _ hs).mono ?_
      rintro e w1 ⟨rfl, k⟩
      replace hb := below_next hb k
      clear k
      (try clear hc hf)
      obtain ⟨hc, hf⟩ := bcell hb
      go_wp2
      go_ret
      exact ⟨rfl, below_out hb⟩
    · by_cases hp : 0 ≤ p ∧ p ≤ 200
      · obtain ⟨m, off, rfl, rfl, _⟩ := off_nat ho
        obtain ⟨q, rfl⟩ : ∃ q : Nat, p = q := ⟨p.toNat, by omega⟩
        rw [verB_yes hz ho (inB_yes hp.1 hp.2)]
        exact verI_yes A c z s m off q t d w hr hcap hz ho (by omega) hs
      · rw [verB_np (inB_no hp)]
        clear hr
        by_cases hp0 : 0 ≤ p
        · have d1 : decide (p < 0) = false := decide_eq_false (by omega)
          have d2 : decide ((200 : Int) < p) = true := decide_eq_true (by omega)
          clear hp
          go_enter Try.func33, Try.ntmps33
          have hb := Below.refl (w.alloc (.cells #[.string s, .int .i64 n] 24)).heap.size (w.alloc (.cells #[.string s, .int .i64 n] 24))
          go_wp2_with fail
          refine (sigI_any _ _ _ _ (reads_up HR.out hb) hl).mono ?_
          rintro e w' ⟨rfl, rfl⟩
          go_wp2_with fail
          refine (isOff_any _ _ _ _ hs).mono ?_
          rintro e w1 ⟨rfl, k⟩
          replace hb := below_next hb k
          clear k
          (try clear hc hf)
          obtain ⟨hc, hf⟩ := bcell hb
          go_wp2
          go_ret
          exact ⟨rfl, below_out hb⟩
        · have d1 : decide (p < 0) = true := decide_eq_true (by omega)
          clear hp
          go_enter Try.func33, Try.ntmps33
          have hb := Below.refl (w.alloc (.cells #[.string s, .int .i64 n] 24)).heap.size (w.alloc (.cells #[.string s, .int .i64 n] 24))
          go_wp2_with fail
          refine (sigI_any _ _ _ _ (reads_up HR.out hb) hl).mono ?_
          rintro e w' ⟨rfl, rfl⟩
          go_wp2_with fail
          refine (isOff_any _ _ _ _ hs).mono ?_
          rintro e w1 ⟨rfl, k⟩
          replace hb := below_next hb k
          clear k
          (try clear hc hf)
          obtain ⟨hc, hf⟩ := bcell hb
          go_wp2
          go_ret
          exact ⟨rfl, below_out hb⟩
set_option maxHeartbeats 3000000 in
theorem verS_any (A : Option Addr) (c : Nat) (z : List Int) (s : ByteArray) (n x t p d : Int) (w : World) (hr : Reads w w.heap.size A z) (hl : z.length ≤ 1048576) (hs : s.size ≤ maxLen) :
    Calls Try.prog 34 #[.slice A z.length c, .agg #[.string s, .int .i64 n], .int .i64 x, .int .i64 t, .int .i64 p, .int .i64 d] w fun e w' => e = .returned (.bool (verB z s n x t p d)) ∧ Below w.heap.size w w' := by
  have HR := Lib.hid hr
  cases hrd : (sigOK z && pilotOK s.data.toList n)
  · have hno : verB z s n x t p d = false := by
      rw [Bool.and_eq_false_iff] at hrd
      rcases hrd with h | h
      · exact verB_ns h
      · exact verB_no (off_inv h)
    rw [hno]
    clear hno hr
    go_enter Try.func34, Try.ntmps34
    have hb := Below.refl (w.alloc (.cells #[.string s, .int .i64 n] 24)).heap.size (w.alloc (.cells #[.string s, .int .i64 n] 24))
    go_wp2_with fail
    refine (readyS_any _ _ _ _ _ _ (reads_up HR.out hb) hl hs).mono ?_
    rintro e w1 ⟨rfl, k⟩
    replace hb := below_next hb k
    clear k
    (try clear hc hf)
    obtain ⟨hc, hf⟩ := bcell hb
    go_wp2
    go_ret
    exact ⟨rfl, below_out hb⟩
  · have hrd2 := hrd
    rw [Bool.and_eq_true] at hrd2
    obtain ⟨hz, hp⟩ := hrd2
    cases ho : offOK s n x
    · rw [verB_no ho]
      clear hr
      go_enter Try.func34, Try.ntmps34
      have hb := Below.refl (w.alloc (.cells #[.string s, .int .i64 n] 24)).heap.size (w.alloc (.cells #[.string s, .int .i64 n] 24))
      go_wp2_with fail
      refine (readyS_any _ _ _ _ _ _ (reads_up HR.out hb) hl hs).mono ?_
      rintro e w1 ⟨rfl, k⟩
      replace hb := below_next hb k
      clear k
      (try clear hc hf)
      obtain ⟨hc, hf⟩ := bcell hb
      go_wp2_with fail
      refine (l5Off_any _ _ _ _ hp).mono ?_
      rintro e w2 ⟨rfl, k⟩
      replace hb := below_next hb k
      clear k
      (try clear hc hf)
      obtain ⟨hc, hf⟩ := bcell hb
      go_wp2
      go_ret
      exact ⟨rfl, below_out hb⟩
    · cases hi : inB p 0 200
      · rw [verB_np hi]
        clear hr
        go_enter Try.func34, Try.ntmps34
        have hb := Below.refl (w.alloc (.cells #[.string s, .int .i64 n] 24)).heap.size (w.alloc (.cells #[.string s, .int .i64 n] 24))
        go_wp2_with fail
        refine (readyS_any _ _ _ _ _ _ (reads_up HR.out hb) hl hs).mono ?_
        rintro e w1 ⟨rfl, k⟩
        replace hb := below_next hb k
        clear k
        (try clear hc hf)
        obtain ⟨hc, hf⟩ := bcell hb
        go_wp2_with fail
        refine (l5Off_any _ _ _ _ hp).mono ?_
        rintro e w2 ⟨rfl, k⟩
        replace hb := below_next hb k
        clear k
        (try clear hc hf)
        obtain ⟨hc, hf⟩ := bcell hb
        go_wp2_with fail
        refine (l1In_any _ _ _ _).mono ?_
        rintro e w' ⟨rfl, rfl⟩
        go_wp2
        go_ret
        exact ⟨rfl, below_out hb⟩
      · have hi2 := hi
        simp only [inB, Bool.and_eq_true, decide_eq_true_eq] at hi2
        obtain ⟨p, rfl⟩ : ∃ q : Nat, p = q := ⟨p.toNat, by omega⟩
        obtain ⟨m, off, rfl, rfl, _, h0, h1, h2, h3, h4, h5⟩ := off_nat ho
        rw [verB_yes hz ho hi]
        have hl3 := sig_len hz
        obtain ⟨L, hLe⟩ : ∃ L, L = s.size * m := ⟨_, rfl⟩
        have HPL : Hid (∀ u : World, Calls Try.prog 54 #[.agg #[.string s, .int .i64 (m : Int)]] u fun e w' => e = .returned (.int .i64 (L : Int)) ∧ Below u.heap.size u w') := fun u => by rw [hLe]; exact l5Len_nat s m u h5
        have HSC : Hid (∀ (q : Nat) (u : World), q ≤ 1000000 → Below (w.alloc (.cells #[.string s, .int .i64 (m : Int)] 24)).heap.size (w.alloc (.cells #[.string s, .int .i64 (m : Int)] 24)) u → Calls Try.prog 74 #[.slice A z.length c, .int .i64 q, .agg #[.string s, .int .i64 (m : Int)], .int .i64 off] u fun e w' => e = .returned (.int .i64 (score z s.data.toList m off q)) ∧ Below u.heap.size u w') := fun q u hq hu =>
          scoreS_any A c z s m off q u (reads_up hr hu) hz hp (by omega) hq
        have HVC : Hid (∀ k q, q = k * L → vcnt z s.data.toList m off t (k + 1) = vcnt z s.data.toList m off t k + if t ≤ score z s.data.toList m off q then 1 else 0) := fun k q hq => by
          rw [hq, hLe]; show vcnt z s.data.toList m off t k + (if t ≤ score z s.data.toList m off (k * (s.data.toList.length * m)) then 1 else 0) = _; rw [data_length]
        have hoL : off < L := by omega
        have hL2 : L ≤ 2040 := by omega
        clear hr hLe
        go_enter Try.func34, Try.ntmps34
        have hb := Below.refl (w.alloc (.cells #[.string s, .int .i64 (m:Int)] 24)).heap.size (w.alloc (.cells #[.string s, .int .i64 (m:Int)] 24))
        go_wp2_with fail
        refine (readyS_any _ _ _ _ _ _ (reads_up HR.out hb) hl hs).mono ?_
        rintro e w1 ⟨rfl, k⟩
        replace hb := below_next hb k
        clear k
        (try clear hc hf)
        obtain ⟨hc, hf⟩ := bcell hb
        go_wp2_with fail
        refine (l5Off_any _ _ _ _ hp).mono ?_
        rintro e w2 ⟨rfl, k⟩
        replace hb := below_next hb k
        clear k
        (try clear hc hf)
        obtain ⟨hc, hf⟩ := bcell hb
        go_wp2_with fail
        refine (l1In_any _ _ _ _).mono ?_
        rintro e w' ⟨rfl, rfl⟩
        go_wp2
        clear hrd hi
        go_loopw [13, 14] (fun v i wr => ∃ k : Nat, k ≤ p ∧ i = .int .i64 k ∧ v = .int .i64 (vcnt z s.data.toList m off t k) ∧ Below (w.alloc (.cells #[.string s, .int .i64 (m : Int)] 24)).heap.size (w.alloc (.cells #[.string s, .int .i64 (m : Int)] 24)) wr) (fun _ i _ => p - (intOf i).toNat)
        case atStart => exact ⟨0, Nat.zero_le _, rfl, rfl, hb⟩
        case round =>
          clear hb hc hf
          obtain ⟨k, hk, rfl, rfl, hb⟩ := hrel
          have hvl := vcnt_le z s.data.toList m off t k
          by_cases hlt : k < p
          · obtain ⟨q, hq⟩ : ∃ q, q = k * L := ⟨_, rfl⟩
            have hqb : q ≤ 408000 := by rw [hq]; have : k * L ≤ 200 * 2040 := Nat.mul_le_mul (by omega) hL2; omega
            have eq1 : (k : Int) * (L : Int) = (q : Int) := by rw [hq]; simp
            have HV := Lib.hid (HVC.out k q hq)
            clear hq
            have y1 : IntKind.i64.wrap (q : Int) = (q : Int) := IntWalk.i64_in _ (by omega)
            go_wp2
            go_region_held3 (fun u => u.cell? ⟨w.heap.size, 0, none⟩ = some (.string s) ∧ u.cell? ⟨w.heap.size, 1, none⟩ = some (.int .i64 (m : Int))) (exact pcells (w := w) (by first | assumption | exact Below.drew (by assumption))) (first | (go_at_call 54; refine (rel_of (W0 := (w.alloc (.cells #[.string s, .int .i64 (m : Int)] 24))) (by first | assumption | exact Below.drew (by assumption)) (HPL.out _)).mono ?_; rintro e u1 ⟨rfl, hu1⟩) | (go_at_call 74; refine (rel_of (W0 := (w.alloc (.cells #[.string s, .int .i64 (m : Int)] 24))) (by first | assumption | exact Below.drew (by assumption)) (HSC.out _ _ (by omega) (by first | assumption | exact Below.drew (by assumption)))).mono ?_; rintro e u1 ⟨rfl, hu1⟩))
            all_goals
              by_cases hh : t ≤ score z s.data.toList m off q
              · have HV2 : Hid (vcnt z s.data.toList m off t (k + 1) = vcnt z s.data.toList m off t k + 1) := by have := HV.out; rw [if_pos hh] at this; exact this
                go_wp2
                go_roundw
                case rel => exact ⟨k + 1, by omega, by go_num, by rw [HV2.out]; go_num, by assumption⟩
                case measure => simp [intOf]; omega
              · have HV2 : Hid (vcnt z s.data.toList m off t (k + 1) = vcnt z s.data.toList m off t k) := by have := HV.out; rw [if_neg hh] at this; exact this
                go_wp2
                go_roundw
                case rel => exact ⟨k + 1, by omega, by go_num, by rw [HV2.out], by assumption⟩
                case measure => simp [intOf]; omega
          · obtain rfl : k = p := by omega
            go_wp2
            go_ret
            exact ⟨ret_bool (by simp), below_out hb⟩
end Go.Proofs.Ytholipfekecloaa
