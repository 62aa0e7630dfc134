/- Contracts of FirstOffset and SearchTime. -/
import Derived.Test.YtmecbiphejjkmaaReady
namespace Go.Proofs.Ytmecbiphejjkmaa
set_option maxRecDepth 20000
open Go.ChangeShapes Go.WideShapes Go.ChangeAt Go.RowKit
set_option linter.unusedVariables false
set_option linter.unusedSimpArgs false

/-- the first index from k on whose offset is hit -/
def srchK (L st : Nat) (hit : Nat → Bool) : Nat → Nat → Option Nat
  | 0, _ => none
  | f + 1, k => if k * st < L then (if hit (k * st) then some k else srchK L st hit f (k + 1)) else none
theorem srch_hit {L st f k : Nat} {hit : Nat → Bool} (h : k * st < L) (hh : hit (k * st) = true) : srchK L st hit (f + 1) k = some k := by rw [srchK, if_pos h, if_pos hh]
theorem srch_next {L st f k : Nat} {hit : Nat → Bool} (h : k * st < L) (hh : hit (k * st) = false) : srchK L st hit (f + 1) k = srchK L st hit f (k + 1) := by rw [srchK, if_pos h, if_neg (by simp [hh])]
theorem srch_end {L st f k : Nat} {hit : Nat → Bool} (h : ¬ k * st < L) : srchK L st hit (f + 1) k = none := by rw [srchK, if_neg h]
def hitB (z : List Int) (l : List UInt8) (m : Nat) (t : Int) (q : Nat) : Bool := decide (t ≤ score z l m q 0)
def sfind (z : List Int) (l : List UInt8) (m st : Nat) (t : Int) : Option Nat := srchK (l.length * m) st (hitB z l m t) (l.length * m + 1) 0
def firstV (o : Option Nat) (st : Nat) : Int := match o with
  | some k => ((k * st : Nat) : Int)
  | none => -1
def timeV (o : Option Nat) (L st : Nat) : Int := match o with
  | some k => (k : Int) + 1
  | none => (((L + st - 1) / st : Nat) : Int)
theorem ceil_eq {L st k : Nat} (hst : 1 ≤ st) (h : ¬ k * st < L) (h' : k = 0 ∧ L = 0 ∨ (k - 1) * st < L ∧ 1 ≤ k) : (L + st - 1) / st = k := by
  rcases h' with ⟨rfl, rfl⟩ | ⟨h1, h2⟩
  · rw [Nat.div_eq_of_lt (by omega)]
  · have e : (k - 1) * st + st = k * st := by rw [← Nat.succ_mul]; congr 1; omega
    apply Nat.div_eq_of_lt_le
    · omega
    · rw [Nat.succ_mul]; omega
/-- a search's arguments are valid -/
def srOK (z : List Int) (s : ByteArray) (n st : Int) : Bool := sigOK z && pilotOK s.data.toList n && inB st 1 8
def firstI (z : List Int) (s : ByteArray) (n st t : Int) : Int := if srOK z s n st then firstV (sfind z s.data.toList n.toNat st.toNat t) st.toNat else -1
def timeI (z : List Int) (s : ByteArray) (n st t : Int) : Int := if srOK z s n st then timeV (sfind z s.data.toList n.toNat st.toNat t) (s.size * n.toNat) st.toNat else -1
theorem firstI_no {z : List Int} {s : ByteArray} {n st t : Int} (h : srOK z s n st = false) : firstI z s n st t = -1 := if_neg (by simp [h])
theorem timeI_no {z : List Int} {s : ByteArray} {n st t : Int} (h : srOK z s n st = false) : timeI z s n st t = -1 := if_neg (by simp [h])
theorem firstI_yes {z : List Int} {s : ByteArray} {m st : Nat} {t : Int} (h : srOK z s (m : Int) (st : Int) = true) : firstI z s (m : Int) (st : Int) t = firstV (sfind z s.data.toList m st t) st := if_pos h
theorem timeI_yes {z : List Int} {s : ByteArray} {m st : Nat} {t : Int} (h : srOK z s (m : Int) (st : Int) = true) : timeI z s (m : Int) (st : Int) t = timeV (sfind z s.data.toList m st t) (s.size * m) st := if_pos h
theorem sr_parts {z : List Int} {s : ByteArray} {n st : Int} (h : srOK z s n st = true) : sigOK z = true ∧ pilotOK s.data.toList n = true ∧ ∃ m k : Nat, n = m ∧ st = k ∧ 1 ≤ k ∧ k ≤ 8 := by
  unfold srOK at h
  simp only [Bool.and_eq_true] at h
  obtain ⟨⟨h1, h2⟩, h3⟩ := h
  obtain ⟨m, rfl, _⟩ := pilot_nat h2
  simp only [inB, Bool.and_eq_true, decide_eq_true_eq] at h3
  exact ⟨h1, h2, m, st.toNat, rfl, by omega, by omega, by omega⟩
set_option maxHeartbeats 400000 in
theorem srValid_any (A : Option Addr) (c : Nat) (z : List Int) (s : ByteArray) (n st : Int) (w : World) (hr : Reads w w.heap.size A z) (hl : z.length ≤ 1048576) (hs : s.size ≤ maxLen) :
    Calls Try.prog 60 #[.slice A z.length c, .agg #[.string s, .int .i64 n], .int .i64 st] w fun e w' => e = .returned (.bool (srOK z s n st)) ∧ Below w.heap.size w w' := by
  have HR := Lib.hid hr
  clear hr
  cases hz : sigOK z
  · have e : srOK z s n st = false := by simp [srOK, hz]
    rw [e]
    clear e
    go_enter Try.func60, Try.ntmps60
    have hb := Below.refl (w.alloc (.cells #[.string s, .int .i64 n] 25)).heap.size (w.alloc (.cells #[.string s, .int .i64 n] 25))
    go_wp2_with fail
    refine (sigI_any _ _ _ _ (reads_up HR.out hb) hl).mono ?_
    rintro e w' ⟨rfl, rfl⟩
    go_wp2
    go_ret
    exact ⟨rfl, below_out hb⟩
  · cases hp : pilotOK s.data.toList n
    · have e : srOK z s n st = false := by simp [srOK, hp]
      rw [e]
      clear e
      go_enter Try.func60, Try.ntmps60
      have hb := Below.refl (w.alloc (.cells #[.string s, .int .i64 n] 25)).heap.size (w.alloc (.cells #[.string s, .int .i64 n] 25))
      go_wp2_with fail
      refine (sigI_any _ _ _ _ (reads_up HR.out hb) hl).mono ?_
      rintro e w' ⟨rfl, rfl⟩
      go_wp2_with fail
      refine (pilotI_any _ _ _ hs).mono ?_
      rintro e w1 ⟨rfl, k⟩
      replace hb := below_next hb k
      clear k
      (try clear hc hf)
      obtain ⟨hc, hf⟩ := bcell hb
      go_wp2
      go_ret
      exact ⟨rfl, below_out hb⟩
    · by_cases h1 : 1 ≤ st
      · have e : srOK z s n st = decide (st ≤ 8) := by simp [srOK, hz, hp, inB, h1]
        rw [e]
        clear e
        go_enter Try.func60, Try.ntmps60
        have hb := Below.refl (w.alloc (.cells #[.string s, .int .i64 n] 25)).heap.size (w.alloc (.cells #[.string s, .int .i64 n] 25))
        go_wp2_with fail
        refine (sigI_any _ _ _ _ (reads_up HR.out hb) hl).mono ?_
        rintro e w' ⟨rfl, rfl⟩
        go_wp2_with fail
        refine (pilotI_any _ _ _ hs).mono ?_
        rintro e w1 ⟨rfl, k⟩
        replace hb := below_next hb k
        clear k
        (try clear hc hf)
        obtain ⟨hc, hf⟩ := bcell hb
        go_wp2
        go_ret
        exact ⟨ret_bool (by simp), below_out hb⟩
      · have e : srOK z s n st = false := by simp [srOK, inB, h1]
        rw [e]
        clear e
        go_enter Try.func60, Try.ntmps60
        have hb := Below.refl (w.alloc (.cells #[.string s, .int .i64 n] 25)).heap.size (w.alloc (.cells #[.string s, .int .i64 n] 25))
        go_wp2_with fail
        refine (sigI_any _ _ _ _ (reads_up HR.out hb) hl).mono ?_
        rintro e w' ⟨rfl, rfl⟩
        go_wp2_with fail
        refine (pilotI_any _ _ _ hs).mono ?_
        rintro e w1 ⟨rfl, k⟩
        replace hb := below_next hb k
        clear k
        (try clear hc hf)
        obtain ⟨hc, hf⟩ := bcell hb
        go_wp2
        go_ret
        exact ⟨rfl, below_out hb⟩
set_option maxHeartbeats 1000000 in
theorem srchI_any (A : Option Addr) (c : Nat) (z : List Int) (s : ByteArray) (m st : Nat) (t : Int) (w : World) (hr : Reads w w.heap.size A z) (hz : sigOK z = true) (hp : pilotOK s.data.toList (m : Int) = true) (hs : s.size ≤ maxLen) (hst : 1 ≤ st) (hst8 : st ≤ 8) :
    Calls Try.prog 61 #[.slice A z.length c, .agg #[.string s, .int .i64 (m : Int)], .int .i64 st, .int .i64 t] w fun e w' => e = .returned (.tuple #[.int .i64 (firstV (sfind z s.data.toList m st t) st), .int .i64 (timeV (sfind z s.data.toList m st t) (s.size * m) st)]) ∧ Below w.heap.size w w' := by
  have hl := sig_len hz
  obtain ⟨m', hm', h1, h2, h3, h4, h5, h6⟩ := pilot_nat hp
  obtain rfl : m' = m := by omega
  clear hm'
  obtain ⟨m, rfl⟩ : ∃ m, m = m' := ⟨_, rfl⟩
  obtain ⟨L, hLe⟩ : ∃ L, L = s.size * m := ⟨_, rfl⟩
  have HPL : Hid (∀ u : World, Calls Try.prog 16 #[.agg #[.string s, .int .i64 (m : Int)]] u fun e w' => e = .returned (.int .i64 (L : Int)) ∧ Below u.heap.size u w') := fun u => by rw [hLe]; exact plenI_nat u hp hs
  have HSC : Hid (∀ (q : Nat) (u : World), q < L → Below (w.alloc (.cells #[.string s, .int .i64 (m : Int)] 25)).heap.size (w.alloc (.cells #[.string s, .int .i64 (m : Int)] 25)) u → Calls Try.prog 39 #[.slice A z.length c, .agg #[.string s, .int .i64 (m : Int)], .int .i64 q] u fun e w' => e = .returned (.int .i64 (score z s.data.toList m q 0)) ∧ Below u.heap.size u w') := fun q u hq hu =>
    scoreI_any A c z s m q u (reads_up hr hu) hz h1 h2 h3 h4 h6 (by omega) (by omega)
  have HSF : Hid (sfind z s.data.toList m st t = srchK L st (hitB z s.data.toList m t) (L + 1) 0) := by unfold sfind; rw [data_length, hLe]; exact rfl
  rw [← hLe] at h5 h6 ⊢
  clear hLe hr hz hp
  go_enter Try.func61, Try.ntmps61
  have hb := Below.refl (w.alloc (.cells #[.string s, .int .i64 (m:Int)] 25)).heap.size (w.alloc (.cells #[.string s, .int .i64 (m:Int)] 25))
  go_wp2
  go_loopw [10, 11] (fun v i wr => ∃ k q : Nat, q = k * st ∧ k ≤ L ∧ q < L + st ∧ i = .int .i64 q ∧ v = .int .i64 k ∧ srchK L st (hitB z s.data.toList m t) (L + 1) 0 = srchK L st (hitB z s.data.toList m t) (L - k + 1) k ∧ (k = 0 ∨ (k - 1) * st < L ∧ 1 ≤ k) ∧ Below (w.alloc (.cells #[.string s, .int .i64 (m : Int)] 25)).heap.size (w.alloc (.cells #[.string s, .int .i64 (m : Int)] 25)) wr) (fun _ i _ => L + st - (intOf i).toNat)
  case atStart => exact ⟨0, 0, by simp, Nat.zero_le _, by omega, rfl, rfl, rfl, .inl rfl, Below.refl _ _⟩
  case round =>
    clear hb
    obtain ⟨k, q, hq, hk, hqL, rfl, rfl, hsr, hpr, hb⟩ := hrel
    have HQ := Lib.hid hq
    have HSR := Lib.hid hsr
    have HPR := Lib.hid hpr
    clear hq hsr hpr
    obtain ⟨hc, hf⟩ := bcell hb
    go_wp2_with fail
    refine (HPL.out _).mono ?_
    rintro e w1 ⟨rfl, k⟩
    replace hb := below_next hb k
    clear k
    (try clear hc hf)
    obtain ⟨hc, hf⟩ := bcell hb
    by_cases hlt : q < L
    · have hkL : k < L := by
        have : k * 1 ≤ k * st := Nat.mul_le_mul_left k hst
        have := HQ.out; omega
      by_cases hh : t ≤ score z s.data.toList m q 0
      · have HX : Hid (sfind z s.data.toList m st t = some k) := by
          rw [HSF.out, HSR.out]
          exact srch_hit (by rw [← HQ.out]; exact hlt) (by rw [← HQ.out]; exact decide_eq_true hh)
        go_wp2_with fail
        refine (HSC.out _ _ hlt hb).mono ?_
        rintro e w2 ⟨rfl, k2⟩
        replace hb := below_next hb k2
        go_wp2
        go_ret2
        exact ⟨by rw [HX.out]; simp only [firstV, timeV]; rw [← HQ.out]; rfl, below_out hb⟩
      · have HX : Hid (srchK L st (hitB z s.data.toList m t) (L + 1) 0 = srchK L st (hitB z s.data.toList m t) (L - (k + 1) + 1) (k + 1)) := by
          rw [HSR.out, srch_next (by rw [← HQ.out]; exact hlt) (by rw [← HQ.out]; exact decide_eq_false hh), show L - k = L - (k + 1) + 1 by omega]
          exact rfl
        go_wp2_with fail
        refine (HSC.out _ _ hlt hb).mono ?_
        rintro e w2 ⟨rfl, k2⟩
        replace hb := below_next hb k2
        go_wp2
        go_roundw
        case rel => exact ⟨k + 1, q + st, by rw [HQ.out, Nat.succ_mul], by omega, by omega, by go_num, by go_num, HX.out, .inr ⟨by rw [Nat.add_sub_cancel, ← HQ.out]; exact hlt, by omega⟩, hb⟩
        case measure => simp [intOf]; omega
    · have HX : Hid (sfind z s.data.toList m st t = none) := by
        rw [HSF.out, HSR.out]; exact srch_end (by rw [← HQ.out]; exact hlt)
      have HK : Hid ((L + st - 1) / st = k) := ceil_eq hst (by rw [← HQ.out]; exact hlt) (by
        rcases HPR.out with h | h
        · left; have := HQ.out; subst h; simp at this; omega
        · exact .inr h)
      go_wp2
      go_ret2
      exact ⟨by rw [HX.out]; simp only [firstV, timeV]; rw [HK.out]; rfl, below_out hb⟩
set_option maxHeartbeats 400000 in
theorem firstI_any (A : Option Addr) (c : Nat) (z : List Int) (s : ByteArray) (n st t : Int) (w : World) (hr : Reads w w.heap.size A z) (hl : z.length ≤ 1048576) (hs : s.size ≤ maxLen) :
    Calls Try.prog 31 #[.slice A z.length c, .agg #[.string s, .int .i64 n], .int .i64 st, .int .i64 t] w fun e w' => e = .returned (.int .i64 (firstI z s n st t)) ∧ Below w.heap.size w w' := by
  have HR := Lib.hid hr
  clear hr
  cases hv : srOK z s n st
  · rw [firstI_no hv]
    go_enter Try.func31, Try.ntmps31
    have hb := Below.refl (w.alloc (.cells #[.string s, .int .i64 n] 25)).heap.size (w.alloc (.cells #[.string s, .int .i64 n] 25))
    go_wp2_with fail
    refine (srValid_any _ _ _ _ _ _ _ (reads_up HR.out hb) hl hs).mono ?_
    rintro e w1 ⟨rfl, k⟩
    replace hb := below_next hb k
    clear k
    (try clear hc hf)
    obtain ⟨hc, hf⟩ := bcell hb
    go_wp2
    go_ret
    exact ⟨rfl, below_out hb⟩
  · obtain ⟨hz, hp, m, k, rfl, rfl, k1, k8⟩ := sr_parts hv
    rw [firstI_yes hv]
    go_enter Try.func31, Try.ntmps31
    have hb := Below.refl (w.alloc (.cells #[.string s, .int .i64 (m:Int)] 25)).heap.size (w.alloc (.cells #[.string s, .int .i64 (m:Int)] 25))
    go_wp2_with fail
    refine (srValid_any _ _ _ _ _ _ _ (reads_up HR.out hb) hl hs).mono ?_
    rintro e w1 ⟨rfl, k⟩
    replace hb := below_next hb k
    clear k
    (try clear hc hf)
    obtain ⟨hc, hf⟩ := bcell hb
    go_wp2_with fail
    refine (srchI_any _ _ _ _ _ _ _ _ (reads_up HR.out hb) hz hp hs k1 k8).mono ?_
    rintro e w2 ⟨rfl, k⟩
    replace hb := below_next hb k
    clear k
    (try clear hc hf)
    obtain ⟨hc, hf⟩ := bcell hb
    go_wp2
    go_ret
    exact ⟨rfl, below_out hb⟩
set_option maxHeartbeats 400000 in
theorem timeI_any (A : Option Addr) (c : Nat) (z : List Int) (s : ByteArray) (n st t : Int) (w : World) (hr : Reads w w.heap.size A z) (hl : z.length ≤ 1048576) (hs : s.size ≤ maxLen) :
    Calls Try.prog 33 #[.slice A z.length c, .agg #[.string s, .int .i64 n], .int .i64 st, .int .i64 t] w fun e w' => e = .returned (.int .i64 (timeI z s n st t)) ∧ Below w.heap.size w w' := by
  have HR := Lib.hid hr
  clear hr
  cases hv : srOK z s n st
  · rw [timeI_no hv]
    go_enter Try.func33, Try.ntmps33
    have hb := Below.refl (w.alloc (.cells #[.string s, .int .i64 n] 25)).heap.size (w.alloc (.cells #[.string s, .int .i64 n] 25))
    go_wp2_with fail
    refine (srValid_any _ _ _ _ _ _ _ (reads_up HR.out hb) hl hs).mono ?_
    rintro e w1 ⟨rfl, k⟩
    replace hb := below_next hb k
    clear k
    (try clear hc hf)
    obtain ⟨hc, hf⟩ := bcell hb
    go_wp2
    go_ret
    exact ⟨rfl, below_out hb⟩
  · obtain ⟨hz, hp, m, k, rfl, rfl, k1, k8⟩ := sr_parts hv
    rw [timeI_yes hv]
    go_enter Try.func33, Try.ntmps33
    have hb := Below.refl (w.alloc (.cells #[.string s, .int .i64 (m:Int)] 25)).heap.size (w.alloc (.cells #[.string s, .int .i64 (m:Int)] 25))
    go_wp2_with fail
    refine (srValid_any _ _ _ _ _ _ _ (reads_up HR.out hb) hl hs).mono ?_
    rintro e w1 ⟨rfl, k⟩
    replace hb := below_next hb k
    clear k
    (try clear hc hf)
    obtain ⟨hc, hf⟩ := bcell hb
    go_wp2_with fail
    refine (srchI_any _ _ _ _ _ _ _ _ (reads_up HR.out hb) hz hp hs k1 k8).mono ?_
    rintro e w2 ⟨rfl, k⟩
    replace hb := below_next hb k
    clear k
    (try clear hc hf)
    obtain ⟨hc, hf⟩ := bcell hb
    go_wp2
    go_ret
    exact ⟨rfl, below_out hb⟩
/-- the ways on which a search's arguments are not valid -/
theorem sr_not {z : List Int} {s : ByteArray} {n st : Int} (h : (sigOK z && pilotOK s.data.toList n) = false) : srOK z s n st = false := by simp only [srOK, h]; rfl
theorem sr_not2 {z : List Int} {s : ByteArray} {n st : Int} (h : inB st 1 8 = false) : srOK z s n st = false := by simp only [srOK, h, Bool.and_false]
theorem sr_yes {z : List Int} {s : ByteArray} {n st : Int} (h : (sigOK z && pilotOK s.data.toList n) = true) (h' : inB st 1 8 = true) : srOK z s n st = true := by simp only [srOK, h, h']; rfl
set_option maxHeartbeats 1000000 in
theorem firstS_any (A : Option Addr) (c : Nat) (z : List Int) (s : ByteArray) (n st t : Int) (w : World) (hr : Reads w w.heap.size A z) (hl : z.length ≤ 1048576) (hs : s.size ≤ maxLen) :
    Calls Try.prog 32 #[.slice A z.length c, .agg #[.string s, .int .i64 n], .int .i64 st, .int .i64 t] w fun e w' => e = .returned (.int .i64 (firstI z s n st t)) ∧ Below w.heap.size w w' := by
  have HR := Lib.hid hr
  cases hrd : (sigOK z && pilotOK s.data.toList n)
  · rw [firstI_no (sr_not hrd)]
    clear hr
    go_enter Try.func32, Try.ntmps32
    have hb := Below.refl (w.alloc (.cells #[.string s, .int .i64 n] 25)).heap.size (w.alloc (.cells #[.string s, .int .i64 n] 25))
    go_wp2_with fail
    refine (readyS_any _ _ _ _ _ _ (reads_up HR.out hb) hl hs).mono ?_
    rintro e w1 ⟨rfl, k⟩
    replace hb := below_next hb k
    clear k
    (try clear hc hf)
    obtain ⟨hc, hf⟩ := bcell hb
    go_wp2
    go_ret
    exact ⟨rfl, below_out hb⟩
  · cases hi : inB st 1 8
    · rw [firstI_no (sr_not2 hi)]
      clear hr
      go_enter Try.func32, Try.ntmps32
      have hb := Below.refl (w.alloc (.cells #[.string s, .int .i64 n] 25)).heap.size (w.alloc (.cells #[.string s, .int .i64 n] 25))
      go_wp2_with fail
      refine (readyS_any _ _ _ _ _ _ (reads_up HR.out hb) hl hs).mono ?_
      rintro e w1 ⟨rfl, k⟩
      replace hb := below_next hb k
      clear k
      (try clear hc hf)
      obtain ⟨hc, hf⟩ := bcell hb
      go_wp2_with fail
      refine (l1In_any _ _ _ _).mono ?_
      rintro e w' ⟨rfl, rfl⟩
      go_wp2
      go_ret
      exact ⟨rfl, below_out hb⟩
    · have hv := sr_yes hrd hi
      obtain ⟨hz, hp, m, st, rfl, rfl, hst, hst8⟩ := sr_parts hv
      rw [firstI_yes hv]
      clear hv
      obtain ⟨m', hm', h1, h2, h3, h4, h5, h6⟩ := pilot_nat hp
      obtain rfl : m' = m := by omega
      clear hm'
      obtain ⟨m, rfl⟩ : ∃ m, m = m' := ⟨_, rfl⟩
      obtain ⟨L, hLe⟩ : ∃ L, L = s.size * m := ⟨_, rfl⟩
      have HPL : Hid (∀ u : World, Calls Try.prog 41 #[.agg #[.string s, .int .i64 (m : Int)]] u fun e w' => e = .returned (.int .i64 (L : Int)) ∧ Below u.heap.size u w') := fun u => by rw [hLe]; exact l5Len_nat s m u h6
      have HSC : Hid (∀ (q : Nat) (u : World), q < L → Below (w.alloc (.cells #[.string s, .int .i64 (m : Int)] 25)).heap.size (w.alloc (.cells #[.string s, .int .i64 (m : Int)] 25)) u → Calls Try.prog 42 #[.slice A z.length c, .int .i64 0, .agg #[.string s, .int .i64 (m : Int)], .int .i64 q] u fun e w' => e = .returned (.int .i64 (score z s.data.toList m q 0)) ∧ Below u.heap.size u w') := fun q u hq hu =>
        scoreS_any A c z s m q 0 u (reads_up hr hu) hz hp (by omega) (by omega)
      have HSF : Hid (sfind z s.data.toList m st t = srchK L st (hitB z s.data.toList m t) (L + 1) 0) := by unfold sfind; rw [data_length, hLe]; exact rfl
      rw [← hLe] at h5 h6
      clear hLe hr
      go_enter Try.func32, Try.ntmps32
      have hb := Below.refl (w.alloc (.cells #[.string s, .int .i64 (m:Int)] 25)).heap.size (w.alloc (.cells #[.string s, .int .i64 (m:Int)] 25))
      go_wp2_with fail
      refine (readyS_any _ _ _ _ _ _ (reads_up HR.out hb) hl hs).mono ?_
      rintro e w1 ⟨rfl, k⟩
      replace hb := below_next hb k
      clear k
      (try clear hc hf)
      obtain ⟨hc, hf⟩ := bcell hb
      go_wp2_with fail
      refine (l1In_any _ _ _ _).mono ?_
      rintro e w' ⟨rfl, rfl⟩
      go_wp2
      clear hrd hi
      go_loopw [9] (fun i wr => ∃ k q : Nat, q = k * st ∧ k ≤ L ∧ q < L + st ∧ i = .int .i64 q ∧ srchK L st (hitB z s.data.toList m t) (L + 1) 0 = srchK L st (hitB z s.data.toList m t) (L - k + 1) k ∧ Below (w.alloc (.cells #[.string s, .int .i64 (m : Int)] 25)).heap.size (w.alloc (.cells #[.string s, .int .i64 (m : Int)] 25)) wr) (fun i _ => L + st - (intOf i).toNat)
      case atStart => exact ⟨0, 0, by simp, Nat.zero_le _, by omega, rfl, rfl, hb⟩
      case round =>
        clear hb hc hf
        obtain ⟨k, q, hq, hk, hqL, rfl, hsr, hb⟩ := hrel
        have HQ := Lib.hid hq
        have HSR := Lib.hid hsr
        clear hq hsr
        obtain ⟨hc, hf⟩ := bcell hb
        go_wp2_with fail
        refine (HPL.out _).mono ?_
        rintro e w1 ⟨rfl, k⟩
        replace hb := below_next hb k
        clear k
        (try clear hc hf)
        obtain ⟨hc, hf⟩ := bcell hb
        by_cases hlt : q < L
        · have hkL : k < L := by
            have : k * 1 ≤ k * st := Nat.mul_le_mul_left k hst
            have := HQ.out; omega
          by_cases hh : t ≤ score z s.data.toList m q 0
          · have HX : Hid (sfind z s.data.toList m st t = some k) := by
              rw [HSF.out, HSR.out]
              exact srch_hit (by rw [← HQ.out]; exact hlt) (by rw [← HQ.out]; exact decide_eq_true hh)
            go_wp2_with fail
            refine (HSC.out _ _ hlt hb).mono ?_
            rintro e w2 ⟨rfl, k2⟩
            replace hb := below_next hb k2
            go_wp2
            go_ret
            exact ⟨by rw [HX.out]; simp only [firstV]; rw [← HQ.out]; rfl, below_out hb⟩
          · have HX : Hid (srchK L st (hitB z s.data.toList m t) (L + 1) 0 = srchK L st (hitB z s.data.toList m t) (L - (k + 1) + 1) (k + 1)) := by
              rw [HSR.out, srch_next (by rw [← HQ.out]; exact hlt) (by rw [← HQ.out]; exact decide_eq_false hh), show L - k = L - (k + 1) + 1 by omega]
              exact rfl
            go_wp2_with fail
            refine (HSC.out _ _ hlt hb).mono ?_
            rintro e w2 ⟨rfl, k2⟩
            replace hb := below_next hb k2
            go_wp2
            go_roundw
            case rel => exact ⟨k + 1, q + st, by rw [HQ.out, Nat.succ_mul], by omega, by omega, by go_num, HX.out, hb⟩
            case measure => simp [intOf]; omega
        · have HX : Hid (sfind z s.data.toList m st t = none) := by
            rw [HSF.out, HSR.out]; exact srch_end (by rw [← HQ.out]; exact hlt)
          go_wp2
          go_ret
          exact ⟨by rw [HX.out]; rfl, below_out hb⟩
end Go.Proofs.Ytmecbiphejjkmaa
