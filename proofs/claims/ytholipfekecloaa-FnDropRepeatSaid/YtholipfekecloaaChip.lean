/- Contracts of the samples of pilots, of the reference's scores, and of PilotSignal. -/
import Derived.Test.YtholipfekecloaaScore
import Derived.Deep.RegionHeld3
import Derived.Deep.DrawnRows
namespace Go.Proofs.Ytholipfekecloaa
set_option maxRecDepth 20000
open Go.ChangeShapes Go.WideShapes Go.ChangeAt Go.RowKit
set_option linter.unusedVariables false
set_option linter.unusedSimpArgs false

theorem pcells {w u : World} {s : ByteArray} {m : Nat} {t : TypeId} (h : Below (w.alloc (.cells #[.string s, .int .i64 (m : Int)] t)).heap.size (w.alloc (.cells #[.string s, .int .i64 (m : Int)] t)) u) :
    u.cell? ⟨w.heap.size, 0, none⟩ = some (.string s) ∧ u.cell? ⟨w.heap.size, 1, none⟩ = some (.int .i64 (m : Int)) := by
  have h0 := (bcell h).1 w.heap.size 0 (by simp)
  have h1 := (bcell h).1 w.heap.size 1 (by simp)
  simp at h0 h1
  exact ⟨h0, h1⟩
theorem rel_of {P : Program} {f : FuncId} {args : Array Value} {W0 u : World} {v : Value} (hu : Below W0.heap.size W0 u) (h : Calls P f args u fun e u' => e = .returned v ∧ Below u.heap.size u u') :
    Calls P f args u fun e u' => e = .returned v ∧ Below W0.heap.size W0 u' := h.mono fun e u' ⟨a, b⟩ => ⟨a, below_next hu b⟩
theorem rel_same {P : Program} {f : FuncId} {args : Array Value} {W0 u : World} {v : Value} (hu : Below W0.heap.size W0 u) (h : Calls P f args u fun e u' => e = .returned v ∧ u = u') :
    Calls P f args u fun e u' => e = .returned v ∧ Below W0.heap.size W0 u' := h.mono fun e u' ⟨a, b⟩ => ⟨a, by subst b; exact hu⟩
theorem reads_up {w u : World} {o : Obj} {A : Option Addr} {z : List Int} (h : Reads w w.heap.size A z) (hu : Below (w.alloc o).heap.size (w.alloc o) u) : Reads u u.heap.size A z :=
  ((h.alloc (Nat.le_refl _) o).below hu (by simp)).more (by have := hu.size; simp at this; omega)
theorem same_turn {P : Program} {f : FuncId} {args : Array Value} {w : World} {v : Value} (h : Calls P f args w fun e w' => e = .returned v ∧ w' = w) : Calls P f args w fun e w' => e = .returned v ∧ w = w' :=
  h.mono fun e w' ⟨a, b⟩ => ⟨a, b.symm⟩
theorem plenI_nat {s : ByteArray} {m : Nat} (w : World) (hp : pilotOK s.data.toList (m : Int) = true) (hs : s.size ≤ maxLen) :
    Calls Try.prog 13 #[.agg #[.string s, .int .i64 (m : Int)]] w fun e w' => e = .returned (.int .i64 ((s.size * m : Nat) : Int)) ∧ Below w.heap.size w w' := by
  have h := plenI_any s (m : Int) w hs
  rw [pilotLen_yes hp] at h
  rw [Int.natCast_mul]
  exact h
theorem l5Len_nat (s : ByteArray) (m : Nat) (w : World) (h1 : s.size * m ≤ 2040) :
    Calls Try.prog 54 #[.agg #[.string s, .int .i64 (m : Int)]] w fun e w' => e = .returned (.int .i64 ((s.size * m : Nat) : Int)) ∧ Below w.heap.size w w' := by
  have e : (s.size : Int) * (m : Int) = ((s.size * m : Nat) : Int) := by simp
  have h := l5Length_any s (m : Int) w (by rw [e]; omega) (by rw [e]; omega)
  rw [e] at h
  exact h
theorem pchip_at {s : ByteArray} {m off k : Nat} (h : plc (s.size * m) off k / m < s.size) : pchip s.data.toList m off k = chip s[plc (s.size * m) off k / m] := by
  rw [← getD_at s _ h]; unfold pchip; rw [data_length]
theorem pchip_two (l : List UInt8) (m off k : Nat) : pchip l m off k = 1 ∨ pchip l m off k = -1 := chip_two _
set_option maxHeartbeats 1000000 in
theorem sampI_any (s : ByteArray) (m off k : Nat) (w : World) (hp : pilotOK s.data.toList (m : Int) = true) (hs : s.size ≤ maxLen) (hk : k ≤ 5000) (ho : off ≤ s.size * m) :
    Calls Try.prog 57 #[.agg #[.string s, .int .i64 (m : Int)], .int .i64 off, .int .i64 k] w fun e w' => e = .returned (.int .i64 (pchip s.data.toList m off k)) ∧ Below w.heap.size w w' := by
  obtain ⟨m', hm', h1, h2, h3, h4, h5, h6⟩ := pilot_nat hp
  obtain rfl : m' = m := by omega
  clear hm'
  have hdv := plc_div (L := s.size * m') (off := off) (k := k) rfl (by omega) (show 0 < m' by omega)
  have HPI := plc_int (L := s.size * m') (off := off) (k := k) (by omega) ho
  obtain ⟨L, hLe⟩ : ∃ L, L = s.size * m' := ⟨_, rfl⟩
  have hpl := plc_lt off k (show 0 < L by omega)
  have HPL : Hid (∀ u : World, Calls Try.prog 13 #[.agg #[.string s, .int .i64 (m' : Int)]] u fun e w' => e = .returned (.int .i64 (L : Int)) ∧ Below u.heap.size u w') := fun u => by rw [hLe]; exact plenI_nat u hp hs
  rw [← hLe] at hdv HPI h5 h6 ho
  obtain ⟨q, hq⟩ : ∃ q, q = plc L off k := ⟨_, rfl⟩
  rw [← hq] at hdv HPI hpl
  have HPC : Hid (pchip s.data.toList m' off k = chip s[q / m']) := by subst hq; subst hLe; exact pchip_at hdv
  have HMO : Hid (∀ u : World, Calls Try.prog 69 #[.int .i64 ((k : Int) - (off : Int)), .int .i64 (L : Int)] u fun e w' => e = .returned (.int .i64 (q : Int)) ∧ u = w') := fun u => by
    rw [← HPI]; exact modI_any _ _ u (by omega) (by omega)
  have y1 : IntKind.i64.wrap ((k : Int) - (off : Int)) = (k : Int) - (off : Int) := IntWalk.i64_in _ (by omega)
  have y5 : (q : Int) / (m' : Int) = ((q / m' : Nat) : Int) := by simp
  have y3 : ((q : Int) / (m' : Int)).toNat = q / m' := by rw [y5]; rfl
  have y4 : 0 ≤ (q : Int) / (m' : Int) := by rw [y5]; omega
  have y6 : (q : Int) / (m' : Int) < (s.size : Int) := by rw [y5]; omega
  have y2 : IntKind.i64.wrap ((q : Int) / (m' : Int)) = (q : Int) / (m' : Int) := IntWalk.i64_in _ (by omega)
  have y7 : ¬ m' = 0 := by omega
  clear HPI hq hLe y5 hp
  obtain ⟨m, rfl⟩ : ∃ m, m = m' := ⟨_, rfl⟩
  go_enter Try.func57, Try.ntmps57
  have hb := Below.refl (w.alloc (.cells #[.string s, .int .i64 (m:Int)] 24)).heap.size (w.alloc (.cells #[.string s, .int .i64 (m:Int)] 24))
  go_wp2
  go_region_held3 (fun u => u.cell? ⟨w.heap.size, 0, none⟩ = some (.string s) ∧ u.cell? ⟨w.heap.size, 1, none⟩ = some (.int .i64 (m : Int))) (exact pcells (w := w) (by first | assumption | exact Below.drew (by assumption))) (first | (go_at_call 13; refine (rel_of (W0 := (w.alloc (.cells #[.string s, .int .i64 (m : Int)] 24))) (by first | assumption | exact Below.drew (by assumption)) (HPL.out _)).mono ?_; rintro e u1 ⟨rfl, hu1⟩) | (go_at_call 69; refine (rel_same (W0 := (w.alloc (.cells #[.string s, .int .i64 (m : Int)] 24))) (by first | assumption | exact Below.drew (by assumption)) (HMO.out _)).mono ?_; rintro e u1 ⟨rfl, hu1⟩) | (go_at_call 87; refine (rel_same (W0 := (w.alloc (.cells #[.string s, .int .i64 (m : Int)] 24))) (by first | assumption | exact Below.drew (by assumption)) (same_turn (chipI_any _ _))).mono ?_; rintro e u1 ⟨rfl, hu1⟩))
  all_goals
    go_wp2
    go_ret
    exact ⟨ret_int HPC.out.symm, below_out (by assumption)⟩
theorem chip_bit {c : UInt8} (h : bit c) : ∃ v : Int, (v = 48 ∨ v = 49) ∧ (c.toNat : Int) = v ∧ chip c = 1 - 2 * (v - 48) := by
  rcases h with rfl | rfl
  · exact ⟨48, .inl rfl, rfl, rfl⟩
  · exact ⟨49, .inr rfl, rfl, rfl⟩
set_option maxHeartbeats 1000000 in
theorem chipS_any (s : ByteArray) (m off k : Nat) (w : World) (hp : pilotOK s.data.toList (m : Int) = true) (hk : k ≤ 5000) (ho : off ≤ s.size * m) :
    Calls Try.prog 59 #[.agg #[.string s, .int .i64 (m : Int)], .int .i64 off, .int .i64 k] w fun e w' => e = .returned (.int .i64 (pchip s.data.toList m off k)) ∧ Below w.heap.size w w' := by
  obtain ⟨m', hm', h1, h2, h3, h4, h5, h6⟩ := pilot_nat hp
  obtain rfl : m' = m := by omega
  clear hm'
  have hdv := plc_div (L := s.size * m') (off := off) (k := k) rfl (by omega) (show 0 < m' by omega)
  have HPI := plc_int (L := s.size * m') (off := off) (k := k) (by omega) ho
  obtain ⟨L, hLe⟩ : ∃ L, L = s.size * m' := ⟨_, rfl⟩
  have hpl := plc_lt off k (show 0 < L by omega)
  have HPL : Hid (∀ u : World, Calls Try.prog 54 #[.agg #[.string s, .int .i64 (m' : Int)]] u fun e w' => e = .returned (.int .i64 (L : Int)) ∧ Below u.heap.size u w') := fun u => by rw [hLe]; exact l5Len_nat s m' u h6
  rw [← hLe] at hdv HPI h5 h6 ho
  obtain ⟨q, hq⟩ : ∃ q, q = plc L off k := ⟨_, rfl⟩
  rw [← hq] at hdv HPI hpl
  have HPC : Hid (pchip s.data.toList m' off k = chip s[q / m']) := by subst hq; subst hLe; exact pchip_at hdv
  have HMO : Hid (∀ u : World, Calls Try.prog 84 #[.int .i64 ((k : Int) - (off : Int)), .int .i64 (L : Int)] u fun e w' => e = .returned (.int .i64 (q : Int)) ∧ u = w') := fun u => by
    rw [← HPI]; exact modS_any _ _ u (by omega) (by omega)
  obtain ⟨v, hv, hcv, HCH⟩ := chip_bit (bits_bit (seq_bits (pilot_parts hp).1) (q / m') hdv)
  have HCH := Lib.hid HCH
  have y1 : IntKind.i64.wrap ((k : Int) - (off : Int)) = (k : Int) - (off : Int) := IntWalk.i64_in _ (by omega)
  have y5 : (q : Int) / (m' : Int) = ((q / m' : Nat) : Int) := by simp
  have y3 : ((q : Int) / (m' : Int)).toNat = q / m' := by rw [y5]; rfl
  have y4 : 0 ≤ (q : Int) / (m' : Int) := by rw [y5]; omega
  have y6 : (q : Int) / (m' : Int) < (s.size : Int) := by rw [y5]; omega
  have y2 : IntKind.i64.wrap ((q : Int) / (m' : Int)) = (q : Int) / (m' : Int) := IntWalk.i64_in _ (by omega)
  have y7 : ¬ m' = 0 := by omega
  clear HPI hq hLe y5 hp
  obtain ⟨m, rfl⟩ : ∃ m, m = m' := ⟨_, rfl⟩
  rcases hv with rfl | rfl
  all_goals
    go_enter Try.func59, Try.ntmps59
    have hb := Below.refl (w.alloc (.cells #[.string s, .int .i64 (m:Int)] 24)).heap.size (w.alloc (.cells #[.string s, .int .i64 (m:Int)] 24))
    go_wp2
    go_region_held3 (fun u => u.cell? ⟨w.heap.size, 0, none⟩ = some (.string s) ∧ u.cell? ⟨w.heap.size, 1, none⟩ = some (.int .i64 (m : Int))) (exact pcells (w := w) (by first | assumption | exact Below.drew (by assumption))) (first | (go_at_call 54; refine (rel_of (W0 := (w.alloc (.cells #[.string s, .int .i64 (m : Int)] 24))) (by first | assumption | exact Below.drew (by assumption)) (HPL.out _)).mono ?_; rintro e u1 ⟨rfl, hu1⟩) | (go_at_call 84; refine (rel_same (W0 := (w.alloc (.cells #[.string s, .int .i64 (m : Int)] 24))) (by first | assumption | exact Below.drew (by assumption)) (HMO.out _)).mono ?_; rintro e u1 ⟨rfl, hu1⟩))
    all_goals
      go_wp2
      go_ret
      exact ⟨ret_int (by rw [HPC.out, HCH.out]; rfl), below_out (by assumption)⟩
set_option maxHeartbeats 1000000 in
theorem scoreS_any (A : Option Addr) (c : Nat) (z : List Int) (s : ByteArray) (m off fr : Nat) (w : World) (hr : Reads w w.heap.size A z) (hz : sigOK z = true)
    (hp : pilotOK s.data.toList (m : Int) = true) (ho : off ≤ s.size * m) (hfr : fr ≤ 1000000) :
    Calls Try.prog 74 #[.slice A z.length c, .int .i64 fr, .agg #[.string s, .int .i64 (m : Int)], .int .i64 off] w fun e w' => e = .returned (.int .i64 (score z s.data.toList m off fr)) ∧ Below w.heap.size w w' := by
  have hl := sig_len hz
  obtain ⟨m', hm', h1, h2, h3, h4, h5, h6⟩ := pilot_nat hp
  obtain rfl : m' = m := by omega
  clear hm'
  obtain ⟨m, rfl⟩ : ∃ m, m = m' := ⟨_, rfl⟩
  obtain ⟨L, hLe⟩ : ∃ L, L = s.size * m := ⟨_, rfl⟩
  have HPL : Hid (∀ u : World, Calls Try.prog 54 #[.agg #[.string s, .int .i64 (m : Int)]] u fun e w' => e = .returned (.int .i64 (L : Int)) ∧ Below u.heap.size u w') := fun u => by rw [hLe]; exact l5Len_nat s m u h6
  have HLE := Lib.hid hLe
  rw [← hLe] at h5 h6 ho
  have HZ := Lib.hid hz
  have HR := Lib.hid hr
  have HP := Lib.hid hp
  clear hLe hr hz hp
  go_enter Try.func74, Try.ntmps74
  have hb := Below.refl (w.alloc (.cells #[.string s, .int .i64 (m:Int)] 24)).heap.size (w.alloc (.cells #[.string s, .int .i64 (m:Int)] 24))
  go_wp2
  go_loopw [9, 10] (fun v i wr => ∃ k : Nat, k ≤ L ∧ i = .int .i64 k ∧ v = .int .i64 (scT z s.data.toList m off fr k) ∧ Below (w.alloc (.cells #[.string s, .int .i64 (m : Int)] 24)).heap.size (w.alloc (.cells #[.string s, .int .i64 (m : Int)] 24)) wr) (fun _ i _ => L - (intOf i).toNat)
  case atStart => exact ⟨0, Nat.zero_le _, rfl, rfl, Below.refl _ _⟩
  case round =>
    clear hb
    obtain ⟨k, hk, rfl, rfl, hb⟩ := hrel
    have hv := scT_le HZ.out s.data.toList m off fr k
    obtain ⟨hc, hf⟩ := bcell hb
    go_wp2_with fail
    refine (HPL.out _).mono ?_
    rintro e w1 ⟨rfl, k⟩
    replace hb := below_next hb k
    clear k
    (try clear hc hf)
    obtain ⟨hc, hf⟩ := bcell hb
    by_cases hlt : k < L
    · by_cases hlt2 : fr + k < z.length
      · obtain ⟨ad, rfl, hbk, _⟩ := HR.out.at_ hlt2
        have HZC : Hid (∀ u, Below (w.alloc (.cells #[.string s, .int .i64 (m : Int)] 24)).heap.size (w.alloc (.cells #[.string s, .int .i64 (m : Int)] 24)) u → u.cell? (ad.add (fr + k)) = some (.int .i64 (z.getD (fr + k) 0))) := fun u hu => by
          obtain ⟨ad', e, _, hcell⟩ := (reads_up HR.out hu).at_ hlt2
          injection e with e
          subst e
          exact hcell
        have hx := sig_at HZ.out (fr + k)
        have hpt := pchip_two s.data.toList m off k
        have HN : Hid (scT z s.data.toList m off fr (k + 1) = scT z s.data.toList m off fr k + z.getD (fr + k) 0 * pchip s.data.toList m off k) := rfl
        have HCH : Hid (∀ u : World, Calls Try.prog 59 #[.agg #[.string s, .int .i64 (m : Int)], .int .i64 off, .int .i64 k] u fun e w' => e = .returned (.int .i64 (pchip s.data.toList m off k)) ∧ Below u.heap.size u w') := fun u => chipS_any s m off k u HP.out (by omega) (by have := HLE.out; omega)
        obtain ⟨x, hxe⟩ : ∃ x, x = z.getD (fr + k) 0 := ⟨_, rfl⟩
        obtain ⟨pc, hpe⟩ : ∃ pc, pc = pchip s.data.toList m off k := ⟨_, rfl⟩
        rw [← hxe] at HZC hx HN
        rw [← hpe] at hpt HN HCH
        have hmul : -1000000 ≤ x * pc ∧ x * pc ≤ 1000000 := by rcases hpt with h | h <;> rw [h] <;> omega
        clear hxe hpe hpt
        go_wp2
        have y1 : IntKind.i64.wrap ((fr : Int) + (k : Int)) = (fr : Int) + (k : Int) := IntWalk.i64_in _ (by omega)
        have y2 : ((fr : Int) + (k : Int)).toNat = fr + k := by omega
        have y3 : 0 ≤ (fr : Int) + (k : Int) := by omega
        have y4 : (fr : Int) + (k : Int) < (z.length : Int) := by omega
        have y5 : IntKind.i64.wrap (x * pc) = x * pc := IntWalk.i64_in _ (by omega)
        have y6 : IntKind.i64.wrap (scT z s.data.toList m off fr k + x * pc) = scT z s.data.toList m off fr k + x * pc := IntWalk.i64_in _ (by omega)
        go_region_held3 (fun u => (u.cell? ⟨w.heap.size, 0, none⟩ = some (.string s) ∧ u.cell? ⟨w.heap.size, 1, none⟩ = some (.int .i64 (m : Int))) ∧ u.cell? (ad.add (fr + k)) = some (.int .i64 x)) (exact ⟨pcells (w := w) (by first | assumption | exact Below.drew (by assumption)), HZC.out _ (by first | assumption | exact Below.drew (by assumption))⟩) (first | (go_at_call 59; refine (rel_of (W0 := (w.alloc (.cells #[.string s, .int .i64 (m : Int)] 24))) (by first | assumption | exact Below.drew (by assumption)) (HCH.out _)).mono ?_; rintro e u1 ⟨rfl, hu1⟩))
        all_goals
          clear y1 y2 y5 y6 hc hf
          go_wp2
          go_roundw
          case rel => exact ⟨k + 1, by omega, by go_num, by rw [HN.out], by assumption⟩
          case measure => simp [intOf]; omega
      · have HX : Hid (score z s.data.toList m off fr = scT z s.data.toList m off fr k) := score_exit (by rw [data_length, ← HLE.out]; omega) (.inr (by omega))
        go_wp2
        go_ret
        exact ⟨ret_int HX.out.symm, below_out hb⟩
    · have HX : Hid (score z s.data.toList m off fr = scT z s.data.toList m off fr k) := score_exit (by rw [data_length, ← HLE.out]; omega) (.inl (by rw [data_length, ← HLE.out]; omega))
      go_wp2
      go_ret
      exact ⟨ret_int HX.out.symm, below_out hb⟩
end Go.Proofs.Ytholipfekecloaa
