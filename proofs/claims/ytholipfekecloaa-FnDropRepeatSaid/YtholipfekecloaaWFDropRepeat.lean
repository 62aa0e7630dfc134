/- The walk of the law FnDropRepeat: dropping a repeated sample restores the signal, and a pilot without its first sample is the pilot with the offset before. -/
import Derived.Test.YtholipfekecloaaSharp
import Derived.Test.YtholipfekecloaaDrawR
import Derived.Test.YtholipfekecloaaSsI
import Derived.Test.YtholipfekecloaaDropS
import Derived.Deep.QuietTactic
import Derived.BigQuiet
namespace Go.Proofs.Ytholipfekecloaa.fnDropRepeat
set_option maxRecDepth 20000
open Go.ChangeShapes Go.WideShapes Go.ChangeAt Go.RowKit
set_option linter.unusedVariables false
set_option linter.unusedSimpArgs false

theorem relB {P : Program} {f : FuncId} {args : Array Value} {W0 u : World} {v : Value} (hu : Below W0.heap.size W0 u) (h : Calls P f args u fun e u' => e = .returned v ∧ Below u.heap.size u u') :
    Calls P f args u fun e u' => e = .returned v ∧ Below W0.heap.size W0 u' := h.mono fun e u' ⟨a, b⟩ => ⟨a, below_next hu b⟩
theorem two_at {W u : World} {b : Nat} {x y : Value} (h : Two W b x y) (hb : Below W.heap.size W u) : u.cell? ⟨b, 0, none⟩ = some x ∧ u.cell? ⟨b, 1, none⟩ = some y := by
  have := h.below hb
  exact ⟨this.1, this.2.1⟩
theorem reads_step {w u : World} {A : Option Addr} {l : List Int} (h : Reads w w.heap.size A l) (k : Below w.heap.size w u) : Reads u u.heap.size A l := (h.keep (fun p hp => k.cell hp)).more k.size
theorem sl_step {w u : World} {lo : Nat} {v : Value} {l : List Int} (h : Sl w lo w.heap.size v l) (k : Below w.heap.size w u) : Sl u lo u.heap.size v l := (h.below k (Nat.le_refl _)).mono (Nat.le_refl _) k.size
theorem relR {P : Program} {f : FuncId} {args : Array Value} {W0 u : World} {l : List Int} (hu : Below W0.heap.size W0 u) (h : Calls P f args u (RetL l u)) :
    Calls P f args u fun e u' => ∃ v, e = .returned v ∧ Sl u' u.heap.size u'.heap.size v l ∧ Below W0.heap.size W0 u' := h.mono fun e u' ⟨v, a, s, b⟩ => ⟨v, a, s, below_next hu b⟩
theorem off_ok' {s : ByteArray} {m off : Nat} (hp : pilotOK s.data.toList (m : Int) = true) (h : off < s.size * m) : offOK s (m : Int) (off : Int) = true := by
  have e : (s.size : Int) * (m : Int) = ((s.size * m : Nat) : Int) := by simp
  rw [off_in hp, e]
  exact inB_yes (by omega) (by omega)
theorem copy_back {z : List Int} {k : Nat} (h : k < z.length) : copyL (copyL z k 2) k 0 = z ∧ copyL (copyL z k 2) (k + 1) 0 = z := by
  have h1 : (z.take k).length = k := by simp; omega
  have e : z = z.take k ++ (z.getD k 0 :: z.drop (k + 1)) := by
    rw [List.getD_eq_getElem?_getD, List.getElem?_eq_getElem h]
    show z = z.take k ++ (z[k] :: z.drop (k + 1))
    rw [← List.drop_eq_getElem_cons h, List.take_append_drop]
  have e2 : copyL z k 2 = z.take k ++ (z.getD k 0 :: z.getD k 0 :: z.drop (k + 1)) := by simp [copyL, List.replicate]
  constructor
  · rw [e2]
    unfold copyL
    simp only [List.replicate, List.append_nil]
    rw [List.take_append_of_le_length (by omega), List.take_of_length_le (by omega), List.drop_append, h1, List.drop_of_length_le (by omega)]
    rw [show k + 1 - k = 1 by omega]
    simp only [List.nil_append, List.drop_succ_cons, List.drop_zero]
    exact e.symm
  · rw [e2]
    unfold copyL
    simp only [List.replicate, List.append_nil]
    have e4 : List.drop (k + 1 + 1) (List.take k z) = [] := List.drop_of_length_le (by omega)
    have e5 : List.take (k + 1) (List.take k z) = List.take k z := List.take_of_length_le (by omega)
    rw [List.take_append, List.drop_append, h1, e4, e5, show k + 1 - k = 1 by omega, show k + 1 + 1 - k = 2 by omega]
    simp only [List.nil_append, List.drop_succ_cons, List.drop_zero, List.take_succ_cons, List.take_zero, List.append_assoc, List.cons_append]
    exact e.symm
theorem wc_parts {z : List Int} {x : Int} {c : Nat} (h : wcOK z x c = true) : ∃ k : Nat, x = (k : Int) ∧ k < z.length ∧ sigOK z = true ∧ sigOK (copyL z k c) = true := by
  unfold wcOK at h
  simp only [Bool.and_eq_true, decide_eq_true_eq] at h
  exact ⟨x.toNat, by omega, by omega, h.1.1.1, h.2⟩
theorem wc_mk {z : List Int} {k c : Nat} (h1 : sigOK z = true) (h2 : k < z.length) (h3 : sigOK (copyL z k c) = true) : wcOK z (k : Int) c = true := by
  unfold wcOK
  rw [h1, Int.toNat_natCast, h3, decide_eq_true (by omega), decide_eq_true (by omega)]; rfl
theorem rep_drop {z : List Int} {x : Int} (h : wcOK z x 2 = true) : (wcOK (wcL z x 2) x 0 = true ∧ wcL (wcL z x 2) x 0 = z) ∧ (wcOK (wcL z x 2) (x + 1) 0 = true ∧ wcL (wcL z x 2) (x + 1) 0 = z) := by
  obtain ⟨k, rfl, hk, hz, hc⟩ := wc_parts h
  obtain ⟨c1, c2⟩ := copy_back hk
  have e : wcL z (k : Int) 2 = copyL z k 2 := by rw [wc_yes h, Int.toNat_natCast]
  rw [e]
  have hl : (copyL z k 2).length = z.length + 1 := by rw [copy_len hk]; omega
  have o1 : wcOK (copyL z k 2) (k : Int) 0 = true := wc_mk hc (by omega) (by rw [c1]; exact hz)
  have o2 : wcOK (copyL z k 2) ((k + 1 : Nat) : Int) 0 = true := wc_mk hc (by omega) (by rw [c2]; exact hz)
  have e3 : ((k + 1 : Nat) : Int) = (k : Int) + 1 := by omega
  refine ⟨⟨o1, by rw [wc_yes o1, Int.toNat_natCast, c1]⟩, by rw [← e3]; exact ⟨o2, by rw [wc_yes o2, Int.toNat_natCast, c2]⟩⟩
theorem plc_prev {L a j : Nat} (ha : a < L) : plc L a (j + 1) = plc L ((a + L - 1) % L) j := by
  unfold plc
  by_cases h : a = 0
  · subst h
    have e1 : (0 + L - 1) % L = L - 1 := by rw [show 0 + L - 1 = L - 1 by omega, Nat.mod_eq_of_lt (by omega)]
    rw [e1, show j + 1 + (L - 0) = j + 1 + L by omega, Nat.add_mod_right, show j + (L - (L - 1)) = j + 1 by omega]
  · have e1 : (a + L - 1) % L = a - 1 := by rw [show a + L - 1 = a - 1 + L by omega, Nat.add_mod_right, Nat.mod_eq_of_lt (by omega)]
    rw [e1]
    congr 1; omega
theorem drop_first {s : ByteArray} {m a L : Nat} {g : Int} (hL : L = s.size * m) (ha : a < L) (h1 : psOK s (m : Int) (a : Int) ((L + 1 : Nat) : Int) g = true) (h2 : psOK s (m : Int) (((a + L - 1) % L : Nat) : Int) (L : Int) g = true) :
    wcOK (psL s (m : Int) (a : Int) ((L + 1 : Nat) : Int) g) ((0 : Nat) : Int) 0 = true ∧ wcL (psL s (m : Int) (a : Int) ((L + 1 : Nat) : Int) g) ((0 : Nat) : Int) 0 = psL s (m : Int) (((a + L - 1) % L : Nat) : Int) (L : Int) g := by
  have hs := ps_sig h1
  have hl := ps_length h1
  have o := wc_mk (k := 0) (c := 0) hs (by omega) (drop_sig hs)
  refine ⟨o, ?_⟩
  rw [wc_yes o, Int.toNat_natCast]
  have e : copyL (psL s (m : Int) (a : Int) ((L + 1 : Nat) : Int) g) 0 0 = (psL s (m : Int) (a : Int) ((L + 1 : Nat) : Int) g).drop 1 := by simp [copyL]
  rw [e]
  apply List.ext_getElem
  · rw [List.length_drop, hl, ps_length h2]; omega
  · intro i hi1 hi2
    rw [List.length_drop, hl] at hi1
    rw [ps_length h2] at hi2
    have g1 := ps_at h1 (j := i + 1) (by omega)
    have g2 := ps_at h2 (j := i) hi2
    rw [List.getD_eq_getElem?_getD, List.getElem?_eq_getElem (by rw [hl]; omega)] at g1
    rw [List.getD_eq_getElem?_getD, List.getElem?_eq_getElem (by rw [ps_length h2]; exact hi2)] at g2
    simp only [Option.getD_some] at g1 g2
    rw [List.getElem_drop, g2]
    simp only [Nat.add_comm 1 i]
    rw [g1]
    simp only [pchip]
    rw [data_length, ← hL, plc_prev ha]

set_option maxHeartbeats 16000000 in
theorem walk (a0 : Option Addr) (len0 cap0 : Nat) (z0 : List Int) (a1 : Option Addr) (len1 cap1 : Nat) (z1 : List Int) (w : World) (hw0 : IsRow .u8 w a0 len0 cap0 z0) (hw1 : IsRow .u8 w a1 len1 cap1 z1) :
    Calls Try.prog 5 #[.slice a0 len0 cap0, .slice a1 len1 cap1] w fun e w' => e = .returned (.bool true) ∧ Below w.heap.size w w' := by
  by_cases hlen : len0 ≤ 1048576
  rotate_left
  · go_enter Try.func5, Try.ntmps5
    go_wp2
    go_ret
    exact ⟨rfl, Below.refl _ _⟩
  by_cases hlen1 : len1 ≤ 1048576
  rotate_left
  · go_enter Try.func5, Try.ntmps5
    go_wp2
    go_ret
    exact ⟨rfl, Below.refl _ _⟩
  go_enter Try.func5, Try.ntmps5
  go_wp2_with fail
  refine (drawRepeat_any _ _ _ _ _ hw0).mono ?_
  rintro e w1 ⟨v, z, x, rfl, ⟨hsl, hzl⟩, hb1⟩
  obtain ⟨A, c, rfl, hr, hc⟩ := hsl.reads
  have hz6 : z.length ≤ 1048576 := by omega
  obtain ⟨X, hX⟩ : ∃ X, X = wcL z x 2 := ⟨_, rfl⟩
  obtain ⟨Y, hY⟩ : ∃ Y, Y = wcL z x 0 := ⟨_, rfl⟩
  obtain ⟨oX, hoX⟩ : ∃ o, o = wcOK z x 2 := ⟨_, rfl⟩
  obtain ⟨oY, hoY⟩ : ∃ o, o = wcOK z x 0 := ⟨_, rfl⟩
  have hXl : X.length ≤ 1048576 := by rw [hX]; exact wcL_len _ _ _
  have hYl : Y.length ≤ 1048576 := by rw [hY]; exact wcL_len _ _ _
  have HROW0 : Hid (∀ u : World, Below w1.heap.size w1 u → IsRow .u8 u a0 len0 cap0 z0) := fun u hu => row_below' (row_below' hw0 hb1) hu
  have HBW : Hid (Below w.heap.size w w1) := hb1
  have hW0 : w.heap.size ≤ w1.heap.size := hb1.size
  have HRI : Hid (∀ u : World, Reads u u.heap.size A z → Calls Try.prog 22 #[.slice A z.length c, .int .i64 x] u (RetLB X oX u)) := fun u hu => by rw [hX, hoX]; exact repI5_any A c z x u hu hc hz6
  have HRS : Hid (∀ u : World, Reads u u.heap.size A z → Calls Try.prog 23 #[.slice A z.length c, .int .i64 x] u (RetLB X oX u)) := fun u hu => by rw [hX, hoX]; exact repS5_any A c z x u hu hc hz6
  have HDI : Hid (∀ u : World, Reads u u.heap.size A z → Calls Try.prog 24 #[.slice A z.length c, .int .i64 x] u (RetLB Y oY u)) := fun u hu => by rw [hY, hoY]; exact dropI_any A c z x u hu hc hz6
  have HDS : Hid (∀ u : World, Reads u u.heap.size A z → Calls Try.prog 25 #[.slice A z.length c, .int .i64 x] u (RetLB Y oY u)) := fun u hu => by rw [hY, hoY]; exact dropS_any A c z x u hu hc hz6
  have HDX : Hid (oX = true → ∀ (A' : Option Addr) (c' : Nat) (u : World), Reads u u.heap.size A' X → X.length ≤ c' → Calls Try.prog 24 #[.slice A' X.length c', .int .i64 x] u (RetLB z true u) ∧ Calls Try.prog 24 #[.slice A' X.length c', .int .i64 (x + 1)] u (RetLB z true u)) := fun ho A' c' u hu hcc => by
    rw [hoX] at ho
    obtain ⟨⟨p1, p2⟩, p3, p4⟩ := rep_drop ho
    rw [hX] at hu hcc ⊢
    have t1 := dropI_any A' c' (wcL z x 2) x u hu hcc (wcL_len _ _ _)
    have t2 := dropI_any A' c' (wcL z x 2) (x + 1) u hu hcc (wcL_len _ _ _)
    rw [p1, p2] at t1
    rw [p3, p4] at t2
    exact ⟨t1, t2⟩
  have HXB : Hid (oX = true → 0 ≤ x ∧ x ≤ 20000) := fun ho => by
    rw [hoX] at ho
    obtain ⟨k, rfl, hk, _⟩ := wc_parts ho
    omega
  have HSZ := Lib.hid hsl
  have HRZ := Lib.hid hr
  clear hX hY hoX hoY hsl hr hw0 hw1 hb1
  go_wp2_with fail
  refine (HRI.out _ HRZ.out).mono ?_
  rintro e u1 ⟨vx, rfl, hsx, k1⟩
  have hb1 := k1
  have HRZ1 := Lib.hid (reads_step HRZ.out k1)
  have HSZ1 := Lib.hid (sl_step HSZ.out k1)
  have HX1 := Lib.hid hsx
  clear hsx k1 HRZ HSZ
  go_wp2_with fail
  refine (HRS.out _ HRZ1.out).mono ?_
  rintro e u2 ⟨vx2, rfl, hsx2, k2⟩
  have hb2 := below_next hb1 k2
  have HRZ2 := Lib.hid (reads_step HRZ1.out k2)
  have HSZ2 := Lib.hid (sl_step HSZ1.out k2)
  have HX2 := Lib.hid (sl_step HX1.out k2)
  have HXW2 := Lib.hid hsx2
  clear hsx2 k2 hb1 HRZ1 HSZ1 HX1
  go_wp2_with fail
  refine (HDI.out _ HRZ2.out).mono ?_
  rintro e u3 ⟨vy, rfl, hsy, k3⟩
  have hb3 := below_next hb2 k3
  have HRZ3 := Lib.hid (reads_step HRZ2.out k3)
  have HSZ3 := Lib.hid (sl_step HSZ2.out k3)
  have HX3 := Lib.hid (sl_step HX2.out k3)
  have HXW3 := Lib.hid (sl_step HXW2.out k3)
  have HY3 := Lib.hid hsy
  clear hsy k3 hb2 HRZ2 HSZ2 HX2 HXW2
  go_wp2_with fail
  refine (HDS.out _ HRZ3.out).mono ?_
  rintro e u4 ⟨vy2, rfl, hsy2, k4⟩
  have hb4 := below_next hb3 k4
  have HSZ4 := Lib.hid (sl_step HSZ3.out k4)
  have HX4 := Lib.hid (sl_step HX3.out k4)
  have HXW4 := Lib.hid (sl_step HXW3.out k4)
  have HY4 := Lib.hid (sl_step HY3.out k4)
  have HYW4 := Lib.hid hsy2
  have HEQ1 := Lib.hid (ssIntsS_any HX4.out HXW4.out (Nat.le_refl _) (Nat.le_refl _) hXl)
  clear hsy2 k4 hb3 HRZ3 HSZ3 HX3 HXW3 HY3 HRI HRS HDI HDS
  go_wp2_with fail
  refine HEQ1.out.mono ?_
  rintro e u5 ⟨rfl, k5⟩
  have hb5 := below_next hb4 k5
  have HSZ5 := Lib.hid (sl_step HSZ4.out k5)
  have HX5 := Lib.hid (sl_step HX4.out k5)
  have HEQ2 := Lib.hid (ssIntsS_any (sl_step HY4.out k5) (sl_step HYW4.out k5) (Nat.le_refl _) (Nat.le_refl _) hYl)
  clear k5 hb4 HSZ4 HX4 HXW4 HY4 HYW4 HEQ1
  go_wp2_with fail
  refine HEQ2.out.mono ?_
  rintro e u6 ⟨rfl, k6⟩
  have hb6 := below_next hb5 k6
  have HSZ6 := Lib.hid (sl_step HSZ5.out k6)
  have HX6 := Lib.hid (sl_step HX5.out k6)
  clear k6 hb5 HSZ5 HX5 HEQ2
  cases hc1 : oX with
  | false =>
    have hbE := hb6
    clear hb6 HX6 HSZ6 HDX HXB
    go_wp2_with fail
    refine (ssSharp_any _ _ _ _ _ len1 _ _ (HROW0.out _ hbE) hlen hlen1).mono ?_
    rintro e w2 ⟨l, m, a, g, rfl, ⟨hS, hp', hl31, hm1, hm6, haL, hg1, hg9⟩, kS⟩
    have hbS := below_next hbE kS
    have zl := str_size l
    have hm : (str l).size ≤ maxLen := by unfold maxLen; omega
    obtain ⟨W, hW⟩ : ∃ W, W = w2.alloc (.cells #[.string (str l), .int .i64 (m : Int)] 24) := ⟨_, rfl⟩
    have HT : Hid (∀ u : World, Below W.heap.size W u → u.cell? ⟨w2.heap.size, 0, none⟩ = some (.string (str l)) ∧ u.cell? ⟨w2.heap.size, 1, none⟩ = some (.int .i64 (m : Int))) := fun u hu => two_at (by rw [hW]; exact Two.box _ _ _) hu
    have HBF : Hid (Below w.heap.size w W) := by rw [hW]; exact (HBW.out.trans (hbS.mono hW0)).alloc (Nat.le_trans hW0 hbS.size) _
    have hWF : w.heap.size ≤ W.heap.size := HBF.out.size
    have hp : pilotOK (str l).data.toList (m : Int) = true := by rw [str_list]; exact hp'
    obtain ⟨L, hL⟩ : ∃ L, L = l.length * m := ⟨_, rfl⟩
    have hLs : L = (str l).size * m := by rw [zl]; exact hL
    have hL186 : L ≤ 186 := by rw [hL]; have := Nat.mul_le_mul hl31 hm6; omega
    rw [← hL] at haL
    obtain ⟨Q, hQ⟩ : ∃ Q, Q = (a + L - 1) % L := ⟨_, rfl⟩
    have hQL : Q < L := by rw [hQ]; exact Nat.mod_lt _ (by omega)
    have HPL : Hid (∀ u : World, Calls Try.prog 13 #[.agg #[.string (str l), .int .i64 (m : Int)]] u fun e w' => e = .returned (.int .i64 (L : Int)) ∧ Below u.heap.size u w') := fun u => by rw [hLs]; exact plenI_nat u hp hm
    have hps1 : psOK (str l) (m : Int) (a : Int) ((L + 1 : Nat) : Int) (g : Int) = true := ps_ok (off_ok' hp (by omega)) ⟨by omega, by omega⟩ ⟨by omega, by omega⟩
    have hps2 : psOK (str l) (m : Int) (Q : Int) (L : Int) (g : Int) = true := ps_ok (off_ok' hp (by omega)) ⟨by omega, by omega⟩ ⟨by omega, by omega⟩
    obtain ⟨d1, d2⟩ := drop_first hLs haL hps1 (by rw [← hQ]; exact hps2)
    rw [← hQ] at d2
    obtain ⟨Z1, hZ1⟩ : ∃ Z, Z = psL (str l) (m : Int) (a : Int) ((L + 1 : Nat) : Int) (g : Int) := ⟨_, rfl⟩
    obtain ⟨Z2, hZ2⟩ : ∃ Z, Z = psL (str l) (m : Int) (Q : Int) (L : Int) (g : Int) := ⟨_, rfl⟩
    have HPS1 : Hid (∀ (u : World), Calls Try.prog 20 #[.agg #[.string (str l), .int .i64 (m : Int)], .int .i64 (a : Int), .int .i64 ((L : Int) + 1), .int .i64 (g : Int)] u (RetL Z1 u)) := fun u => by rw [hZ1]; exact ssPilot_any (str l) (m : Int) (a : Int) ((L + 1 : Nat) : Int) (g : Int) u hm
    have HPS2 : Hid (∀ (u : World), Calls Try.prog 20 #[.agg #[.string (str l), .int .i64 (m : Int)], .int .i64 (Q : Int), .int .i64 (L : Int), .int .i64 (g : Int)] u (RetL Z2 u)) := fun u => by rw [hZ2]; exact ssPilot_any (str l) (m : Int) (Q : Int) (L : Int) (g : Int) u hm
    rw [← hZ1] at d1 d2
    rw [← hZ2] at d2
    have hZ1l : Z1.length = L + 1 := by rw [hZ1]; exact ps_length hps1
    have hZ2l : Z2.length = L := by rw [hZ2]; exact ps_length hps2
    have HDZ : Hid (∀ (A' : Option Addr) (c' : Nat) (u : World), Reads u u.heap.size A' Z1 → L + 1 ≤ c' → Calls Try.prog 24 #[.slice A' (L + 1) c', .int .i64 0] u (RetLB Z2 true u)) := fun A' c' u hu hcc => by
      have t1 := dropI_any A' c' Z1 ((0 : Nat) : Int) u hu (by omega) (by omega)
      rw [d1, d2, hZ1l] at t1
      exact t1
    obtain ⟨B, hB⟩ : ∃ B : Nat, (a : Int) + (L : Int) = (B : Int) := ⟨a + L, by simp⟩
    obtain ⟨B1, hB1⟩ : ∃ B1 : Nat, (B : Int) - 1 = (B1 : Int) := ⟨B - 1, by omega⟩
    have y1 : IntKind.i64.wrap (B : Int) = (B : Int) := IntWalk.i64_in _ (by omega)
    have y2 : IntKind.i64.wrap (B1 : Int) = (B1 : Int) := IntWalk.i64_in _ (by omega)
    have y3 : (B1 : Int) % (L : Int) = (Q : Int) := by rw [hQ, show B1 = a + L - 1 by omega]; simp
    have y4 : Int.tmod (B1 : Int) (L : Int) = (Q : Int) := by rw [Int.tmod_eq_emod_of_nonneg (by omega)]; exact y3
    have hL0 : ¬ L = 0 := by omega
    have hLz : ((L : Int) == 0) = false := by simp; omega
    have yQ : IntKind.i64.wrap (Q : Int) = (Q : Int) := IntWalk.i64_in _ (by omega)
    have hZ2m : Z2.length ≤ 1048576 := by omega
    have HZ1L := Lib.hid hZ1l
    clear hZ1l hZ2l
    clear hZ1 hZ2 hps1 hps2 d1 d2 hQ hp hp' hLs hL hS hl31 hm kS hbE hbS zl
    go_wp2_with fail
    rw [← hW]
    have hb := Below.refl W.heap.size W
    obtain ⟨c0, c1⟩ := HT.out _ hb
    clear hW
    go_wp2_with fail
    refine (HPL.out _).mono ?_
    rintro e y1 ⟨rfl, k⟩
    replace hb := below_next hb k
    clear k c0 c1
    obtain ⟨c0, c1⟩ := HT.out _ hb
    go_wp2_with fail
    refine (HPS1.out _).mono ?_
    rintro e V1 ⟨v1, rfl, hs1, k1⟩
    have hbV1 := below_next hb k1
    obtain ⟨A1, p1, rfl, hr1, hcp1⟩ := hs1.reads
    rw [HZ1L.out]
    have HDC := Lib.hid (HDZ.out A1 p1 V1 hr1 (by rw [← HZ1L.out]; exact hcp1))
    clear hb k1 hs1 hr1 c0 c1
    go_wp2_with fail
    refine HDC.out.mono ?_
    rintro e V2 ⟨v2, rfl, hs2, k2⟩
    have hbV2 := below_next hbV1 k2
    have HSE : Hid (∀ u : World, Below V2.heap.size V2 u → Sl u V1.heap.size V2.heap.size v2 Z2) := fun u hu => hs2.below hu (Nat.le_refl _)
    have HTV : Hid (∀ u : World, Below V2.heap.size V2 u → u.cell? ⟨w2.heap.size, 0, none⟩ = some (.string (str l)) ∧ u.cell? ⟨w2.heap.size, 1, none⟩ = some (.int .i64 (m : Int))) := fun u hu => HT.out u (below_next hbV2 hu)
    have HBV := Lib.hid (HBF.out.trans (hbV2.mono hWF))
    have hwV : w.heap.size ≤ V2.heap.size := HBV.out.size
    have hb := Below.refl V2.heap.size V2
    clear hbV1 hbV2 hs2 k2 HDC HDZ
    go_wp2
    refine wp_region_held_drew (S := (fun u => u.cell? ⟨w2.heap.size, 0, none⟩ = some (.string (str l)) ∧ u.cell? ⟨w2.heap.size, 1, none⟩ = some (.int .i64 (m : Int)))) (by kernel_rfl) ?_ (fun hHeld => ?_)
    · (try dsimp only)
      exact HTV.out _ (by first | assumption | exact Below.drew (by assumption))
    first
      | (refine wpAnyH_take (i := 0) (oi := ⟨(some 133), _, _, _, _, _⟩) (v := ?_) rfl (by kernel_rfl) (by kernel_rfl) (by kernel_rfl) (fun _ _ _ h => h) (Or.inl ⟨by rfl, ?_⟩) (by assumption) ?_; rotate_left; (focus (intro ww hSw; (try dsimp only at hSw); go_simp; (try with_reducible rfl))))
      | (refine wpAnyH_take (i := 0) (oi := ⟨(some 133), _, _, _, _, _⟩) (v := undef) rfl (by kernel_rfl) (by kernel_rfl) (by kernel_rfl) (fun _ _ _ h => h) (Or.inr ⟨by rfl, rfl⟩) (by assumption) ?_)
    (try simp only [Act.put, List.setIfInBounds_toArray, List.set_cons_zero, List.set_cons_succ])
    first
      | (refine wpAnyH_take (i := 1) (oi := ⟨(some 134), _, _, _, _, _⟩) (v := ?_) rfl (by kernel_rfl) (by kernel_rfl) (by kernel_rfl) (fun _ _ _ h => h) (Or.inl ⟨by rfl, ?_⟩) (by assumption) ?_; rotate_left; (focus (intro ww hSw; (try dsimp only at hSw); go_simp; (try with_reducible rfl))))
      | (refine wpAnyH_take (i := 1) (oi := ⟨(some 134), _, _, _, _, _⟩) (v := undef) rfl (by kernel_rfl) (by kernel_rfl) (by kernel_rfl) (fun _ _ _ h => h) (Or.inr ⟨by rfl, rfl⟩) (by assumption) ?_)
    (try simp only [Act.put, List.setIfInBounds_toArray, List.set_cons_zero, List.set_cons_succ])
    first
      | (refine wpAnyH_take (i := 2) (oi := ⟨(some 135), _, _, _, _, _⟩) (v := ?_) rfl (by kernel_rfl) (by kernel_rfl) (by kernel_rfl) (fun _ _ _ h => h) (Or.inl ⟨by rfl, ?_⟩) (by assumption) ?_; rotate_left; (focus (intro ww hSw; (try dsimp only at hSw); go_simp; (try with_reducible rfl))))
      | (refine wpAnyH_take (i := 2) (oi := ⟨(some 135), _, _, _, _, _⟩) (v := undef) rfl (by kernel_rfl) (by kernel_rfl) (by kernel_rfl) (fun _ _ _ h => h) (Or.inr ⟨by rfl, rfl⟩) (by assumption) ?_)
    (try simp only [Act.put, List.setIfInBounds_toArray, List.set_cons_zero, List.set_cons_succ])
    first
      | (refine wpAnyH_take (i := 3) (oi := ⟨(some 136), _, _, _, _, _⟩) (v := ?_) rfl (by kernel_rfl) (by kernel_rfl) (by kernel_rfl) (fun _ _ _ h => h) (Or.inl ⟨by rfl, ?_⟩) (by assumption) ?_; rotate_left; (focus (intro ww hSw; (try dsimp only at hSw); go_simp; (try with_reducible rfl))))
      | (refine wpAnyH_take (i := 3) (oi := ⟨(some 136), _, _, _, _, _⟩) (v := undef) rfl (by kernel_rfl) (by kernel_rfl) (by kernel_rfl) (fun _ _ _ h => h) (Or.inr ⟨by rfl, rfl⟩) (by assumption) ?_)
    (try simp only [Act.put, List.setIfInBounds_toArray, List.set_cons_zero, List.set_cons_succ])
    first
      | (refine wpAnyH_take (i := 4) (oi := ⟨(some 137), _, _, _, _, _⟩) (v := ?_) rfl (by kernel_rfl) (by kernel_rfl) (by kernel_rfl) (fun _ _ _ h => h) (Or.inl ⟨by rfl, ?_⟩) (by assumption) ?_; rotate_left; (focus (intro ww hSw; (try dsimp only at hSw); go_simp; (try with_reducible rfl))))
      | (refine wpAnyH_take (i := 4) (oi := ⟨(some 137), _, _, _, _, _⟩) (v := undef) rfl (by kernel_rfl) (by kernel_rfl) (by kernel_rfl) (fun _ _ _ h => h) (Or.inr ⟨by rfl, rfl⟩) (by assumption) ?_)
    (try simp only [Act.put, List.setIfInBounds_toArray, List.set_cons_zero, List.set_cons_succ])
    first
      | (refine wpAnyH_take (i := 5) (oi := ⟨(some 138), _, _, _, _, _⟩) (v := ?_) rfl (by kernel_rfl) (by kernel_rfl) (by kernel_rfl) (fun _ _ _ h => h) (Or.inl ⟨by rfl, ?_⟩) (by assumption) ?_; rotate_left; (focus (intro ww hSw; (try dsimp only at hSw); go_simp; (try with_reducible rfl))))
      | (refine wpAnyH_take (i := 5) (oi := ⟨(some 138), _, _, _, _, _⟩) (v := undef) rfl (by kernel_rfl) (by kernel_rfl) (by kernel_rfl) (fun _ _ _ h => h) (Or.inr ⟨by rfl, rfl⟩) (by assumption) ?_)
    (try simp only [Act.put, List.setIfInBounds_toArray, List.set_cons_zero, List.set_cons_succ])
    first
      | (refine wpAnyH_take (i := 6) (oi := ⟨(some 139), _, _, _, _, _⟩) (v := ?_) rfl (by kernel_rfl) (by kernel_rfl) (by kernel_rfl) (fun _ _ _ h => h) (Or.inl ⟨by rfl, ?_⟩) (by assumption) ?_; rotate_left; (focus (intro ww hSw; (try dsimp only at hSw); go_simp; (try with_reducible rfl))))
      | (refine wpAnyH_take (i := 6) (oi := ⟨(some 139), _, _, _, _, _⟩) (v := undef) rfl (by kernel_rfl) (by kernel_rfl) (by kernel_rfl) (fun _ _ _ h => h) (Or.inr ⟨by rfl, rfl⟩) (by assumption) ?_)
    (try simp only [Act.put, List.setIfInBounds_toArray, List.set_cons_zero, List.set_cons_succ])
    first
      | (refine wpAnyH_take (i := 7) (oi := ⟨(some 140), _, _, _, _, _⟩) (v := ?_) rfl (by kernel_rfl) (by kernel_rfl) (by kernel_rfl) (fun _ _ _ h => h) (Or.inl ⟨by rfl, ?_⟩) (by assumption) ?_; rotate_left; (focus (intro ww hSw; (try dsimp only at hSw); go_simp; (try with_reducible rfl))))
      | (refine wpAnyH_take (i := 7) (oi := ⟨(some 140), _, _, _, _, _⟩) (v := undef) rfl (by kernel_rfl) (by kernel_rfl) (by kernel_rfl) (fun _ _ _ h => h) (Or.inr ⟨by rfl, rfl⟩) (by assumption) ?_)
    (try simp only [Act.put, List.setIfInBounds_toArray, List.set_cons_zero, List.set_cons_succ])
    first
      | (refine wpAnyH_take (i := 8) (oi := ⟨(some 141), _, _, _, _, _⟩) (v := ?_) rfl (by kernel_rfl) (by kernel_rfl) (by kernel_rfl) (fun _ _ _ h => h) (Or.inl ⟨by rfl, ?_⟩) (by assumption) ?_; rotate_left; (focus (intro ww hSw; (try dsimp only at hSw); go_simp; (try with_reducible rfl))))
      | (refine wpAnyH_take (i := 8) (oi := ⟨(some 141), _, _, _, _, _⟩) (v := undef) rfl (by kernel_rfl) (by kernel_rfl) (by kernel_rfl) (fun _ _ _ h => h) (Or.inr ⟨by rfl, rfl⟩) (by assumption) ?_)
    (try simp only [Act.put, List.setIfInBounds_toArray, List.set_cons_zero, List.set_cons_succ])
    first
      | (refine wpAnyH_take (i := 9) (oi := ⟨(some 142), _, _, _, _, _⟩) (v := ?_) rfl (by kernel_rfl) (by kernel_rfl) (by kernel_rfl) (fun _ _ _ h => h) (Or.inl ⟨by rfl, ?_⟩) (by assumption) ?_; rotate_left; (focus (intro ww hSw; (try dsimp only at hSw); go_simp; (try with_reducible rfl))))
      | (refine wpAnyH_take (i := 9) (oi := ⟨(some 142), _, _, _, _, _⟩) (v := undef) rfl (by kernel_rfl) (by kernel_rfl) (by kernel_rfl) (fun _ _ _ h => h) (Or.inr ⟨by rfl, rfl⟩) (by assumption) ?_)
    (try simp only [Act.put, List.setIfInBounds_toArray, List.set_cons_zero, List.set_cons_succ])
    refine wpAnyH_ready (rs := [10]) (by kernel_rfl) (by simp) ?_
    refine AllReadyH.cons (o := ⟨(some 143), _, _, _, _, _⟩) rfl (fun K hK => ?_) AllReadyH.nil
    go_simp
    refine (relR (W0 := V2) (by first | assumption | exact Below.drew (by assumption)) (HPS2.out _)).mono ?_
    rintro e q1 ⟨v3, rfl, hs3, hq1⟩
    clear hb
    go_wp2_with fail
    refine hK.out _ _ ?_ (fun hHeld => ?_)
    · (try dsimp only)
      exact HTV.out _ (by first | assumption | exact Below.drew (by assumption))
    clear hK K
    (try simp only [Act.put, List.setIfInBounds_toArray, List.set_cons_zero, List.set_cons_succ])
    refine wpAnyH_ready (rs := [11]) (by kernel_rfl) (by simp) ?_
    refine AllReadyH.cons (o := ⟨(some 144), _, _, _, _, _⟩) rfl (fun K hK => ?_) AllReadyH.nil
    go_simp
    refine (relB (W0 := V2) (by first | assumption | exact Below.drew (by assumption)) (ssIntsS_any (HSE.out _ (by first | assumption | exact Below.drew (by assumption))) hs3 (Below.size (by assumption)) (Nat.le_refl _) hZ2m)).mono ?_
    rintro e q2 ⟨rfl, hq2⟩
    clear hq1
    go_wp2_with fail
    refine hK.out _ _ ?_ (fun hHeld => ?_)
    · (try dsimp only)
      exact HTV.out _ (by first | assumption | exact Below.drew (by assumption))
    clear hK K
    (try simp only [Act.put, List.setIfInBounds_toArray, List.set_cons_zero, List.set_cons_succ])
    first
      | (refine wpAnyH_take (i := 12) (oi := ⟨(some 4), _, _, _, _, _⟩) (v := ?_) rfl (by kernel_rfl) (by kernel_rfl) (by kernel_rfl) (fun _ _ _ h => h) (Or.inl ⟨by rfl, ?_⟩) (by assumption) ?_; rotate_left; (focus (intro ww hSw; (try dsimp only at hSw); go_simp; (try with_reducible rfl))))
      | (refine wpAnyH_take (i := 12) (oi := ⟨(some 4), _, _, _, _, _⟩) (v := undef) rfl (by kernel_rfl) (by kernel_rfl) (by kernel_rfl) (fun _ _ _ h => h) (Or.inr ⟨by rfl, rfl⟩) (by assumption) ?_)
    (try simp only [Act.put, List.setIfInBounds_toArray, List.set_cons_zero, List.set_cons_succ])
    refine wpAnyH_done (by kernel_rfl) ?_ _
    go_wp2
    go_ret
    exact ⟨rfl, HBV.out.trans (Below.mono (by first | assumption | exact Below.drew (by assumption)) hwV)⟩
  | true =>
    obtain ⟨A1, p1, rfl, hr1, hcp1⟩ := HX6.out.reads
    obtain ⟨hx0, hx1⟩ := HXB.out hc1
    have HDA := Lib.hid (HDX.out hc1 A1 p1 u6 hr1 hcp1).1
    go_wp2_with fail
    refine HDA.out.mono ?_
    rintro e u7 ⟨vb, rfl, hsb, k7⟩
    have hb7 := below_next hb6 k7
    have HSZ7 := Lib.hid (sl_step HSZ6.out k7)
    have HDB := Lib.hid (HDX.out hc1 A1 p1 u7 (reads_step hr1 k7) hcp1).2
    have HB7 := Lib.hid hsb
    clear hsb k7 hb6 HDA HSZ6 hr1
    go_wp2_with fail
    refine HDB.out.mono ?_
    rintro e u8 ⟨vo, rfl, hso, k8⟩
    have hb8 := below_next hb7 k8
    have HSZ8 := Lib.hid (sl_step HSZ7.out k8)
    have HB8 := Lib.hid (sl_step HB7.out k8)
    have HO8 := Lib.hid hso
    have HEA := Lib.hid (ssIntsS_any HB8.out HSZ8.out (Nat.le_refl _) (Nat.le_refl _) hz6)
    clear hso k8 hb7 HDB HSZ7 HB7 HX6
    go_wp2_with fail
    refine HEA.out.mono ?_
    rintro e u9 ⟨rfl, k9⟩
    have hb9 := below_next hb8 k9
    have HEB := Lib.hid (ssIntsS_any (sl_step HO8.out k9) (sl_step HSZ8.out k9) (Nat.le_refl _) (Nat.le_refl _) hz6)
    clear k9 hb8 HEA HSZ8 HB8 HO8
    go_wp2_with fail
    refine HEB.out.mono ?_
    rintro e u10 ⟨rfl, k10⟩
    have hbE := below_next hb9 k10
    clear k10 hb9 HEB HDX HXB hcp1
    go_wp2_with fail
    refine (ssSharp_any _ _ _ _ _ len1 _ _ (HROW0.out _ hbE) hlen hlen1).mono ?_
    rintro e w2 ⟨l, m, a, g, rfl, ⟨hS, hp', hl31, hm1, hm6, haL, hg1, hg9⟩, kS⟩
    have hbS := below_next hbE kS
    have zl := str_size l
    have hm : (str l).size ≤ maxLen := by unfold maxLen; omega
    obtain ⟨W, hW⟩ : ∃ W, W = w2.alloc (.cells #[.string (str l), .int .i64 (m : Int)] 24) := ⟨_, rfl⟩
    have HT : Hid (∀ u : World, Below W.heap.size W u → u.cell? ⟨w2.heap.size, 0, none⟩ = some (.string (str l)) ∧ u.cell? ⟨w2.heap.size, 1, none⟩ = some (.int .i64 (m : Int))) := fun u hu => two_at (by rw [hW]; exact Two.box _ _ _) hu
    have HBF : Hid (Below w.heap.size w W) := by rw [hW]; exact (HBW.out.trans (hbS.mono hW0)).alloc (Nat.le_trans hW0 hbS.size) _
    have hWF : w.heap.size ≤ W.heap.size := HBF.out.size
    have hp : pilotOK (str l).data.toList (m : Int) = true := by rw [str_list]; exact hp'
    obtain ⟨L, hL⟩ : ∃ L, L = l.length * m := ⟨_, rfl⟩
    have hLs : L = (str l).size * m := by rw [zl]; exact hL
    have hL186 : L ≤ 186 := by rw [hL]; have := Nat.mul_le_mul hl31 hm6; omega
    rw [← hL] at haL
    obtain ⟨Q, hQ⟩ : ∃ Q, Q = (a + L - 1) % L := ⟨_, rfl⟩
    have hQL : Q < L := by rw [hQ]; exact Nat.mod_lt _ (by omega)
    have HPL : Hid (∀ u : World, Calls Try.prog 13 #[.agg #[.string (str l), .int .i64 (m : Int)]] u fun e w' => e = .returned (.int .i64 (L : Int)) ∧ Below u.heap.size u w') := fun u => by rw [hLs]; exact plenI_nat u hp hm
    have hps1 : psOK (str l) (m : Int) (a : Int) ((L + 1 : Nat) : Int) (g : Int) = true := ps_ok (off_ok' hp (by omega)) ⟨by omega, by omega⟩ ⟨by omega, by omega⟩
    have hps2 : psOK (str l) (m : Int) (Q : Int) (L : Int) (g : Int) = true := ps_ok (off_ok' hp (by omega)) ⟨by omega, by omega⟩ ⟨by omega, by omega⟩
    obtain ⟨d1, d2⟩ := drop_first hLs haL hps1 (by rw [← hQ]; exact hps2)
    rw [← hQ] at d2
    obtain ⟨Z1, hZ1⟩ : ∃ Z, Z = psL (str l) (m : Int) (a : Int) ((L + 1 : Nat) : Int) (g : Int) := ⟨_, rfl⟩
    obtain ⟨Z2, hZ2⟩ : ∃ Z, Z = psL (str l) (m : Int) (Q : Int) (L : Int) (g : Int) := ⟨_, rfl⟩
    have HPS1 : Hid (∀ (u : World), Calls Try.prog 20 #[.agg #[.string (str l), .int .i64 (m : Int)], .int .i64 (a : Int), .int .i64 ((L : Int) + 1), .int .i64 (g : Int)] u (RetL Z1 u)) := fun u => by rw [hZ1]; exact ssPilot_any (str l) (m : Int) (a : Int) ((L + 1 : Nat) : Int) (g : Int) u hm
    have HPS2 : Hid (∀ (u : World), Calls Try.prog 20 #[.agg #[.string (str l), .int .i64 (m : Int)], .int .i64 (Q : Int), .int .i64 (L : Int), .int .i64 (g : Int)] u (RetL Z2 u)) := fun u => by rw [hZ2]; exact ssPilot_any (str l) (m : Int) (Q : Int) (L : Int) (g : Int) u hm
    rw [← hZ1] at d1 d2
    rw [← hZ2] at d2
    have hZ1l : Z1.length = L + 1 := by rw [hZ1]; exact ps_length hps1
    have hZ2l : Z2.length = L := by rw [hZ2]; exact ps_length hps2
    have HDZ : Hid (∀ (A' : Option Addr) (c' : Nat) (u : World), Reads u u.heap.size A' Z1 → L + 1 ≤ c' → Calls Try.prog 24 #[.slice A' (L + 1) c', .int .i64 0] u (RetLB Z2 true u)) := fun A' c' u hu hcc => by
      have t1 := dropI_any A' c' Z1 ((0 : Nat) : Int) u hu (by omega) (by omega)
      rw [d1, d2, hZ1l] at t1
      exact t1
    obtain ⟨B, hB⟩ : ∃ B : Nat, (a : Int) + (L : Int) = (B : Int) := ⟨a + L, by simp⟩
    obtain ⟨B1, hB1⟩ : ∃ B1 : Nat, (B : Int) - 1 = (B1 : Int) := ⟨B - 1, by omega⟩
    have y1 : IntKind.i64.wrap (B : Int) = (B : Int) := IntWalk.i64_in _ (by omega)
    have y2 : IntKind.i64.wrap (B1 : Int) = (B1 : Int) := IntWalk.i64_in _ (by omega)
    have y3 : (B1 : Int) % (L : Int) = (Q : Int) := by rw [hQ, show B1 = a + L - 1 by omega]; simp
    have y4 : Int.tmod (B1 : Int) (L : Int) = (Q : Int) := by rw [Int.tmod_eq_emod_of_nonneg (by omega)]; exact y3
    have hL0 : ¬ L = 0 := by omega
    have hLz : ((L : Int) == 0) = false := by simp; omega
    have yQ : IntKind.i64.wrap (Q : Int) = (Q : Int) := IntWalk.i64_in _ (by omega)
    have hZ2m : Z2.length ≤ 1048576 := by omega
    have HZ1L := Lib.hid hZ1l
    clear hZ1l hZ2l
    clear hZ1 hZ2 hps1 hps2 d1 d2 hQ hp hp' hLs hL hS hl31 hm kS hbE hbS zl
    go_wp2_with fail
    rw [← hW]
    have hb := Below.refl W.heap.size W
    obtain ⟨c0, c1⟩ := HT.out _ hb
    clear hW
    go_wp2_with fail
    refine (HPL.out _).mono ?_
    rintro e y2 ⟨rfl, k⟩
    replace hb := below_next hb k
    clear k c0 c1
    obtain ⟨c0, c1⟩ := HT.out _ hb
    go_wp2_with fail
    refine (HPS1.out _).mono ?_
    rintro e V1 ⟨v1, rfl, hs1, k1⟩
    have hbV1 := below_next hb k1
    obtain ⟨A1, p1, rfl, hr1, hcp1⟩ := hs1.reads
    rw [HZ1L.out]
    have HDC := Lib.hid (HDZ.out A1 p1 V1 hr1 (by rw [← HZ1L.out]; exact hcp1))
    clear hb k1 hs1 hr1 c0 c1
    go_wp2_with fail
    refine HDC.out.mono ?_
    rintro e V2 ⟨v2, rfl, hs2, k2⟩
    have hbV2 := below_next hbV1 k2
    have HSE : Hid (∀ u : World, Below V2.heap.size V2 u → Sl u V1.heap.size V2.heap.size v2 Z2) := fun u hu => hs2.below hu (Nat.le_refl _)
    have HTV : Hid (∀ u : World, Below V2.heap.size V2 u → u.cell? ⟨w2.heap.size, 0, none⟩ = some (.string (str l)) ∧ u.cell? ⟨w2.heap.size, 1, none⟩ = some (.int .i64 (m : Int))) := fun u hu => HT.out u (below_next hbV2 hu)
    have HBV := Lib.hid (HBF.out.trans (hbV2.mono hWF))
    have hwV : w.heap.size ≤ V2.heap.size := HBV.out.size
    have hb := Below.refl V2.heap.size V2
    clear hbV1 hbV2 hs2 k2 HDC HDZ
    go_wp2
    refine wp_region_held_drew (S := (fun u => u.cell? ⟨w2.heap.size, 0, none⟩ = some (.string (str l)) ∧ u.cell? ⟨w2.heap.size, 1, none⟩ = some (.int .i64 (m : Int)))) (by kernel_rfl) ?_ (fun hHeld => ?_)
    · (try dsimp only)
      exact HTV.out _ (by first | assumption | exact Below.drew (by assumption))
    first
      | (refine wpAnyH_take (i := 0) (oi := ⟨(some 133), _, _, _, _, _⟩) (v := ?_) rfl (by kernel_rfl) (by kernel_rfl) (by kernel_rfl) (fun _ _ _ h => h) (Or.inl ⟨by rfl, ?_⟩) (by assumption) ?_; rotate_left; (focus (intro ww hSw; (try dsimp only at hSw); go_simp; (try with_reducible rfl))))
      | (refine wpAnyH_take (i := 0) (oi := ⟨(some 133), _, _, _, _, _⟩) (v := undef) rfl (by kernel_rfl) (by kernel_rfl) (by kernel_rfl) (fun _ _ _ h => h) (Or.inr ⟨by rfl, rfl⟩) (by assumption) ?_)
    (try simp only [Act.put, List.setIfInBounds_toArray, List.set_cons_zero, List.set_cons_succ])
    first
      | (refine wpAnyH_take (i := 1) (oi := ⟨(some 134), _, _, _, _, _⟩) (v := ?_) rfl (by kernel_rfl) (by kernel_rfl) (by kernel_rfl) (fun _ _ _ h => h) (Or.inl ⟨by rfl, ?_⟩) (by assumption) ?_; rotate_left; (focus (intro ww hSw; (try dsimp only at hSw); go_simp; (try with_reducible rfl))))
      | (refine wpAnyH_take (i := 1) (oi := ⟨(some 134), _, _, _, _, _⟩) (v := undef) rfl (by kernel_rfl) (by kernel_rfl) (by kernel_rfl) (fun _ _ _ h => h) (Or.inr ⟨by rfl, rfl⟩) (by assumption) ?_)
    (try simp only [Act.put, List.setIfInBounds_toArray, List.set_cons_zero, List.set_cons_succ])
    first
      | (refine wpAnyH_take (i := 2) (oi := ⟨(some 135), _, _, _, _, _⟩) (v := ?_) rfl (by kernel_rfl) (by kernel_rfl) (by kernel_rfl) (fun _ _ _ h => h) (Or.inl ⟨by rfl, ?_⟩) (by assumption) ?_; rotate_left; (focus (intro ww hSw; (try dsimp only at hSw); go_simp; (try with_reducible rfl))))
      | (refine wpAnyH_take (i := 2) (oi := ⟨(some 135), _, _, _, _, _⟩) (v := undef) rfl (by kernel_rfl) (by kernel_rfl) (by kernel_rfl) (fun _ _ _ h => h) (Or.inr ⟨by rfl, rfl⟩) (by assumption) ?_)
    (try simp only [Act.put, List.setIfInBounds_toArray, List.set_cons_zero, List.set_cons_succ])
    first
      | (refine wpAnyH_take (i := 3) (oi := ⟨(some 136), _, _, _, _, _⟩) (v := ?_) rfl (by kernel_rfl) (by kernel_rfl) (by kernel_rfl) (fun _ _ _ h => h) (Or.inl ⟨by rfl, ?_⟩) (by assumption) ?_; rotate_left; (focus (intro ww hSw; (try dsimp only at hSw); go_simp; (try with_reducible rfl))))
      | (refine wpAnyH_take (i := 3) (oi := ⟨(some 136), _, _, _, _, _⟩) (v := undef) rfl (by kernel_rfl) (by kernel_rfl) (by kernel_rfl) (fun _ _ _ h => h) (Or.inr ⟨by rfl, rfl⟩) (by assumption) ?_)
    (try simp only [Act.put, List.setIfInBounds_toArray, List.set_cons_zero, List.set_cons_succ])
    first
      | (refine wpAnyH_take (i := 4) (oi := ⟨(some 137), _, _, _, _, _⟩) (v := ?_) rfl (by kernel_rfl) (by kernel_rfl) (by kernel_rfl) (fun _ _ _ h => h) (Or.inl ⟨by rfl, ?_⟩) (by assumption) ?_; rotate_left; (focus (intro ww hSw; (try dsimp only at hSw); go_simp; (try with_reducible rfl))))
      | (refine wpAnyH_take (i := 4) (oi := ⟨(some 137), _, _, _, _, _⟩) (v := undef) rfl (by kernel_rfl) (by kernel_rfl) (by kernel_rfl) (fun _ _ _ h => h) (Or.inr ⟨by rfl, rfl⟩) (by assumption) ?_)
    (try simp only [Act.put, List.setIfInBounds_toArray, List.set_cons_zero, List.set_cons_succ])
    first
      | (refine wpAnyH_take (i := 5) (oi := ⟨(some 138), _, _, _, _, _⟩) (v := ?_) rfl (by kernel_rfl) (by kernel_rfl) (by kernel_rfl) (fun _ _ _ h => h) (Or.inl ⟨by rfl, ?_⟩) (by assumption) ?_; rotate_left; (focus (intro ww hSw; (try dsimp only at hSw); go_simp; (try with_reducible rfl))))
      | (refine wpAnyH_take (i := 5) (oi := ⟨(some 138), _, _, _, _, _⟩) (v := undef) rfl (by kernel_rfl) (by kernel_rfl) (by kernel_rfl) (fun _ _ _ h => h) (Or.inr ⟨by rfl, rfl⟩) (by assumption) ?_)
    (try simp only [Act.put, List.setIfInBounds_toArray, List.set_cons_zero, List.set_cons_succ])
    first
      | (refine wpAnyH_take (i := 6) (oi := ⟨(some 139), _, _, _, _, _⟩) (v := ?_) rfl (by kernel_rfl) (by kernel_rfl) (by kernel_rfl) (fun _ _ _ h => h) (Or.inl ⟨by rfl, ?_⟩) (by assumption) ?_; rotate_left; (focus (intro ww hSw; (try dsimp only at hSw); go_simp; (try with_reducible rfl))))
      | (refine wpAnyH_take (i := 6) (oi := ⟨(some 139), _, _, _, _, _⟩) (v := undef) rfl (by kernel_rfl) (by kernel_rfl) (by kernel_rfl) (fun _ _ _ h => h) (Or.inr ⟨by rfl, rfl⟩) (by assumption) ?_)
    (try simp only [Act.put, List.setIfInBounds_toArray, List.set_cons_zero, List.set_cons_succ])
    first
      | (refine wpAnyH_take (i := 7) (oi := ⟨(some 140), _, _, _, _, _⟩) (v := ?_) rfl (by kernel_rfl) (by kernel_rfl) (by kernel_rfl) (fun _ _ _ h => h) (Or.inl ⟨by rfl, ?_⟩) (by assumption) ?_; rotate_left; (focus (intro ww hSw; (try dsimp only at hSw); go_simp; (try with_reducible rfl))))
      | (refine wpAnyH_take (i := 7) (oi := ⟨(some 140), _, _, _, _, _⟩) (v := undef) rfl (by kernel_rfl) (by kernel_rfl) (by kernel_rfl) (fun _ _ _ h => h) (Or.inr ⟨by rfl, rfl⟩) (by assumption) ?_)
    (try simp only [Act.put, List.setIfInBounds_toArray, List.set_cons_zero, List.set_cons_succ])
    first
      | (refine wpAnyH_take (i := 8) (oi := ⟨(some 141), _, _, _, _, _⟩) (v := ?_) rfl (by kernel_rfl) (by kernel_rfl) (by kernel_rfl) (fun _ _ _ h => h) (Or.inl ⟨by rfl, ?_⟩) (by assumption) ?_; rotate_left; (focus (intro ww hSw; (try dsimp only at hSw); go_simp; (try with_reducible rfl))))
      | (refine wpAnyH_take (i := 8) (oi := ⟨(some 141), _, _, _, _, _⟩) (v := undef) rfl (by kernel_rfl) (by kernel_rfl) (by kernel_rfl) (fun _ _ _ h => h) (Or.inr ⟨by rfl, rfl⟩) (by assumption) ?_)
    (try simp only [Act.put, List.setIfInBounds_toArray, List.set_cons_zero, List.set_cons_succ])
    first
      | (refine wpAnyH_take (i := 9) (oi := ⟨(some 142), _, _, _, _, _⟩) (v := ?_) rfl (by kernel_rfl) (by kernel_rfl) (by kernel_rfl) (fun _ _ _ h => h) (Or.inl ⟨by rfl, ?_⟩) (by assumption) ?_; rotate_left; (focus (intro ww hSw; (try dsimp only at hSw); go_simp; (try with_reducible rfl))))
      | (refine wpAnyH_take (i := 9) (oi := ⟨(some 142), _, _, _, _, _⟩) (v := undef) rfl (by kernel_rfl) (by kernel_rfl) (by kernel_rfl) (fun _ _ _ h => h) (Or.inr ⟨by rfl, rfl⟩) (by assumption) ?_)
    (try simp only [Act.put, List.setIfInBounds_toArray, List.set_cons_zero, List.set_cons_succ])
    refine wpAnyH_ready (rs := [10]) (by kernel_rfl) (by simp) ?_
    refine AllReadyH.cons (o := ⟨(some 143), _, _, _, _, _⟩) rfl (fun K hK => ?_) AllReadyH.nil
    go_simp
    refine (relR (W0 := V2) (by first | assumption | exact Below.drew (by assumption)) (HPS2.out _)).mono ?_
    rintro e q1 ⟨v3, rfl, hs3, hq1⟩
    clear hb
    go_wp2_with fail
    refine hK.out _ _ ?_ (fun hHeld => ?_)
    · (try dsimp only)
      exact HTV.out _ (by first | assumption | exact Below.drew (by assumption))
    clear hK K
    (try simp only [Act.put, List.setIfInBounds_toArray, List.set_cons_zero, List.set_cons_succ])
    refine wpAnyH_ready (rs := [11]) (by kernel_rfl) (by simp) ?_
    refine AllReadyH.cons (o := ⟨(some 144), _, _, _, _, _⟩) rfl (fun K hK => ?_) AllReadyH.nil
    go_simp
    refine (relB (W0 := V2) (by first | assumption | exact Below.drew (by assumption)) (ssIntsS_any (HSE.out _ (by first | assumption | exact Below.drew (by assumption))) hs3 (Below.size (by assumption)) (Nat.le_refl _) hZ2m)).mono ?_
    rintro e q2 ⟨rfl, hq2⟩
    clear hq1
    go_wp2_with fail
    refine hK.out _ _ ?_ (fun hHeld => ?_)
    · (try dsimp only)
      exact HTV.out _ (by first | assumption | exact Below.drew (by assumption))
    clear hK K
    (try simp only [Act.put, List.setIfInBounds_toArray, List.set_cons_zero, List.set_cons_succ])
    first
      | (refine wpAnyH_take (i := 12) (oi := ⟨(some 4), _, _, _, _, _⟩) (v := ?_) rfl (by kernel_rfl) (by kernel_rfl) (by kernel_rfl) (fun _ _ _ h => h) (Or.inl ⟨by rfl, ?_⟩) (by assumption) ?_; rotate_left; (focus (intro ww hSw; (try dsimp only at hSw); go_simp; (try with_reducible rfl))))
      | (refine wpAnyH_take (i := 12) (oi := ⟨(some 4), _, _, _, _, _⟩) (v := undef) rfl (by kernel_rfl) (by kernel_rfl) (by kernel_rfl) (fun _ _ _ h => h) (Or.inr ⟨by rfl, rfl⟩) (by assumption) ?_)
    (try simp only [Act.put, List.setIfInBounds_toArray, List.set_cons_zero, List.set_cons_succ])
    refine wpAnyH_done (by kernel_rfl) ?_ _
    go_wp2
    go_ret
    exact ⟨rfl, HBV.out.trans (Below.mono (by first | assumption | exact Below.drew (by assumption)) hwV)⟩
end Go.Proofs.Ytholipfekecloaa.fnDropRepeat
