/- The walk of the law FnVerify: an offset is verified exactly if the scores of as many periods as needed are not less than the threshold. -/
import Derived.Test.YtholipfekecloaaDrawF
import Derived.Test.YtholipfekecloaaSsC
import Derived.Test.YtholipfekecloaaVerify
import Derived.Deep.QuietTactic
import Derived.BigQuiet
namespace Go.Proofs.Ytholipfekecloaa.fnVerify
set_option maxRecDepth 20000
open Go.ChangeShapes Go.WideShapes Go.ChangeAt Go.RowKit
set_option linter.unusedVariables false
set_option linter.unusedSimpArgs false

theorem relB {P : Program} {f : FuncId} {args : Array Value} {W0 u : World} {v : Value} (hu : Below W0.heap.size W0 u) (h : Calls P f args u fun e u' => e = .returned v ∧ Below u.heap.size u u') :
    Calls P f args u fun e u' => e = .returned v ∧ Below W0.heap.size W0 u' := h.mono fun e u' ⟨a, b⟩ => ⟨a, below_next hu b⟩
theorem two_at {W u : World} {b : Nat} {x y : Value} (h : Two W b x y) (hb : Below W.heap.size W u) : u.cell? ⟨b, 0, none⟩ = some x ∧ u.cell? ⟨b, 1, none⟩ = some y := by
  have := h.below hb
  exact ⟨this.1, this.2.1⟩

set_option maxHeartbeats 16000000 in
theorem walk (a0 : Option Addr) (len0 cap0 : Nat) (z0 : List Int) (w : World) (hw0 : IsRow .u8 w a0 len0 cap0 z0) :
    Calls Try.prog 7 #[.slice a0 len0 cap0] w fun e w' => e = .returned (.bool true) ∧ Below w.heap.size w w' := by
  by_cases hlen : len0 ≤ 1048576
  rotate_left
  · go_enter Try.func7, Try.ntmps7
    go_wp2
    go_ret
    exact ⟨rfl, Below.refl _ _⟩
  go_enter Try.func7, Try.ntmps7
  go_wp2_with fail
  refine (drawVerifyOffset_any _ _ _ _ _ hw0).mono ?_
  rintro e w1 ⟨v, z, l, m, x, t, p, d, rfl, ⟨⟨hl, hm1, hm9⟩, hsl, hzl⟩, hb1⟩
  clear hw0
  obtain ⟨A, c, rfl, hr, hzc⟩ := hsl.reads
  have zl := str_size l
  have hm : (str l).size ≤ maxLen := by unfold maxLen; omega
  obtain ⟨W, hW⟩ : ∃ W, W = w1.alloc (.cells #[.string (str l), .int .i64 m] 24) := ⟨_, rfl⟩
  have HT : Hid (∀ u : World, Below W.heap.size W u → u.cell? ⟨w1.heap.size, 0, none⟩ = some (.string (str l)) ∧ u.cell? ⟨w1.heap.size, 1, none⟩ = some (.int .i64 m)) := fun u hu => two_at (by rw [hW]; exact Two.box _ _ _) hu
  have HBW : Hid (Below w.heap.size w W) := by rw [hW]; exact hb1.alloc hb1.size _
  have hW0 : w.heap.size ≤ W.heap.size := HBW.out.size
  have HR : Hid (∀ u : World, Below W.heap.size W u → Reads u u.heap.size A z) := fun u hu => by rw [hW] at hu; exact reads_up hr hu
  have hz6 : z.length ≤ 1048576 := by omega
  have hwW : w1.heap.size < W.heap.size := by rw [hW]; simp
  go_wp2_with fail
  rw [← hW]
  have hb := Below.refl W.heap.size W
  obtain ⟨c0, c1⟩ := HT.out _ hb
  clear hW hsl hr hb1
  have HVI : Hid (∀ u : World, Below W.heap.size W u → Calls Try.prog 33 #[.slice A z.length c, .agg #[.string (str l), .int .i64 m], .int .i64 x, .int .i64 t, .int .i64 p, .int .i64 d] u fun e w' => e = .returned (.bool (verB z (str l) m x t p d)) ∧ Below u.heap.size u w') := fun u hu => verI_any A c z (str l) m x t p d u (HR.out u hu) hzc hz6 hm
  have HVS : Hid (∀ u : World, Below W.heap.size W u → Calls Try.prog 34 #[.slice A z.length c, .agg #[.string (str l), .int .i64 m], .int .i64 x, .int .i64 t, .int .i64 p, .int .i64 d] u fun e w' => e = .returned (.bool (verB z (str l) m x t p d)) ∧ Below u.heap.size u w') := fun u hu => verS_any A c z (str l) m x t p d u (HR.out u hu) hz6 hm
  have HSA : Hid (∀ u : World, Below W.heap.size W u → Calls Try.prog 35 #[.slice A z.length c, .agg #[.string (str l), .int .i64 m], .int .i64 x] u fun e w' => e = .returned (intRes (scoreO z (str l) m x)) ∧ Below u.heap.size u w') := fun u hu => scoreAtI_any A c z (str l) m x u (HR.out u hu) hz6 hm
  cases hv : (sigOK z && offOK (str l) m x) with
  | false =>
    have hVB : verB z (str l) m x t p d = false := by simp only [verB, hv]; rfl
    rw [hVB] at HVI HVS
    rw [show scoreO z (str l) m x = none by simp only [scoreO, hv]; rfl] at HSA
    change Hid (∀ u : World, _ → Calls _ _ _ u fun e w' => e = .returned (.tuple #[.int .i64 0, .bool false]) ∧ _) at HSA
    go_wp2_with fail
    refine (HVI.out _ hb).mono ?_
    rintro e y1 ⟨rfl, k⟩
    replace hb := below_next hb k
    clear k c0 c1
    obtain ⟨c0, c1⟩ := HT.out _ hb
    go_wp2_with fail
    refine (HVS.out _ hb).mono ?_
    rintro e y2 ⟨rfl, k⟩
    replace hb := below_next hb k
    clear k c0 c1
    obtain ⟨c0, c1⟩ := HT.out _ hb
    go_wp2_with fail
    refine (HSA.out _ hb).mono ?_
    rintro e y3 ⟨rfl, k⟩
    replace hb := below_next hb k
    clear k c0 c1
    obtain ⟨c0, c1⟩ := HT.out _ hb
    go_wp2
    go_ret
    exact ⟨rfl, HBW.out.trans (hb.mono hW0)⟩
  | true =>
    rw [Bool.and_eq_true] at hv
    obtain ⟨hz, ho⟩ := hv
    obtain ⟨mm, off, rfl, rfl, hp, h0, h1, h2, h3, h4, h5⟩ := off_nat ho
    rw [scoreO_yes hz ho] at HSA
    change Hid (∀ u : World, _ → Calls _ _ _ u fun e w' => e = .returned (.tuple #[.int .i64 (score z (str l).data.toList mm off 0), .bool true]) ∧ _) at HSA
    cases hpp : inB p 0 200 with
    | false =>
      rw [verB_np hpp] at HVI HVS
      generalize score z (str l).data.toList mm off 0 = S0 at *
      have hpc : p < 0 ∨ ¬ p < 0 ∧ 200 < p := by unfold inB at hpp; simp only [Bool.and_eq_false_iff, decide_eq_false_iff_not] at hpp; omega
      rcases hpc with hp0 | ⟨hp0, hp1⟩
      · have d1 : decide (p < 0) = true := decide_eq_true hp0
        clear hpp
        go_wp2_with fail
        refine (HVI.out _ hb).mono ?_
        rintro e y4 ⟨rfl, k⟩
        replace hb := below_next hb k
        clear k c0 c1
        obtain ⟨c0, c1⟩ := HT.out _ hb
        go_wp2_with fail
        refine (HVS.out _ hb).mono ?_
        rintro e y5 ⟨rfl, k⟩
        replace hb := below_next hb k
        clear k c0 c1
        obtain ⟨c0, c1⟩ := HT.out _ hb
        go_wp2_with fail
        refine (HSA.out _ hb).mono ?_
        rintro e y6 ⟨rfl, k⟩
        replace hb := below_next hb k
        clear k c0 c1
        obtain ⟨c0, c1⟩ := HT.out _ hb
        go_wp2
        go_ret
        exact ⟨rfl, HBW.out.trans (hb.mono hW0)⟩
      · have d1 : decide (p < 0) = false := decide_eq_false hp0
        have d2 : decide ((200 : Int) < p) = true := decide_eq_true hp1
        clear hpp
        go_wp2_with fail
        refine (HVI.out _ hb).mono ?_
        rintro e y7 ⟨rfl, k⟩
        replace hb := below_next hb k
        clear k c0 c1
        obtain ⟨c0, c1⟩ := HT.out _ hb
        go_wp2_with fail
        refine (HVS.out _ hb).mono ?_
        rintro e y8 ⟨rfl, k⟩
        replace hb := below_next hb k
        clear k c0 c1
        obtain ⟨c0, c1⟩ := HT.out _ hb
        go_wp2_with fail
        refine (HSA.out _ hb).mono ?_
        rintro e y9 ⟨rfl, k⟩
        replace hb := below_next hb k
        clear k c0 c1
        obtain ⟨c0, c1⟩ := HT.out _ hb
        go_wp2
        go_ret
        exact ⟨rfl, HBW.out.trans (hb.mono hW0)⟩
    | true =>
      have hpb : 0 ≤ p ∧ p ≤ 200 := by unfold inB at hpp; simp only [Bool.and_eq_true, decide_eq_true_eq] at hpp; omega
      obtain ⟨P, rfl⟩ : ∃ P : Nat, p = (P : Int) := ⟨p.toNat, by omega⟩
      have hP : P ≤ 200 := by omega
      rw [verB_yes hz ho hpp] at HVI HVS
      obtain ⟨L, hLe⟩ : ∃ L, L = (str l).size * mm := ⟨_, rfl⟩
      have hL1 : 1 ≤ L := by omega
      have hL2 : L ≤ 2040 := by omega
      have HPL : Hid (∀ u : World, Calls Try.prog 13 #[.agg #[.string (str l), .int .i64 (mm : Int)]] u fun e w' => e = .returned (.int .i64 (L : Int)) ∧ Below u.heap.size u w') := fun u => by rw [hLe]; exact plenI_nat u hp hm
      have HSC : Hid (∀ (fr c' : Nat) (u : World), fr ≤ z.length → Below W.heap.size W u → Calls Try.prog 31 #[.slice (if c = fr then A else A.map (·.add fr)) (z.length - fr) c', .agg #[.string (str l), .int .i64 (mm : Int)], .int .i64 off] u fun e w' => e = .returned (.int .i64 (score z (str l).data.toList mm off fr)) ∧ Below u.heap.size u w') := fun fr c' u hf hu => by
        have := ssScore_any (if c = fr then A else A.map (·.add fr)) c' (z.drop fr) (str l) mm off u ((HR.out u hu).cut hf hzc) (by rw [List.length_drop]; omega) hm
        rw [scoreV_yes (sig_drop hz fr) ho, score_drop, List.length_drop] at this
        exact this
      have HS0 : Hid (∀ u : World, Below W.heap.size W u → Calls Try.prog 31 #[.slice A z.length c, .agg #[.string (str l), .int .i64 (mm : Int)], .int .i64 off] u fun e w' => e = .returned (.int .i64 (score z (str l).data.toList mm off 0)) ∧ Below u.heap.size u w') := fun u hu => by
        have := ssScore_any A c z (str l) mm off u (HR.out u hu) hz6 hm
        rw [scoreV_yes hz ho] at this
        exact this
      have HVC : Hid (∀ k q, q = k * L → vcnt z (str l).data.toList mm off t (k + 1) = vcnt z (str l).data.toList mm off t k + if t ≤ score z (str l).data.toList mm off q then 1 else 0) := fun k q hq => by
        rw [hq, hLe]; show vcnt z (str l).data.toList mm off t k + (if t ≤ score z (str l).data.toList mm off (k * ((str l).data.toList.length * mm)) then 1 else 0) = _; rw [data_length]
      have HV1 : Hid (∀ u : World, Below W.heap.size W u → Calls Try.prog 33 #[.slice A z.length c, .agg #[.string (str l), .int .i64 (mm : Int)], .int .i64 off, .int .i64 t, .int .i64 1, .int .i64 1] u fun e w' => e = .returned (.bool (decide (t ≤ score z (str l).data.toList mm off 0))) ∧ Below u.heap.size u w') := fun u hu => by
        have := verI_any A c z (str l) mm off t ((1 : Nat) : Int) 1 u (HR.out u hu) hzc hz6 hm
        rw [verB_yes hz ho (by rfl)] at this
        have e : vcnt z (str l).data.toList mm off t 1 = if t ≤ score z (str l).data.toList mm off 0 then 1 else 0 := by
          show 0 + (if t ≤ score z (str l).data.toList mm off (0 * ((str l).data.toList.length * mm)) then 1 else 0) = _
          rw [Nat.zero_mul, Nat.zero_add]
        rw [e] at this
        have e2 : decide ((1 : Int) ≤ ((if t ≤ score z (str l).data.toList mm off 0 then 1 else 0 : Nat) : Int)) = decide (t ≤ score z (str l).data.toList mm off 0) := by
          split
          · rename_i h; rw [decide_eq_true h]; rfl
          · rename_i h; rw [decide_eq_false h]; rfl
        rw [e2] at this
        exact this
      have hsl := sig_len hz
      obtain ⟨S0, hS0⟩ : ∃ s, s = score z (str l).data.toList mm off 0 := ⟨_, rfl⟩
      rw [← hS0] at HSA HS0 HV1
      obtain ⟨B, hB⟩ : ∃ B, B = decide (d ≤ (vcnt z (str l).data.toList mm off t P : Int)) := ⟨_, rfl⟩
      rw [← hB] at HVI HVS
      have HBE := Lib.hid hB
      have hd1 : decide ((P : Int) < 0) = false := decide_eq_false (by omega)
      have hd2 : decide ((200 : Int) < (P : Int)) = false := decide_eq_false (by omega)
      clear hS0 hB hLe hp ho hz hpp HR h0 h5
      go_wp2_with fail
      refine (HVI.out _ hb).mono ?_
      rintro e y10 ⟨rfl, k⟩
      replace hb := below_next hb k
      clear k c0 c1
      obtain ⟨c0, c1⟩ := HT.out _ hb
      go_wp2_with fail
      refine (HVS.out _ hb).mono ?_
      rintro e y11 ⟨rfl, k⟩
      replace hb := below_next hb k
      clear k c0 c1
      obtain ⟨c0, c1⟩ := HT.out _ hb
      go_wp2_with fail
      refine (HSA.out _ hb).mono ?_
      rintro e y12 ⟨rfl, k⟩
      replace hb := below_next hb k
      clear k c0 c1
      obtain ⟨c0, c1⟩ := HT.out _ hb
      go_wp2
      clear c0 c1
      go_loopw [12, 13, 14] (fun n i _ wr => ∃ k : Nat, k ≤ P ∧ i = .int .i64 (k : Int) ∧ n = .int .i64 (vcnt z (str l).data.toList mm off t k : Int) ∧ Below W.heap.size W wr) (fun _ i _ _ => P - (intOf i).toNat)
      case atStart => exact ⟨0, Nat.zero_le _, rfl, rfl, hb⟩
      case round =>
        clear hb hd1 hd2 HVI HVS HSA
        obtain ⟨k, hk, rfl, rfl, hb⟩ := hrel
        have hvl := vcnt_le z (str l).data.toList mm off t k
        obtain ⟨c0, c1⟩ := HT.out _ hb
        by_cases hlt : k < P
        · obtain ⟨q, hq⟩ : ∃ q, q = k * L := ⟨_, rfl⟩
          have hqb : q ≤ 408000 := by rw [hq]; have : k * L ≤ 200 * 2040 := Nat.mul_le_mul (by omega) hL2; omega
          have eq1 : (k : Int) * (L : Int) = (q : Int) := by rw [hq]; simp
          have HV := Lib.hid (HVC.out k q hq)
          clear hq
          have key : ∃ fr : Nat, fr ≤ z.length ∧ score z (str l).data.toList mm off fr = score z (str l).data.toList mm off q ∧ (q < z.length ∧ fr = q ∨ z.length ≤ q ∧ fr = z.length) := by
            by_cases h : q < z.length
            · exact ⟨q, by omega, rfl, .inl ⟨h, rfl⟩⟩
            · exact ⟨z.length, Nat.le_refl _, by rw [score_past (Nat.le_refl _), score_past (by omega)], .inr ⟨by omega, rfl⟩⟩
          obtain ⟨fr, hfr, hsq, hcase⟩ := key
          rw [← hsq] at HV
          clear hsq
          obtain ⟨V, hVe⟩ : ∃ V, V = score z (str l).data.toList mm off fr := ⟨_, rfl⟩
          rw [← hVe] at HV
          have HVE := Lib.hid hVe
          clear hVe
          go_wp2_with fail
          refine (HPL.out _).mono ?_
          rintro e y13 ⟨rfl, k⟩
          replace hb := below_next hb k
          clear k c0 c1
          obtain ⟨c0, c1⟩ := HT.out _ hb
          rcases hcase with ⟨hq1, rfl⟩ | ⟨hq1, hfe⟩
          · by_cases hcf : c = fr
            · exfalso; omega
            · have HS2 : Hid (∀ (c' : Nat) (u : World), Below W.heap.size W u → Calls Try.prog 31 #[.slice (A.map (·.add fr)) (z.length - fr) c', .agg #[.string (str l), .int .i64 (mm : Int)], .int .i64 off] u fun e w' => e = .returned (.int .i64 V) ∧ Below u.heap.size u w') := fun c' u hu => by
                have := HSC.out fr c' u hfr hu; rw [if_neg hcf, ← HVE.out] at this; exact this
              have i1 : (fr : Int) ≤ (z.length : Int) := by omega
              go_wp2
              clear c0 c1 eq1
              refine wp_region_held_drew (S := (fun u => u.cell? ⟨w1.heap.size, 0, none⟩ = some (.string (str l)) ∧ u.cell? ⟨w1.heap.size, 1, none⟩ = some (.int .i64 (mm : Int)))) (by kernel_rfl) ?_ (fun hHeld => ?_)
              · (try dsimp only)
                exact HT.out _ (by first | assumption | exact Below.drew (by assumption))
              first
                | (refine wpAnyH_take (i := 0) (oi := ⟨(some 74), _, _, _, _, _⟩) (v := ?_) rfl (by kernel_rfl) (by kernel_rfl) (by kernel_rfl) (fun _ _ _ h => h) (Or.inl ⟨by rfl, ?_⟩) (by assumption) ?_; rotate_left; (focus (intro ww hSw; (try dsimp only at hSw); go_simp; (try with_reducible rfl))))
                | (refine wpAnyH_take (i := 0) (oi := ⟨(some 74), _, _, _, _, _⟩) (v := undef) rfl (by kernel_rfl) (by kernel_rfl) (by kernel_rfl) (fun _ _ _ h => h) (Or.inr ⟨by rfl, rfl⟩) (by assumption) ?_)
              (try simp only [Act.put, List.setIfInBounds_toArray, List.set_cons_zero, List.set_cons_succ])
              first
                | (refine wpAnyH_take (i := 1) (oi := ⟨(some 75), _, _, _, _, _⟩) (v := ?_) rfl (by kernel_rfl) (by kernel_rfl) (by kernel_rfl) (fun _ _ _ h => h) (Or.inl ⟨by rfl, ?_⟩) (by assumption) ?_; rotate_left; (focus (intro ww hSw; (try dsimp only at hSw); go_simp; (try with_reducible rfl))))
                | (refine wpAnyH_take (i := 1) (oi := ⟨(some 75), _, _, _, _, _⟩) (v := undef) rfl (by kernel_rfl) (by kernel_rfl) (by kernel_rfl) (fun _ _ _ h => h) (Or.inr ⟨by rfl, rfl⟩) (by assumption) ?_)
              (try simp only [Act.put, List.setIfInBounds_toArray, List.set_cons_zero, List.set_cons_succ])
              first
                | (refine wpAnyH_take (i := 2) (oi := ⟨(some 76), _, _, _, _, _⟩) (v := ?_) rfl (by kernel_rfl) (by kernel_rfl) (by kernel_rfl) (fun _ _ _ h => h) (Or.inl ⟨by rfl, ?_⟩) (by assumption) ?_; rotate_left; (focus (intro ww hSw; (try dsimp only at hSw); go_simp; (try with_reducible rfl))))
                | (refine wpAnyH_take (i := 2) (oi := ⟨(some 76), _, _, _, _, _⟩) (v := undef) rfl (by kernel_rfl) (by kernel_rfl) (by kernel_rfl) (fun _ _ _ h => h) (Or.inr ⟨by rfl, rfl⟩) (by assumption) ?_)
              (try simp only [Act.put, List.setIfInBounds_toArray, List.set_cons_zero, List.set_cons_succ])
              first
                | (refine wpAnyH_take (i := 3) (oi := ⟨(some 77), _, _, _, _, _⟩) (v := ?_) rfl (by kernel_rfl) (by kernel_rfl) (by kernel_rfl) (fun _ _ _ h => h) (Or.inl ⟨by rfl, ?_⟩) (by assumption) ?_; rotate_left; (focus (intro ww hSw; (try dsimp only at hSw); go_simp; (try with_reducible rfl))))
                | (refine wpAnyH_take (i := 3) (oi := ⟨(some 77), _, _, _, _, _⟩) (v := undef) rfl (by kernel_rfl) (by kernel_rfl) (by kernel_rfl) (fun _ _ _ h => h) (Or.inr ⟨by rfl, rfl⟩) (by assumption) ?_)
              (try simp only [Act.put, List.setIfInBounds_toArray, List.set_cons_zero, List.set_cons_succ])
              first
                | (refine wpAnyH_take (i := 4) (oi := ⟨(some 78), _, _, _, _, _⟩) (v := ?_) rfl (by kernel_rfl) (by kernel_rfl) (by kernel_rfl) (fun _ _ _ h => h) (Or.inl ⟨by rfl, ?_⟩) (by assumption) ?_; rotate_left; (focus (intro ww hSw; (try dsimp only at hSw); go_simp; (try with_reducible rfl))))
                | (refine wpAnyH_take (i := 4) (oi := ⟨(some 78), _, _, _, _, _⟩) (v := undef) rfl (by kernel_rfl) (by kernel_rfl) (by kernel_rfl) (fun _ _ _ h => h) (Or.inr ⟨by rfl, rfl⟩) (by assumption) ?_)
              (try simp only [Act.put, List.setIfInBounds_toArray, List.set_cons_zero, List.set_cons_succ])
              first
                | (refine wpAnyH_take (i := 6) (oi := ⟨(some 80), _, _, _, _, _⟩) (v := ?_) rfl (by kernel_rfl) (by kernel_rfl) (by kernel_rfl) (fun _ _ _ h => h) (Or.inl ⟨by rfl, ?_⟩) (by assumption) ?_; rotate_left; (focus (intro ww hSw; (try dsimp only at hSw); go_simp; (try with_reducible rfl))))
                | (refine wpAnyH_take (i := 6) (oi := ⟨(some 80), _, _, _, _, _⟩) (v := undef) rfl (by kernel_rfl) (by kernel_rfl) (by kernel_rfl) (fun _ _ _ h => h) (Or.inr ⟨by rfl, rfl⟩) (by assumption) ?_)
              (try simp only [Act.put, List.setIfInBounds_toArray, List.set_cons_zero, List.set_cons_succ])
              refine wpAnyH_ready (rs := [5]) (by kernel_rfl) (by simp) ?_
              refine AllReadyH.cons (o := ⟨(some 79), _, _, _, _, _⟩) rfl (fun K hK => ?_) AllReadyH.nil
              go_simp
              refine (relB (W0 := W) (by first | assumption | exact Below.drew (by assumption)) (HS2.out _ _ (by first | assumption | exact Below.drew (by assumption)))).mono ?_
              rintro e q1 ⟨rfl, hq1⟩
              go_wp2_with fail
              refine hK.out _ _ ?_ (fun hHeld => ?_)
              · (try dsimp only)
                exact HT.out _ (by first | assumption | exact Below.drew (by assumption))
              clear hK K
              (try simp only [Act.put, List.setIfInBounds_toArray, List.set_cons_zero, List.set_cons_succ])
              first
                | (refine wpAnyH_take (i := 7) (oi := ⟨(some 81), _, _, _, _, _⟩) (v := ?_) rfl (by kernel_rfl) (by kernel_rfl) (by kernel_rfl) (fun _ _ _ h => h) (Or.inl ⟨by rfl, ?_⟩) (by assumption) ?_; rotate_left; (focus (intro ww hSw; (try dsimp only at hSw); go_simp; (try with_reducible rfl))))
                | (refine wpAnyH_take (i := 7) (oi := ⟨(some 81), _, _, _, _, _⟩) (v := undef) rfl (by kernel_rfl) (by kernel_rfl) (by kernel_rfl) (fun _ _ _ h => h) (Or.inr ⟨by rfl, rfl⟩) (by assumption) ?_)
              (try simp only [Act.put, List.setIfInBounds_toArray, List.set_cons_zero, List.set_cons_succ])
              refine wpAnyH_done (by kernel_rfl) ?_ _
              skip
              by_cases hh : t ≤ V
              · have HV2 : Hid (vcnt z (str l).data.toList mm off t (k + 1) = vcnt z (str l).data.toList mm off t k + 1) := by have := HV.out; rw [if_pos hh] at this; exact this
                go_wp2
                go_roundw
                case rel => exact ⟨k + 1, by omega, by go_num, by rw [HV2.out]; go_num, by assumption⟩
                case measure => simp [intOf]; omega
              · have HV2 : Hid (vcnt z (str l).data.toList mm off t (k + 1) = vcnt z (str l).data.toList mm off t k) := by have := HV.out; rw [if_neg hh] at this; exact this
                go_wp2
                go_roundw
                case rel => exact ⟨k + 1, by omega, by go_num, by rw [HV2.out], by assumption⟩
                case measure => simp [intOf]; omega
          · have hqq : q = z.length ∨ z.length < q := by omega
            by_cases hcf : c = z.length
            · have HS2 : Hid (∀ (c' : Nat) (u : World), Below W.heap.size W u → Calls Try.prog 31 #[.slice A 0 c', .agg #[.string (str l), .int .i64 (mm : Int)], .int .i64 off] u fun e w' => e = .returned (.int .i64 V) ∧ Below u.heap.size u w') := fun c' u hu => by
                have := HSC.out fr c' u hfr hu; rw [hfe, if_pos hcf, Nat.sub_self, ← hfe, ← HVE.out] at this; exact this
              subst hcf
              clear hfe
              rcases hqq with rfl | hqq
              all_goals
                go_wp2
                clear c0 c1 eq1
                refine wp_region_held_drew (S := (fun u => u.cell? ⟨w1.heap.size, 0, none⟩ = some (.string (str l)) ∧ u.cell? ⟨w1.heap.size, 1, none⟩ = some (.int .i64 (mm : Int)))) (by kernel_rfl) ?_ (fun hHeld => ?_)
                · (try dsimp only)
                  exact HT.out _ (by first | assumption | exact Below.drew (by assumption))
                first
                  | (refine wpAnyH_take (i := 0) (oi := ⟨(some 74), _, _, _, _, _⟩) (v := ?_) rfl (by kernel_rfl) (by kernel_rfl) (by kernel_rfl) (fun _ _ _ h => h) (Or.inl ⟨by rfl, ?_⟩) (by assumption) ?_; rotate_left; (focus (intro ww hSw; (try dsimp only at hSw); go_simp; (try with_reducible rfl))))
                  | (refine wpAnyH_take (i := 0) (oi := ⟨(some 74), _, _, _, _, _⟩) (v := undef) rfl (by kernel_rfl) (by kernel_rfl) (by kernel_rfl) (fun _ _ _ h => h) (Or.inr ⟨by rfl, rfl⟩) (by assumption) ?_)
                (try simp only [Act.put, List.setIfInBounds_toArray, List.set_cons_zero, List.set_cons_succ])
                first
                  | (refine wpAnyH_take (i := 1) (oi := ⟨(some 75), _, _, _, _, _⟩) (v := ?_) rfl (by kernel_rfl) (by kernel_rfl) (by kernel_rfl) (fun _ _ _ h => h) (Or.inl ⟨by rfl, ?_⟩) (by assumption) ?_; rotate_left; (focus (intro ww hSw; (try dsimp only at hSw); go_simp; (try with_reducible rfl))))
                  | (refine wpAnyH_take (i := 1) (oi := ⟨(some 75), _, _, _, _, _⟩) (v := undef) rfl (by kernel_rfl) (by kernel_rfl) (by kernel_rfl) (fun _ _ _ h => h) (Or.inr ⟨by rfl, rfl⟩) (by assumption) ?_)
                (try simp only [Act.put, List.setIfInBounds_toArray, List.set_cons_zero, List.set_cons_succ])
                first
                  | (refine wpAnyH_take (i := 2) (oi := ⟨(some 76), _, _, _, _, _⟩) (v := ?_) rfl (by kernel_rfl) (by kernel_rfl) (by kernel_rfl) (fun _ _ _ h => h) (Or.inl ⟨by rfl, ?_⟩) (by assumption) ?_; rotate_left; (focus (intro ww hSw; (try dsimp only at hSw); go_simp; (try with_reducible rfl))))
                  | (refine wpAnyH_take (i := 2) (oi := ⟨(some 76), _, _, _, _, _⟩) (v := undef) rfl (by kernel_rfl) (by kernel_rfl) (by kernel_rfl) (fun _ _ _ h => h) (Or.inr ⟨by rfl, rfl⟩) (by assumption) ?_)
                (try simp only [Act.put, List.setIfInBounds_toArray, List.set_cons_zero, List.set_cons_succ])
                first
                  | (refine wpAnyH_take (i := 3) (oi := ⟨(some 77), _, _, _, _, _⟩) (v := ?_) rfl (by kernel_rfl) (by kernel_rfl) (by kernel_rfl) (fun _ _ _ h => h) (Or.inl ⟨by rfl, ?_⟩) (by assumption) ?_; rotate_left; (focus (intro ww hSw; (try dsimp only at hSw); go_simp; (try with_reducible rfl))))
                  | (refine wpAnyH_take (i := 3) (oi := ⟨(some 77), _, _, _, _, _⟩) (v := undef) rfl (by kernel_rfl) (by kernel_rfl) (by kernel_rfl) (fun _ _ _ h => h) (Or.inr ⟨by rfl, rfl⟩) (by assumption) ?_)
                (try simp only [Act.put, List.setIfInBounds_toArray, List.set_cons_zero, List.set_cons_succ])
                first
                  | (refine wpAnyH_take (i := 4) (oi := ⟨(some 78), _, _, _, _, _⟩) (v := ?_) rfl (by kernel_rfl) (by kernel_rfl) (by kernel_rfl) (fun _ _ _ h => h) (Or.inl ⟨by rfl, ?_⟩) (by assumption) ?_; rotate_left; (focus (intro ww hSw; (try dsimp only at hSw); go_simp; (try with_reducible rfl))))
                  | (refine wpAnyH_take (i := 4) (oi := ⟨(some 78), _, _, _, _, _⟩) (v := undef) rfl (by kernel_rfl) (by kernel_rfl) (by kernel_rfl) (fun _ _ _ h => h) (Or.inr ⟨by rfl, rfl⟩) (by assumption) ?_)
                (try simp only [Act.put, List.setIfInBounds_toArray, List.set_cons_zero, List.set_cons_succ])
                first
                  | (refine wpAnyH_take (i := 6) (oi := ⟨(some 80), _, _, _, _, _⟩) (v := ?_) rfl (by kernel_rfl) (by kernel_rfl) (by kernel_rfl) (fun _ _ _ h => h) (Or.inl ⟨by rfl, ?_⟩) (by assumption) ?_; rotate_left; (focus (intro ww hSw; (try dsimp only at hSw); go_simp; (try with_reducible rfl))))
                  | (refine wpAnyH_take (i := 6) (oi := ⟨(some 80), _, _, _, _, _⟩) (v := undef) rfl (by kernel_rfl) (by kernel_rfl) (by kernel_rfl) (fun _ _ _ h => h) (Or.inr ⟨by rfl, rfl⟩) (by assumption) ?_)
                (try simp only [Act.put, List.setIfInBounds_toArray, List.set_cons_zero, List.set_cons_succ])
                refine wpAnyH_ready (rs := [5]) (by kernel_rfl) (by simp) ?_
                refine AllReadyH.cons (o := ⟨(some 79), _, _, _, _, _⟩) rfl (fun K hK => ?_) AllReadyH.nil
                go_simp
                refine (relB (W0 := W) (by first | assumption | exact Below.drew (by assumption)) (HS2.out _ _ (by first | assumption | exact Below.drew (by assumption)))).mono ?_
                rintro e q1 ⟨rfl, hq1⟩
                go_wp2_with fail
                refine hK.out _ _ ?_ (fun hHeld => ?_)
                · (try dsimp only)
                  exact HT.out _ (by first | assumption | exact Below.drew (by assumption))
                clear hK K
                (try simp only [Act.put, List.setIfInBounds_toArray, List.set_cons_zero, List.set_cons_succ])
                first
                  | (refine wpAnyH_take (i := 7) (oi := ⟨(some 81), _, _, _, _, _⟩) (v := ?_) rfl (by kernel_rfl) (by kernel_rfl) (by kernel_rfl) (fun _ _ _ h => h) (Or.inl ⟨by rfl, ?_⟩) (by assumption) ?_; rotate_left; (focus (intro ww hSw; (try dsimp only at hSw); go_simp; (try with_reducible rfl))))
                  | (refine wpAnyH_take (i := 7) (oi := ⟨(some 81), _, _, _, _, _⟩) (v := undef) rfl (by kernel_rfl) (by kernel_rfl) (by kernel_rfl) (fun _ _ _ h => h) (Or.inr ⟨by rfl, rfl⟩) (by assumption) ?_)
                (try simp only [Act.put, List.setIfInBounds_toArray, List.set_cons_zero, List.set_cons_succ])
                refine wpAnyH_done (by kernel_rfl) ?_ _
                skip
                by_cases hh : t ≤ V
                · have HV2 : Hid (vcnt z (str l).data.toList mm off t (k + 1) = vcnt z (str l).data.toList mm off t k + 1) := by have := HV.out; rw [if_pos hh] at this; exact this
                  go_wp2
                  go_roundw
                  case rel => exact ⟨k + 1, by omega, by go_num, by rw [HV2.out]; go_num, by assumption⟩
                  case measure => simp [intOf]; omega
                · have HV2 : Hid (vcnt z (str l).data.toList mm off t (k + 1) = vcnt z (str l).data.toList mm off t k) := by have := HV.out; rw [if_neg hh] at this; exact this
                  go_wp2
                  go_roundw
                  case rel => exact ⟨k + 1, by omega, by go_num, by rw [HV2.out], by assumption⟩
                  case measure => simp [intOf]; omega
            · have HS2 : Hid (∀ (c' : Nat) (u : World), Below W.heap.size W u → Calls Try.prog 31 #[.slice (A.map (·.add z.length)) 0 c', .agg #[.string (str l), .int .i64 (mm : Int)], .int .i64 off] u fun e w' => e = .returned (.int .i64 V) ∧ Below u.heap.size u w') := fun c' u hu => by
                have hve := HVE.out; rw [hfe] at hve; have := HSC.out fr c' u hfr hu; rw [hfe, if_neg hcf, Nat.sub_self, ← hve] at this; exact this
              clear hfe
              rcases hqq with rfl | hqq
              all_goals
                go_wp2
                clear c0 c1 eq1
                refine wp_region_held_drew (S := (fun u => u.cell? ⟨w1.heap.size, 0, none⟩ = some (.string (str l)) ∧ u.cell? ⟨w1.heap.size, 1, none⟩ = some (.int .i64 (mm : Int)))) (by kernel_rfl) ?_ (fun hHeld => ?_)
                · (try dsimp only)
                  exact HT.out _ (by first | assumption | exact Below.drew (by assumption))
                first
                  | (refine wpAnyH_take (i := 0) (oi := ⟨(some 74), _, _, _, _, _⟩) (v := ?_) rfl (by kernel_rfl) (by kernel_rfl) (by kernel_rfl) (fun _ _ _ h => h) (Or.inl ⟨by rfl, ?_⟩) (by assumption) ?_; rotate_left; (focus (intro ww hSw; (try dsimp only at hSw); go_simp; (try with_reducible rfl))))
                  | (refine wpAnyH_take (i := 0) (oi := ⟨(some 74), _, _, _, _, _⟩) (v := undef) rfl (by kernel_rfl) (by kernel_rfl) (by kernel_rfl) (fun _ _ _ h => h) (Or.inr ⟨by rfl, rfl⟩) (by assumption) ?_)
                (try simp only [Act.put, List.setIfInBounds_toArray, List.set_cons_zero, List.set_cons_succ])
                first
                  | (refine wpAnyH_take (i := 1) (oi := ⟨(some 75), _, _, _, _, _⟩) (v := ?_) rfl (by kernel_rfl) (by kernel_rfl) (by kernel_rfl) (fun _ _ _ h => h) (Or.inl ⟨by rfl, ?_⟩) (by assumption) ?_; rotate_left; (focus (intro ww hSw; (try dsimp only at hSw); go_simp; (try with_reducible rfl))))
                  | (refine wpAnyH_take (i := 1) (oi := ⟨(some 75), _, _, _, _, _⟩) (v := undef) rfl (by kernel_rfl) (by kernel_rfl) (by kernel_rfl) (fun _ _ _ h => h) (Or.inr ⟨by rfl, rfl⟩) (by assumption) ?_)
                (try simp only [Act.put, List.setIfInBounds_toArray, List.set_cons_zero, List.set_cons_succ])
                first
                  | (refine wpAnyH_take (i := 2) (oi := ⟨(some 76), _, _, _, _, _⟩) (v := ?_) rfl (by kernel_rfl) (by kernel_rfl) (by kernel_rfl) (fun _ _ _ h => h) (Or.inl ⟨by rfl, ?_⟩) (by assumption) ?_; rotate_left; (focus (intro ww hSw; (try dsimp only at hSw); go_simp; (try with_reducible rfl))))
                  | (refine wpAnyH_take (i := 2) (oi := ⟨(some 76), _, _, _, _, _⟩) (v := undef) rfl (by kernel_rfl) (by kernel_rfl) (by kernel_rfl) (fun _ _ _ h => h) (Or.inr ⟨by rfl, rfl⟩) (by assumption) ?_)
                (try simp only [Act.put, List.setIfInBounds_toArray, List.set_cons_zero, List.set_cons_succ])
                first
                  | (refine wpAnyH_take (i := 3) (oi := ⟨(some 77), _, _, _, _, _⟩) (v := ?_) rfl (by kernel_rfl) (by kernel_rfl) (by kernel_rfl) (fun _ _ _ h => h) (Or.inl ⟨by rfl, ?_⟩) (by assumption) ?_; rotate_left; (focus (intro ww hSw; (try dsimp only at hSw); go_simp; (try with_reducible rfl))))
                  | (refine wpAnyH_take (i := 3) (oi := ⟨(some 77), _, _, _, _, _⟩) (v := undef) rfl (by kernel_rfl) (by kernel_rfl) (by kernel_rfl) (fun _ _ _ h => h) (Or.inr ⟨by rfl, rfl⟩) (by assumption) ?_)
                (try simp only [Act.put, List.setIfInBounds_toArray, List.set_cons_zero, List.set_cons_succ])
                first
                  | (refine wpAnyH_take (i := 4) (oi := ⟨(some 78), _, _, _, _, _⟩) (v := ?_) rfl (by kernel_rfl) (by kernel_rfl) (by kernel_rfl) (fun _ _ _ h => h) (Or.inl ⟨by rfl, ?_⟩) (by assumption) ?_; rotate_left; (focus (intro ww hSw; (try dsimp only at hSw); go_simp; (try with_reducible rfl))))
                  | (refine wpAnyH_take (i := 4) (oi := ⟨(some 78), _, _, _, _, _⟩) (v := undef) rfl (by kernel_rfl) (by kernel_rfl) (by kernel_rfl) (fun _ _ _ h => h) (Or.inr ⟨by rfl, rfl⟩) (by assumption) ?_)
                (try simp only [Act.put, List.setIfInBounds_toArray, List.set_cons_zero, List.set_cons_succ])
                first
                  | (refine wpAnyH_take (i := 6) (oi := ⟨(some 80), _, _, _, _, _⟩) (v := ?_) rfl (by kernel_rfl) (by kernel_rfl) (by kernel_rfl) (fun _ _ _ h => h) (Or.inl ⟨by rfl, ?_⟩) (by assumption) ?_; rotate_left; (focus (intro ww hSw; (try dsimp only at hSw); go_simp; (try with_reducible rfl))))
                  | (refine wpAnyH_take (i := 6) (oi := ⟨(some 80), _, _, _, _, _⟩) (v := undef) rfl (by kernel_rfl) (by kernel_rfl) (by kernel_rfl) (fun _ _ _ h => h) (Or.inr ⟨by rfl, rfl⟩) (by assumption) ?_)
                (try simp only [Act.put, List.setIfInBounds_toArray, List.set_cons_zero, List.set_cons_succ])
                refine wpAnyH_ready (rs := [5]) (by kernel_rfl) (by simp) ?_
                refine AllReadyH.cons (o := ⟨(some 79), _, _, _, _, _⟩) rfl (fun K hK => ?_) AllReadyH.nil
                go_simp
                refine (relB (W0 := W) (by first | assumption | exact Below.drew (by assumption)) (HS2.out _ _ (by first | assumption | exact Below.drew (by assumption)))).mono ?_
                rintro e q1 ⟨rfl, hq1⟩
                go_wp2_with fail
                refine hK.out _ _ ?_ (fun hHeld => ?_)
                · (try dsimp only)
                  exact HT.out _ (by first | assumption | exact Below.drew (by assumption))
                clear hK K
                (try simp only [Act.put, List.setIfInBounds_toArray, List.set_cons_zero, List.set_cons_succ])
                first
                  | (refine wpAnyH_take (i := 7) (oi := ⟨(some 81), _, _, _, _, _⟩) (v := ?_) rfl (by kernel_rfl) (by kernel_rfl) (by kernel_rfl) (fun _ _ _ h => h) (Or.inl ⟨by rfl, ?_⟩) (by assumption) ?_; rotate_left; (focus (intro ww hSw; (try dsimp only at hSw); go_simp; (try with_reducible rfl))))
                  | (refine wpAnyH_take (i := 7) (oi := ⟨(some 81), _, _, _, _, _⟩) (v := undef) rfl (by kernel_rfl) (by kernel_rfl) (by kernel_rfl) (fun _ _ _ h => h) (Or.inr ⟨by rfl, rfl⟩) (by assumption) ?_)
                (try simp only [Act.put, List.setIfInBounds_toArray, List.set_cons_zero, List.set_cons_succ])
                refine wpAnyH_done (by kernel_rfl) ?_ _
                skip
                by_cases hh : t ≤ V
                · have HV2 : Hid (vcnt z (str l).data.toList mm off t (k + 1) = vcnt z (str l).data.toList mm off t k + 1) := by have := HV.out; rw [if_pos hh] at this; exact this
                  go_wp2
                  go_roundw
                  case rel => exact ⟨k + 1, by omega, by go_num, by rw [HV2.out]; go_num, by assumption⟩
                  case measure => simp [intOf]; omega
                · have HV2 : Hid (vcnt z (str l).data.toList mm off t (k + 1) = vcnt z (str l).data.toList mm off t k) := by have := HV.out; rw [if_neg hh] at this; exact this
                  go_wp2
                  go_roundw
                  case rel => exact ⟨k + 1, by omega, by go_num, by rw [HV2.out], by assumption⟩
                  case measure => simp [intOf]; omega
        · obtain rfl : k = P := by omega
          clear hk hlt hvl
          generalize hvq : vcnt z (str l).data.toList mm off t k = q at *
          have hqb : q ≤ 200 := by rw [← hvq]; have := vcnt_le z (str l).data.toList mm off t k; omega
          have e1 : (B == decide (d ≤ (q : Int))) = true := by rw [HBE.out]; simp
          clear hvq HVC HSC HBE
          by_cases hk1 : k < 1
          · have d1 : decide ((k : Int) < 1) = true := decide_eq_true (by omega)
            go_wp2
            refine wp_region_held_drew (S := (fun u => u.cell? ⟨w1.heap.size, 0, none⟩ = some (.string (str l)) ∧ u.cell? ⟨w1.heap.size, 1, none⟩ = some (.int .i64 (mm : Int)))) (by kernel_rfl) ?_ (fun hHeld => ?_)
            · (try dsimp only)
              exact HT.out _ (by first | assumption | exact Below.drew (by assumption))
            first
              | (refine wpAnyH_take (i := 0) (oi := ⟨(some 84), _, _, _, _, _⟩) (v := ?_) rfl (by kernel_rfl) (by kernel_rfl) (by kernel_rfl) (fun _ _ _ h => h) (Or.inl ⟨by rfl, ?_⟩) (by assumption) ?_; rotate_left; (focus (intro ww hSw; (try dsimp only at hSw); go_simp; (try with_reducible rfl))))
              | (refine wpAnyH_take (i := 0) (oi := ⟨(some 84), _, _, _, _, _⟩) (v := undef) rfl (by kernel_rfl) (by kernel_rfl) (by kernel_rfl) (fun _ _ _ h => h) (Or.inr ⟨by rfl, rfl⟩) (by assumption) ?_)
            (try simp only [Act.put, List.setIfInBounds_toArray, List.set_cons_zero, List.set_cons_succ])
            first
              | (refine wpAnyH_take (i := 1) (oi := ⟨(some 85), _, _, _, _, _⟩) (v := ?_) rfl (by kernel_rfl) (by kernel_rfl) (by kernel_rfl) (fun _ _ _ h => h) (Or.inl ⟨by rfl, ?_⟩) (by assumption) ?_; rotate_left; (focus (intro ww hSw; (try dsimp only at hSw); go_simp; (try with_reducible rfl))))
              | (refine wpAnyH_take (i := 1) (oi := ⟨(some 85), _, _, _, _, _⟩) (v := undef) rfl (by kernel_rfl) (by kernel_rfl) (by kernel_rfl) (fun _ _ _ h => h) (Or.inr ⟨by rfl, rfl⟩) (by assumption) ?_)
            (try simp only [Act.put, List.setIfInBounds_toArray, List.set_cons_zero, List.set_cons_succ])
            first
              | (refine wpAnyH_take (i := 2) (oi := ⟨(some 86), _, _, _, _, _⟩) (v := ?_) rfl (by kernel_rfl) (by kernel_rfl) (by kernel_rfl) (fun _ _ _ h => h) (Or.inl ⟨by rfl, ?_⟩) (by assumption) ?_; rotate_left; (focus (intro ww hSw; (try dsimp only at hSw); go_simp; (try with_reducible rfl))))
              | (refine wpAnyH_take (i := 2) (oi := ⟨(some 86), _, _, _, _, _⟩) (v := undef) rfl (by kernel_rfl) (by kernel_rfl) (by kernel_rfl) (fun _ _ _ h => h) (Or.inr ⟨by rfl, rfl⟩) (by assumption) ?_)
            (try simp only [Act.put, List.setIfInBounds_toArray, List.set_cons_zero, List.set_cons_succ])
            first
              | (refine wpAnyH_take (i := 3) (oi := ⟨(some 87), _, _, _, _, _⟩) (v := ?_) rfl (by kernel_rfl) (by kernel_rfl) (by kernel_rfl) (fun _ _ _ h => h) (Or.inl ⟨by rfl, ?_⟩) (by assumption) ?_; rotate_left; (focus (intro ww hSw; (try dsimp only at hSw); go_simp; (try with_reducible rfl))))
              | (refine wpAnyH_take (i := 3) (oi := ⟨(some 87), _, _, _, _, _⟩) (v := undef) rfl (by kernel_rfl) (by kernel_rfl) (by kernel_rfl) (fun _ _ _ h => h) (Or.inr ⟨by rfl, rfl⟩) (by assumption) ?_)
            (try simp only [Act.put, List.setIfInBounds_toArray, List.set_cons_zero, List.set_cons_succ])
            first
              | (refine wpAnyH_take (i := 4) (oi := ⟨(some 88), _, _, _, _, _⟩) (v := ?_) rfl (by kernel_rfl) (by kernel_rfl) (by kernel_rfl) (fun _ _ _ h => h) (Or.inl ⟨by rfl, ?_⟩) (by assumption) ?_; rotate_left; (focus (intro ww hSw; (try dsimp only at hSw); go_simp; (try with_reducible rfl))))
              | (refine wpAnyH_take (i := 4) (oi := ⟨(some 88), _, _, _, _, _⟩) (v := undef) rfl (by kernel_rfl) (by kernel_rfl) (by kernel_rfl) (fun _ _ _ h => h) (Or.inr ⟨by rfl, rfl⟩) (by assumption) ?_)
            (try simp only [Act.put, List.setIfInBounds_toArray, List.set_cons_zero, List.set_cons_succ])
            first
              | (refine wpAnyH_take (i := 5) (oi := ⟨(some 89), _, _, _, _, _⟩) (v := ?_) rfl (by kernel_rfl) (by kernel_rfl) (by kernel_rfl) (fun _ _ _ h => h) (Or.inl ⟨by rfl, ?_⟩) (by assumption) ?_; rotate_left; (focus (intro ww hSw; (try dsimp only at hSw); go_simp; (try with_reducible rfl))))
              | (refine wpAnyH_take (i := 5) (oi := ⟨(some 89), _, _, _, _, _⟩) (v := undef) rfl (by kernel_rfl) (by kernel_rfl) (by kernel_rfl) (fun _ _ _ h => h) (Or.inr ⟨by rfl, rfl⟩) (by assumption) ?_)
            (try simp only [Act.put, List.setIfInBounds_toArray, List.set_cons_zero, List.set_cons_succ])
            first
              | (refine wpAnyH_take (i := 6) (oi := ⟨(some 90), _, _, _, _, _⟩) (v := ?_) rfl (by kernel_rfl) (by kernel_rfl) (by kernel_rfl) (fun _ _ _ h => h) (Or.inl ⟨by rfl, ?_⟩) (by assumption) ?_; rotate_left; (focus (intro ww hSw; (try dsimp only at hSw); go_simp; (try with_reducible rfl))))
              | (refine wpAnyH_take (i := 6) (oi := ⟨(some 90), _, _, _, _, _⟩) (v := undef) rfl (by kernel_rfl) (by kernel_rfl) (by kernel_rfl) (fun _ _ _ h => h) (Or.inr ⟨by rfl, rfl⟩) (by assumption) ?_)
            (try simp only [Act.put, List.setIfInBounds_toArray, List.set_cons_zero, List.set_cons_succ])
            first
              | (refine wpAnyH_take (i := 7) (oi := ⟨(some 91), _, _, _, _, _⟩) (v := ?_) rfl (by kernel_rfl) (by kernel_rfl) (by kernel_rfl) (fun _ _ _ h => h) (Or.inl ⟨by rfl, ?_⟩) (by assumption) ?_; rotate_left; (focus (intro ww hSw; (try dsimp only at hSw); go_simp; (try with_reducible rfl))))
              | (refine wpAnyH_take (i := 7) (oi := ⟨(some 91), _, _, _, _, _⟩) (v := undef) rfl (by kernel_rfl) (by kernel_rfl) (by kernel_rfl) (fun _ _ _ h => h) (Or.inr ⟨by rfl, rfl⟩) (by assumption) ?_)
            (try simp only [Act.put, List.setIfInBounds_toArray, List.set_cons_zero, List.set_cons_succ])
            first
              | (refine wpAnyH_take (i := 8) (oi := ⟨(some 92), _, _, _, _, _⟩) (v := ?_) rfl (by kernel_rfl) (by kernel_rfl) (by kernel_rfl) (fun _ _ _ h => h) (Or.inl ⟨by rfl, ?_⟩) (by assumption) ?_; rotate_left; (focus (intro ww hSw; (try dsimp only at hSw); go_simp; (try with_reducible rfl))))
              | (refine wpAnyH_take (i := 8) (oi := ⟨(some 92), _, _, _, _, _⟩) (v := undef) rfl (by kernel_rfl) (by kernel_rfl) (by kernel_rfl) (fun _ _ _ h => h) (Or.inr ⟨by rfl, rfl⟩) (by assumption) ?_)
            (try simp only [Act.put, List.setIfInBounds_toArray, List.set_cons_zero, List.set_cons_succ])
            first
              | (refine wpAnyH_take (i := 9) (oi := ⟨(some 93), _, _, _, _, _⟩) (v := ?_) rfl (by kernel_rfl) (by kernel_rfl) (by kernel_rfl) (fun _ _ _ h => h) (Or.inl ⟨by rfl, ?_⟩) (by assumption) ?_; rotate_left; (focus (intro ww hSw; (try dsimp only at hSw); go_simp; (try with_reducible rfl))))
              | (refine wpAnyH_take (i := 9) (oi := ⟨(some 93), _, _, _, _, _⟩) (v := undef) rfl (by kernel_rfl) (by kernel_rfl) (by kernel_rfl) (fun _ _ _ h => h) (Or.inr ⟨by rfl, rfl⟩) (by assumption) ?_)
            (try simp only [Act.put, List.setIfInBounds_toArray, List.set_cons_zero, List.set_cons_succ])
            first
              | (refine wpAnyH_take (i := 10) (oi := ⟨(some 94), _, _, _, _, _⟩) (v := ?_) rfl (by kernel_rfl) (by kernel_rfl) (by kernel_rfl) (fun _ _ _ h => h) (Or.inl ⟨by rfl, ?_⟩) (by assumption) ?_; rotate_left; (focus (intro ww hSw; (try dsimp only at hSw); go_simp; (try with_reducible rfl))))
              | (refine wpAnyH_take (i := 10) (oi := ⟨(some 94), _, _, _, _, _⟩) (v := undef) rfl (by kernel_rfl) (by kernel_rfl) (by kernel_rfl) (fun _ _ _ h => h) (Or.inr ⟨by rfl, rfl⟩) (by assumption) ?_)
            (try simp only [Act.put, List.setIfInBounds_toArray, List.set_cons_zero, List.set_cons_succ])
            first
              | (refine wpAnyH_take (i := 11) (oi := ⟨(some 95), _, _, _, _, _⟩) (v := ?_) rfl (by kernel_rfl) (by kernel_rfl) (by kernel_rfl) (fun _ _ _ h => h) (Or.inl ⟨by rfl, ?_⟩) (by assumption) ?_; rotate_left; (focus (intro ww hSw; (try dsimp only at hSw); go_simp; (try with_reducible rfl))))
              | (refine wpAnyH_take (i := 11) (oi := ⟨(some 95), _, _, _, _, _⟩) (v := undef) rfl (by kernel_rfl) (by kernel_rfl) (by kernel_rfl) (fun _ _ _ h => h) (Or.inr ⟨by rfl, rfl⟩) (by assumption) ?_)
            (try simp only [Act.put, List.setIfInBounds_toArray, List.set_cons_zero, List.set_cons_succ])
            first
              | (refine wpAnyH_take (i := 12) (oi := ⟨(some 96), _, _, _, _, _⟩) (v := ?_) rfl (by kernel_rfl) (by kernel_rfl) (by kernel_rfl) (fun _ _ _ h => h) (Or.inl ⟨by rfl, ?_⟩) (by assumption) ?_; rotate_left; (focus (intro ww hSw; (try dsimp only at hSw); go_simp; (try with_reducible rfl))))
              | (refine wpAnyH_take (i := 12) (oi := ⟨(some 96), _, _, _, _, _⟩) (v := undef) rfl (by kernel_rfl) (by kernel_rfl) (by kernel_rfl) (fun _ _ _ h => h) (Or.inr ⟨by rfl, rfl⟩) (by assumption) ?_)
            (try simp only [Act.put, List.setIfInBounds_toArray, List.set_cons_zero, List.set_cons_succ])
            first
              | (refine wpAnyH_take (i := 13) (oi := ⟨(some 97), _, _, _, _, _⟩) (v := ?_) rfl (by kernel_rfl) (by kernel_rfl) (by kernel_rfl) (fun _ _ _ h => h) (Or.inl ⟨by rfl, ?_⟩) (by assumption) ?_; rotate_left; (focus (intro ww hSw; (try dsimp only at hSw); go_simp; (try with_reducible rfl))))
              | (refine wpAnyH_take (i := 13) (oi := ⟨(some 97), _, _, _, _, _⟩) (v := undef) rfl (by kernel_rfl) (by kernel_rfl) (by kernel_rfl) (fun _ _ _ h => h) (Or.inr ⟨by rfl, rfl⟩) (by assumption) ?_)
            (try simp only [Act.put, List.setIfInBounds_toArray, List.set_cons_zero, List.set_cons_succ])
            first
              | (refine wpAnyH_take (i := 14) (oi := ⟨(some 98), _, _, _, _, _⟩) (v := ?_) rfl (by kernel_rfl) (by kernel_rfl) (by kernel_rfl) (fun _ _ _ h => h) (Or.inl ⟨by rfl, ?_⟩) (by assumption) ?_; rotate_left; (focus (intro ww hSw; (try dsimp only at hSw); go_simp; (try with_reducible rfl))))
              | (refine wpAnyH_take (i := 14) (oi := ⟨(some 98), _, _, _, _, _⟩) (v := undef) rfl (by kernel_rfl) (by kernel_rfl) (by kernel_rfl) (fun _ _ _ h => h) (Or.inr ⟨by rfl, rfl⟩) (by assumption) ?_)
            (try simp only [Act.put, List.setIfInBounds_toArray, List.set_cons_zero, List.set_cons_succ])
            first
              | (refine wpAnyH_take (i := 15) (oi := ⟨(some 99), _, _, _, _, _⟩) (v := ?_) rfl (by kernel_rfl) (by kernel_rfl) (by kernel_rfl) (fun _ _ _ h => h) (Or.inl ⟨by rfl, ?_⟩) (by assumption) ?_; rotate_left; (focus (intro ww hSw; (try dsimp only at hSw); go_simp; (try with_reducible rfl))))
              | (refine wpAnyH_take (i := 15) (oi := ⟨(some 99), _, _, _, _, _⟩) (v := undef) rfl (by kernel_rfl) (by kernel_rfl) (by kernel_rfl) (fun _ _ _ h => h) (Or.inr ⟨by rfl, rfl⟩) (by assumption) ?_)
            (try simp only [Act.put, List.setIfInBounds_toArray, List.set_cons_zero, List.set_cons_succ])
            first
              | (refine wpAnyH_take (i := 16) (oi := ⟨(some 100), _, _, _, _, _⟩) (v := ?_) rfl (by kernel_rfl) (by kernel_rfl) (by kernel_rfl) (fun _ _ _ h => h) (Or.inl ⟨by rfl, ?_⟩) (by assumption) ?_; rotate_left; (focus (intro ww hSw; (try dsimp only at hSw); go_simp; (try with_reducible rfl))))
              | (refine wpAnyH_take (i := 16) (oi := ⟨(some 100), _, _, _, _, _⟩) (v := undef) rfl (by kernel_rfl) (by kernel_rfl) (by kernel_rfl) (fun _ _ _ h => h) (Or.inr ⟨by rfl, rfl⟩) (by assumption) ?_)
            (try simp only [Act.put, List.setIfInBounds_toArray, List.set_cons_zero, List.set_cons_succ])
            first
              | (refine wpAnyH_take (i := 17) (oi := ⟨(some 101), _, _, _, _, _⟩) (v := ?_) rfl (by kernel_rfl) (by kernel_rfl) (by kernel_rfl) (fun _ _ _ h => h) (Or.inl ⟨by rfl, ?_⟩) (by assumption) ?_; rotate_left; (focus (intro ww hSw; (try dsimp only at hSw); go_simp; (try with_reducible rfl))))
              | (refine wpAnyH_take (i := 17) (oi := ⟨(some 101), _, _, _, _, _⟩) (v := undef) rfl (by kernel_rfl) (by kernel_rfl) (by kernel_rfl) (fun _ _ _ h => h) (Or.inr ⟨by rfl, rfl⟩) (by assumption) ?_)
            (try simp only [Act.put, List.setIfInBounds_toArray, List.set_cons_zero, List.set_cons_succ])
            first
              | (refine wpAnyH_take (i := 18) (oi := ⟨(some 102), _, _, _, _, _⟩) (v := ?_) rfl (by kernel_rfl) (by kernel_rfl) (by kernel_rfl) (fun _ _ _ h => h) (Or.inl ⟨by rfl, ?_⟩) (by assumption) ?_; rotate_left; (focus (intro ww hSw; (try dsimp only at hSw); go_simp; (try with_reducible rfl))))
              | (refine wpAnyH_take (i := 18) (oi := ⟨(some 102), _, _, _, _, _⟩) (v := undef) rfl (by kernel_rfl) (by kernel_rfl) (by kernel_rfl) (fun _ _ _ h => h) (Or.inr ⟨by rfl, rfl⟩) (by assumption) ?_)
            (try simp only [Act.put, List.setIfInBounds_toArray, List.set_cons_zero, List.set_cons_succ])
            first
              | (refine wpAnyH_take (i := 19) (oi := ⟨(some 103), _, _, _, _, _⟩) (v := ?_) rfl (by kernel_rfl) (by kernel_rfl) (by kernel_rfl) (fun _ _ _ h => h) (Or.inl ⟨by rfl, ?_⟩) (by assumption) ?_; rotate_left; (focus (intro ww hSw; (try dsimp only at hSw); go_simp; (try with_reducible rfl))))
              | (refine wpAnyH_take (i := 19) (oi := ⟨(some 103), _, _, _, _, _⟩) (v := undef) rfl (by kernel_rfl) (by kernel_rfl) (by kernel_rfl) (fun _ _ _ h => h) (Or.inr ⟨by rfl, rfl⟩) (by assumption) ?_)
            (try simp only [Act.put, List.setIfInBounds_toArray, List.set_cons_zero, List.set_cons_succ])
            first
              | (refine wpAnyH_take (i := 20) (oi := ⟨(some 104), _, _, _, _, _⟩) (v := ?_) rfl (by kernel_rfl) (by kernel_rfl) (by kernel_rfl) (fun _ _ _ h => h) (Or.inl ⟨by rfl, ?_⟩) (by assumption) ?_; rotate_left; (focus (intro ww hSw; (try dsimp only at hSw); go_simp; (try with_reducible rfl))))
              | (refine wpAnyH_take (i := 20) (oi := ⟨(some 104), _, _, _, _, _⟩) (v := undef) rfl (by kernel_rfl) (by kernel_rfl) (by kernel_rfl) (fun _ _ _ h => h) (Or.inr ⟨by rfl, rfl⟩) (by assumption) ?_)
            (try simp only [Act.put, List.setIfInBounds_toArray, List.set_cons_zero, List.set_cons_succ])
            first
              | (refine wpAnyH_take (i := 21) (oi := ⟨(some 105), _, _, _, _, _⟩) (v := ?_) rfl (by kernel_rfl) (by kernel_rfl) (by kernel_rfl) (fun _ _ _ h => h) (Or.inl ⟨by rfl, ?_⟩) (by assumption) ?_; rotate_left; (focus (intro ww hSw; (try dsimp only at hSw); go_simp; (try with_reducible rfl))))
              | (refine wpAnyH_take (i := 21) (oi := ⟨(some 105), _, _, _, _, _⟩) (v := undef) rfl (by kernel_rfl) (by kernel_rfl) (by kernel_rfl) (fun _ _ _ h => h) (Or.inr ⟨by rfl, rfl⟩) (by assumption) ?_)
            (try simp only [Act.put, List.setIfInBounds_toArray, List.set_cons_zero, List.set_cons_succ])
            first
              | (refine wpAnyH_take (i := 22) (oi := ⟨(some 106), _, _, _, _, _⟩) (v := ?_) rfl (by kernel_rfl) (by kernel_rfl) (by kernel_rfl) (fun _ _ _ h => h) (Or.inl ⟨by rfl, ?_⟩) (by assumption) ?_; rotate_left; (focus (intro ww hSw; (try dsimp only at hSw); go_simp; (try with_reducible rfl))))
              | (refine wpAnyH_take (i := 22) (oi := ⟨(some 106), _, _, _, _, _⟩) (v := undef) rfl (by kernel_rfl) (by kernel_rfl) (by kernel_rfl) (fun _ _ _ h => h) (Or.inr ⟨by rfl, rfl⟩) (by assumption) ?_)
            (try simp only [Act.put, List.setIfInBounds_toArray, List.set_cons_zero, List.set_cons_succ])
            first
              | (refine wpAnyH_take (i := 23) (oi := ⟨(some 2), _, _, _, _, _⟩) (v := ?_) rfl (by kernel_rfl) (by kernel_rfl) (by kernel_rfl) (fun _ _ _ h => h) (Or.inl ⟨by rfl, ?_⟩) (by assumption) ?_; rotate_left; (focus (intro ww hSw; (try dsimp only at hSw); go_simp; (try with_reducible rfl))))
              | (refine wpAnyH_take (i := 23) (oi := ⟨(some 2), _, _, _, _, _⟩) (v := undef) rfl (by kernel_rfl) (by kernel_rfl) (by kernel_rfl) (fun _ _ _ h => h) (Or.inr ⟨by rfl, rfl⟩) (by assumption) ?_)
            (try simp only [Act.put, List.setIfInBounds_toArray, List.set_cons_zero, List.set_cons_succ])
            refine wpAnyH_done (by kernel_rfl) ?_ _
            go_wp2
            go_ret
            exact ⟨rfl, HBW.out.trans (Below.mono (by first | assumption | exact Below.drew (by assumption)) hW0)⟩
          · have d1 : decide ((k : Int) < 1) = false := decide_eq_false (by omega)
            go_wp2
            refine wp_region_held_drew (S := (fun u => u.cell? ⟨w1.heap.size, 0, none⟩ = some (.string (str l)) ∧ u.cell? ⟨w1.heap.size, 1, none⟩ = some (.int .i64 (mm : Int)))) (by kernel_rfl) ?_ (fun hHeld => ?_)
            · (try dsimp only)
              exact HT.out _ (by first | assumption | exact Below.drew (by assumption))
            first
              | (refine wpAnyH_take (i := 0) (oi := ⟨(some 84), _, _, _, _, _⟩) (v := ?_) rfl (by kernel_rfl) (by kernel_rfl) (by kernel_rfl) (fun _ _ _ h => h) (Or.inl ⟨by rfl, ?_⟩) (by assumption) ?_; rotate_left; (focus (intro ww hSw; (try dsimp only at hSw); go_simp; (try with_reducible rfl))))
              | (refine wpAnyH_take (i := 0) (oi := ⟨(some 84), _, _, _, _, _⟩) (v := undef) rfl (by kernel_rfl) (by kernel_rfl) (by kernel_rfl) (fun _ _ _ h => h) (Or.inr ⟨by rfl, rfl⟩) (by assumption) ?_)
            (try simp only [Act.put, List.setIfInBounds_toArray, List.set_cons_zero, List.set_cons_succ])
            first
              | (refine wpAnyH_take (i := 1) (oi := ⟨(some 85), _, _, _, _, _⟩) (v := ?_) rfl (by kernel_rfl) (by kernel_rfl) (by kernel_rfl) (fun _ _ _ h => h) (Or.inl ⟨by rfl, ?_⟩) (by assumption) ?_; rotate_left; (focus (intro ww hSw; (try dsimp only at hSw); go_simp; (try with_reducible rfl))))
              | (refine wpAnyH_take (i := 1) (oi := ⟨(some 85), _, _, _, _, _⟩) (v := undef) rfl (by kernel_rfl) (by kernel_rfl) (by kernel_rfl) (fun _ _ _ h => h) (Or.inr ⟨by rfl, rfl⟩) (by assumption) ?_)
            (try simp only [Act.put, List.setIfInBounds_toArray, List.set_cons_zero, List.set_cons_succ])
            first
              | (refine wpAnyH_take (i := 2) (oi := ⟨(some 86), _, _, _, _, _⟩) (v := ?_) rfl (by kernel_rfl) (by kernel_rfl) (by kernel_rfl) (fun _ _ _ h => h) (Or.inl ⟨by rfl, ?_⟩) (by assumption) ?_; rotate_left; (focus (intro ww hSw; (try dsimp only at hSw); go_simp; (try with_reducible rfl))))
              | (refine wpAnyH_take (i := 2) (oi := ⟨(some 86), _, _, _, _, _⟩) (v := undef) rfl (by kernel_rfl) (by kernel_rfl) (by kernel_rfl) (fun _ _ _ h => h) (Or.inr ⟨by rfl, rfl⟩) (by assumption) ?_)
            (try simp only [Act.put, List.setIfInBounds_toArray, List.set_cons_zero, List.set_cons_succ])
            first
              | (refine wpAnyH_take (i := 3) (oi := ⟨(some 87), _, _, _, _, _⟩) (v := ?_) rfl (by kernel_rfl) (by kernel_rfl) (by kernel_rfl) (fun _ _ _ h => h) (Or.inl ⟨by rfl, ?_⟩) (by assumption) ?_; rotate_left; (focus (intro ww hSw; (try dsimp only at hSw); go_simp; (try with_reducible rfl))))
              | (refine wpAnyH_take (i := 3) (oi := ⟨(some 87), _, _, _, _, _⟩) (v := undef) rfl (by kernel_rfl) (by kernel_rfl) (by kernel_rfl) (fun _ _ _ h => h) (Or.inr ⟨by rfl, rfl⟩) (by assumption) ?_)
            (try simp only [Act.put, List.setIfInBounds_toArray, List.set_cons_zero, List.set_cons_succ])
            first
              | (refine wpAnyH_take (i := 4) (oi := ⟨(some 88), _, _, _, _, _⟩) (v := ?_) rfl (by kernel_rfl) (by kernel_rfl) (by kernel_rfl) (fun _ _ _ h => h) (Or.inl ⟨by rfl, ?_⟩) (by assumption) ?_; rotate_left; (focus (intro ww hSw; (try dsimp only at hSw); go_simp; (try with_reducible rfl))))
              | (refine wpAnyH_take (i := 4) (oi := ⟨(some 88), _, _, _, _, _⟩) (v := undef) rfl (by kernel_rfl) (by kernel_rfl) (by kernel_rfl) (fun _ _ _ h => h) (Or.inr ⟨by rfl, rfl⟩) (by assumption) ?_)
            (try simp only [Act.put, List.setIfInBounds_toArray, List.set_cons_zero, List.set_cons_succ])
            first
              | (refine wpAnyH_take (i := 5) (oi := ⟨(some 89), _, _, _, _, _⟩) (v := ?_) rfl (by kernel_rfl) (by kernel_rfl) (by kernel_rfl) (fun _ _ _ h => h) (Or.inl ⟨by rfl, ?_⟩) (by assumption) ?_; rotate_left; (focus (intro ww hSw; (try dsimp only at hSw); go_simp; (try with_reducible rfl))))
              | (refine wpAnyH_take (i := 5) (oi := ⟨(some 89), _, _, _, _, _⟩) (v := undef) rfl (by kernel_rfl) (by kernel_rfl) (by kernel_rfl) (fun _ _ _ h => h) (Or.inr ⟨by rfl, rfl⟩) (by assumption) ?_)
            (try simp only [Act.put, List.setIfInBounds_toArray, List.set_cons_zero, List.set_cons_succ])
            first
              | (refine wpAnyH_take (i := 6) (oi := ⟨(some 90), _, _, _, _, _⟩) (v := ?_) rfl (by kernel_rfl) (by kernel_rfl) (by kernel_rfl) (fun _ _ _ h => h) (Or.inl ⟨by rfl, ?_⟩) (by assumption) ?_; rotate_left; (focus (intro ww hSw; (try dsimp only at hSw); go_simp; (try with_reducible rfl))))
              | (refine wpAnyH_take (i := 6) (oi := ⟨(some 90), _, _, _, _, _⟩) (v := undef) rfl (by kernel_rfl) (by kernel_rfl) (by kernel_rfl) (fun _ _ _ h => h) (Or.inr ⟨by rfl, rfl⟩) (by assumption) ?_)
            (try simp only [Act.put, List.setIfInBounds_toArray, List.set_cons_zero, List.set_cons_succ])
            first
              | (refine wpAnyH_take (i := 7) (oi := ⟨(some 91), _, _, _, _, _⟩) (v := ?_) rfl (by kernel_rfl) (by kernel_rfl) (by kernel_rfl) (fun _ _ _ h => h) (Or.inl ⟨by rfl, ?_⟩) (by assumption) ?_; rotate_left; (focus (intro ww hSw; (try dsimp only at hSw); go_simp; (try with_reducible rfl))))
              | (refine wpAnyH_take (i := 7) (oi := ⟨(some 91), _, _, _, _, _⟩) (v := undef) rfl (by kernel_rfl) (by kernel_rfl) (by kernel_rfl) (fun _ _ _ h => h) (Or.inr ⟨by rfl, rfl⟩) (by assumption) ?_)
            (try simp only [Act.put, List.setIfInBounds_toArray, List.set_cons_zero, List.set_cons_succ])
            first
              | (refine wpAnyH_take (i := 8) (oi := ⟨(some 92), _, _, _, _, _⟩) (v := ?_) rfl (by kernel_rfl) (by kernel_rfl) (by kernel_rfl) (fun _ _ _ h => h) (Or.inl ⟨by rfl, ?_⟩) (by assumption) ?_; rotate_left; (focus (intro ww hSw; (try dsimp only at hSw); go_simp; (try with_reducible rfl))))
              | (refine wpAnyH_take (i := 8) (oi := ⟨(some 92), _, _, _, _, _⟩) (v := undef) rfl (by kernel_rfl) (by kernel_rfl) (by kernel_rfl) (fun _ _ _ h => h) (Or.inr ⟨by rfl, rfl⟩) (by assumption) ?_)
            (try simp only [Act.put, List.setIfInBounds_toArray, List.set_cons_zero, List.set_cons_succ])
            first
              | (refine wpAnyH_take (i := 9) (oi := ⟨(some 93), _, _, _, _, _⟩) (v := ?_) rfl (by kernel_rfl) (by kernel_rfl) (by kernel_rfl) (fun _ _ _ h => h) (Or.inl ⟨by rfl, ?_⟩) (by assumption) ?_; rotate_left; (focus (intro ww hSw; (try dsimp only at hSw); go_simp; (try with_reducible rfl))))
              | (refine wpAnyH_take (i := 9) (oi := ⟨(some 93), _, _, _, _, _⟩) (v := undef) rfl (by kernel_rfl) (by kernel_rfl) (by kernel_rfl) (fun _ _ _ h => h) (Or.inr ⟨by rfl, rfl⟩) (by assumption) ?_)
            (try simp only [Act.put, List.setIfInBounds_toArray, List.set_cons_zero, List.set_cons_succ])
            first
              | (refine wpAnyH_take (i := 10) (oi := ⟨(some 94), _, _, _, _, _⟩) (v := ?_) rfl (by kernel_rfl) (by kernel_rfl) (by kernel_rfl) (fun _ _ _ h => h) (Or.inl ⟨by rfl, ?_⟩) (by assumption) ?_; rotate_left; (focus (intro ww hSw; (try dsimp only at hSw); go_simp; (try with_reducible rfl))))
              | (refine wpAnyH_take (i := 10) (oi := ⟨(some 94), _, _, _, _, _⟩) (v := undef) rfl (by kernel_rfl) (by kernel_rfl) (by kernel_rfl) (fun _ _ _ h => h) (Or.inr ⟨by rfl, rfl⟩) (by assumption) ?_)
            (try simp only [Act.put, List.setIfInBounds_toArray, List.set_cons_zero, List.set_cons_succ])
            first
              | (refine wpAnyH_take (i := 11) (oi := ⟨(some 95), _, _, _, _, _⟩) (v := ?_) rfl (by kernel_rfl) (by kernel_rfl) (by kernel_rfl) (fun _ _ _ h => h) (Or.inl ⟨by rfl, ?_⟩) (by assumption) ?_; rotate_left; (focus (intro ww hSw; (try dsimp only at hSw); go_simp; (try with_reducible rfl))))
              | (refine wpAnyH_take (i := 11) (oi := ⟨(some 95), _, _, _, _, _⟩) (v := undef) rfl (by kernel_rfl) (by kernel_rfl) (by kernel_rfl) (fun _ _ _ h => h) (Or.inr ⟨by rfl, rfl⟩) (by assumption) ?_)
            (try simp only [Act.put, List.setIfInBounds_toArray, List.set_cons_zero, List.set_cons_succ])
            first
              | (refine wpAnyH_take (i := 12) (oi := ⟨(some 96), _, _, _, _, _⟩) (v := ?_) rfl (by kernel_rfl) (by kernel_rfl) (by kernel_rfl) (fun _ _ _ h => h) (Or.inl ⟨by rfl, ?_⟩) (by assumption) ?_; rotate_left; (focus (intro ww hSw; (try dsimp only at hSw); go_simp; (try with_reducible rfl))))
              | (refine wpAnyH_take (i := 12) (oi := ⟨(some 96), _, _, _, _, _⟩) (v := undef) rfl (by kernel_rfl) (by kernel_rfl) (by kernel_rfl) (fun _ _ _ h => h) (Or.inr ⟨by rfl, rfl⟩) (by assumption) ?_)
            (try simp only [Act.put, List.setIfInBounds_toArray, List.set_cons_zero, List.set_cons_succ])
            first
              | (refine wpAnyH_take (i := 14) (oi := ⟨(some 98), _, _, _, _, _⟩) (v := ?_) rfl (by kernel_rfl) (by kernel_rfl) (by kernel_rfl) (fun _ _ _ h => h) (Or.inl ⟨by rfl, ?_⟩) (by assumption) ?_; rotate_left; (focus (intro ww hSw; (try dsimp only at hSw); go_simp; (try with_reducible rfl))))
              | (refine wpAnyH_take (i := 14) (oi := ⟨(some 98), _, _, _, _, _⟩) (v := undef) rfl (by kernel_rfl) (by kernel_rfl) (by kernel_rfl) (fun _ _ _ h => h) (Or.inr ⟨by rfl, rfl⟩) (by assumption) ?_)
            (try simp only [Act.put, List.setIfInBounds_toArray, List.set_cons_zero, List.set_cons_succ])
            first
              | (refine wpAnyH_take (i := 15) (oi := ⟨(some 99), _, _, _, _, _⟩) (v := ?_) rfl (by kernel_rfl) (by kernel_rfl) (by kernel_rfl) (fun _ _ _ h => h) (Or.inl ⟨by rfl, ?_⟩) (by assumption) ?_; rotate_left; (focus (intro ww hSw; (try dsimp only at hSw); go_simp; (try with_reducible rfl))))
              | (refine wpAnyH_take (i := 15) (oi := ⟨(some 99), _, _, _, _, _⟩) (v := undef) rfl (by kernel_rfl) (by kernel_rfl) (by kernel_rfl) (fun _ _ _ h => h) (Or.inr ⟨by rfl, rfl⟩) (by assumption) ?_)
            (try simp only [Act.put, List.setIfInBounds_toArray, List.set_cons_zero, List.set_cons_succ])
            first
              | (refine wpAnyH_take (i := 16) (oi := ⟨(some 100), _, _, _, _, _⟩) (v := ?_) rfl (by kernel_rfl) (by kernel_rfl) (by kernel_rfl) (fun _ _ _ h => h) (Or.inl ⟨by rfl, ?_⟩) (by assumption) ?_; rotate_left; (focus (intro ww hSw; (try dsimp only at hSw); go_simp; (try with_reducible rfl))))
              | (refine wpAnyH_take (i := 16) (oi := ⟨(some 100), _, _, _, _, _⟩) (v := undef) rfl (by kernel_rfl) (by kernel_rfl) (by kernel_rfl) (fun _ _ _ h => h) (Or.inr ⟨by rfl, rfl⟩) (by assumption) ?_)
            (try simp only [Act.put, List.setIfInBounds_toArray, List.set_cons_zero, List.set_cons_succ])
            first
              | (refine wpAnyH_take (i := 18) (oi := ⟨(some 102), _, _, _, _, _⟩) (v := ?_) rfl (by kernel_rfl) (by kernel_rfl) (by kernel_rfl) (fun _ _ _ h => h) (Or.inl ⟨by rfl, ?_⟩) (by assumption) ?_; rotate_left; (focus (intro ww hSw; (try dsimp only at hSw); go_simp; (try with_reducible rfl))))
              | (refine wpAnyH_take (i := 18) (oi := ⟨(some 102), _, _, _, _, _⟩) (v := undef) rfl (by kernel_rfl) (by kernel_rfl) (by kernel_rfl) (fun _ _ _ h => h) (Or.inr ⟨by rfl, rfl⟩) (by assumption) ?_)
            (try simp only [Act.put, List.setIfInBounds_toArray, List.set_cons_zero, List.set_cons_succ])
            refine wpAnyH_ready (rs := [13]) (by kernel_rfl) (by simp) ?_
            refine AllReadyH.cons (o := ⟨(some 97), _, _, _, _, _⟩) rfl (fun K hK => ?_) AllReadyH.nil
            go_simp
            refine (relB (W0 := W) (by first | assumption | exact Below.drew (by assumption)) (HV1.out _ (by first | assumption | exact Below.drew (by assumption)))).mono ?_
            rintro e q1 ⟨rfl, hq1⟩
            clear hb
            go_wp2_with fail
            refine hK.out _ _ ?_ (fun hHeld => ?_)
            · (try dsimp only)
              exact HT.out _ (by first | assumption | exact Below.drew (by assumption))
            clear hK K
            (try simp only [Act.put, List.setIfInBounds_toArray, List.set_cons_zero, List.set_cons_succ])
            refine wpAnyH_ready (rs := [17]) (by kernel_rfl) (by simp) ?_
            refine AllReadyH.cons (o := ⟨(some 101), _, _, _, _, _⟩) rfl (fun K hK => ?_) AllReadyH.nil
            go_simp
            refine (relB (W0 := W) (by first | assumption | exact Below.drew (by assumption)) (HS0.out _ (by first | assumption | exact Below.drew (by assumption)))).mono ?_
            rintro e q2 ⟨rfl, hq2⟩
            clear hq1
            go_wp2_with fail
            refine hK.out _ _ ?_ (fun hHeld => ?_)
            · (try dsimp only)
              exact HT.out _ (by first | assumption | exact Below.drew (by assumption))
            clear hK K
            (try simp only [Act.put, List.setIfInBounds_toArray, List.set_cons_zero, List.set_cons_succ])
            first
              | (refine wpAnyH_take (i := 19) (oi := ⟨(some 103), _, _, _, _, _⟩) (v := ?_) rfl (by kernel_rfl) (by kernel_rfl) (by kernel_rfl) (fun _ _ _ h => h) (Or.inl ⟨by rfl, ?_⟩) (by assumption) ?_; rotate_left; (focus (intro ww hSw; (try dsimp only at hSw); go_simp; (try with_reducible rfl))))
              | (refine wpAnyH_take (i := 19) (oi := ⟨(some 103), _, _, _, _, _⟩) (v := undef) rfl (by kernel_rfl) (by kernel_rfl) (by kernel_rfl) (fun _ _ _ h => h) (Or.inr ⟨by rfl, rfl⟩) (by assumption) ?_)
            (try simp only [Act.put, List.setIfInBounds_toArray, List.set_cons_zero, List.set_cons_succ])
            first
              | (refine wpAnyH_take (i := 20) (oi := ⟨(some 104), _, _, _, _, _⟩) (v := ?_) rfl (by kernel_rfl) (by kernel_rfl) (by kernel_rfl) (fun _ _ _ h => h) (Or.inl ⟨by rfl, ?_⟩) (by assumption) ?_; rotate_left; (focus (intro ww hSw; (try dsimp only at hSw); go_simp; (try with_reducible rfl))))
              | (refine wpAnyH_take (i := 20) (oi := ⟨(some 104), _, _, _, _, _⟩) (v := undef) rfl (by kernel_rfl) (by kernel_rfl) (by kernel_rfl) (fun _ _ _ h => h) (Or.inr ⟨by rfl, rfl⟩) (by assumption) ?_)
            (try simp only [Act.put, List.setIfInBounds_toArray, List.set_cons_zero, List.set_cons_succ])
            first
              | (refine wpAnyH_take (i := 21) (oi := ⟨(some 105), _, _, _, _, _⟩) (v := ?_) rfl (by kernel_rfl) (by kernel_rfl) (by kernel_rfl) (fun _ _ _ h => h) (Or.inl ⟨by rfl, ?_⟩) (by assumption) ?_; rotate_left; (focus (intro ww hSw; (try dsimp only at hSw); go_simp; (try with_reducible rfl))))
              | (refine wpAnyH_take (i := 21) (oi := ⟨(some 105), _, _, _, _, _⟩) (v := undef) rfl (by kernel_rfl) (by kernel_rfl) (by kernel_rfl) (fun _ _ _ h => h) (Or.inr ⟨by rfl, rfl⟩) (by assumption) ?_)
            (try simp only [Act.put, List.setIfInBounds_toArray, List.set_cons_zero, List.set_cons_succ])
            first
              | (refine wpAnyH_take (i := 22) (oi := ⟨(some 106), _, _, _, _, _⟩) (v := ?_) rfl (by kernel_rfl) (by kernel_rfl) (by kernel_rfl) (fun _ _ _ h => h) (Or.inl ⟨by rfl, ?_⟩) (by assumption) ?_; rotate_left; (focus (intro ww hSw; (try dsimp only at hSw); go_simp; (try with_reducible rfl))))
              | (refine wpAnyH_take (i := 22) (oi := ⟨(some 106), _, _, _, _, _⟩) (v := undef) rfl (by kernel_rfl) (by kernel_rfl) (by kernel_rfl) (fun _ _ _ h => h) (Or.inr ⟨by rfl, rfl⟩) (by assumption) ?_)
            (try simp only [Act.put, List.setIfInBounds_toArray, List.set_cons_zero, List.set_cons_succ])
            first
              | (refine wpAnyH_take (i := 23) (oi := ⟨(some 2), _, _, _, _, _⟩) (v := ?_) rfl (by kernel_rfl) (by kernel_rfl) (by kernel_rfl) (fun _ _ _ h => h) (Or.inl ⟨by rfl, ?_⟩) (by assumption) ?_; rotate_left; (focus (intro ww hSw; (try dsimp only at hSw); go_simp; (try with_reducible rfl))))
              | (refine wpAnyH_take (i := 23) (oi := ⟨(some 2), _, _, _, _, _⟩) (v := undef) rfl (by kernel_rfl) (by kernel_rfl) (by kernel_rfl) (fun _ _ _ h => h) (Or.inr ⟨by rfl, rfl⟩) (by assumption) ?_)
            (try simp only [Act.put, List.setIfInBounds_toArray, List.set_cons_zero, List.set_cons_succ])
            refine wpAnyH_done (by kernel_rfl) ?_ _
            go_wp2
            go_ret
            exact ⟨rfl, HBW.out.trans (Below.mono (by first | assumption | exact Below.drew (by assumption)) hW0)⟩
end Go.Proofs.Ytholipfekecloaa.fnVerify
