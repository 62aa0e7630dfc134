/- The walk of the law FnScoreSum: the score of the sum of two signals is the sum of both, and that of the opposite signal the opposite. -/
import Derived.Test.YtmecbiphejjkmaaDrawF
import Derived.Test.YtmecbiphejjkmaaSsC
import Derived.Test.YtmecbiphejjkmaaPsc
import Derived.Test.YtmecbiphejjkmaaSsI
import Derived.Test.YtmecbiphejjkmaaPath
import Derived.Test.YtmecbiphejjkmaaAdd
import Derived.Deep.QuietTactic
import Derived.BigQuiet
namespace Go.Proofs.Ytmecbiphejjkmaa.fnScoreSum
set_option maxRecDepth 20000
open Go.ChangeShapes Go.WideShapes Go.ChangeAt Go.RowKit
set_option linter.unusedVariables false
set_option linter.unusedSimpArgs false

theorem relB {P : Program} {f : FuncId} {args : Array Value} {W0 u : World} {v : Value} (hu : Below W0.heap.size W0 u) (h : Calls P f args u fun e u' => e = .returned v ∧ Below u.heap.size u u') :
    Calls P f args u fun e u' => e = .returned v ∧ Below W0.heap.size W0 u' := h.mono fun e u' ⟨a, b⟩ => ⟨a, below_next hu b⟩
theorem two_at {W u : World} {b : Nat} {x y : Value} (h : Two W b x y) (hb : Below W.heap.size W u) : u.cell? ⟨b, 0, none⟩ = some x ∧ u.cell? ⟨b, 1, none⟩ = some y := by
  have := h.below hb
  exact ⟨this.1, this.2.1⟩
theorem relR {P : Program} {f : FuncId} {args : Array Value} {W0 u : World} {l : List Int} (hu : Below W0.heap.size W0 u) (h : Calls P f args u (RetL l u)) :
    Calls P f args u fun e u' => ∃ v, e = .returned v ∧ Sl u' u.heap.size u'.heap.size v l ∧ Below W0.heap.size W0 u' := h.mono fun e u' ⟨v, a, s, b⟩ => ⟨v, a, s, below_next hu b⟩
theorem sc_neg {z : List Int} (hz : sigOK z = true) : scOK z (-1) = true := by
  have h : sigOK (mulL z (-1)) = true := by
    simp only [sigOK, Bool.and_eq_true, decide_eq_true_eq, List.all_eq_true] at hz ⊢
    refine ⟨by unfold mulL; rw [List.length_map]; exact hz.1, fun x hx => ?_⟩
    unfold mulL at hx
    rw [List.mem_map] at hx
    obtain ⟨y, hy, rfl⟩ := hx
    have := hz.2 y hy
    unfold inSam inB at this ⊢
    simp only [Bool.and_eq_true, decide_eq_true_eq] at this ⊢
    omega
  unfold scOK
  rw [hz, h]; rfl

set_option maxHeartbeats 16000000 in
theorem walk (a0 : Option Addr) (len0 cap0 : Nat) (z0 : List Int) (a1 : Option Addr) (len1 cap1 : Nat) (z1 : List Int) (w : World) (hw0 : IsRow .u8 w a0 len0 cap0 z0) (hw1 : IsRow .u8 w a1 len1 cap1 z1) :
    Calls Try.prog 4 #[.slice a0 len0 cap0, .slice a1 len1 cap1] w fun e w' => e = .returned (.bool true) ∧ Below w.heap.size w w' := by
  by_cases hlen : len0 ≤ 1048576
  rotate_left
  · go_enter Try.func4, Try.ntmps4
    go_wp2
    go_ret
    exact ⟨rfl, Below.refl _ _⟩
  by_cases hlen1 : len1 ≤ 1048576
  rotate_left
  · go_enter Try.func4, Try.ntmps4
    go_wp2
    go_ret
    exact ⟨rfl, Below.refl _ _⟩
  go_enter Try.func4, Try.ntmps4
  go_wp2_with fail
  refine (drawAt_any _ _ _ _ _ hw0).mono ?_
  rintro e w1 ⟨v, z, l, m, x, rfl, ⟨hl, hm1, hm9⟩, ⟨hx1, hx2⟩, ⟨hsl, hzl⟩, hb1⟩
  clear hw0
  obtain ⟨A, c, rfl, hr, hzc⟩ := hsl.reads
  have zl := str_size l
  have hm : (str l).size ≤ maxLen := by unfold maxLen; omega
  obtain ⟨W, hW⟩ : ∃ W, W = w1.alloc (.cells #[.string (str l), .int .i64 m] 25) := ⟨_, rfl⟩
  have HT : Hid (∀ u : World, Below W.heap.size W u → u.cell? ⟨w1.heap.size, 0, none⟩ = some (.string (str l)) ∧ u.cell? ⟨w1.heap.size, 1, none⟩ = some (.int .i64 m)) := fun u hu => two_at (by rw [hW]; exact Two.box _ _ _) hu
  have HBW : Hid (Below w.heap.size w W) := by rw [hW]; exact hb1.alloc hb1.size _
  have hW0 : w.heap.size ≤ W.heap.size := HBW.out.size
  have HR : Hid (∀ u : World, Below W.heap.size W u → Reads u u.heap.size A z) := fun u hu => by rw [hW] at hu; exact reads_up hr hu
  have hz6 : z.length ≤ 1048576 := by omega
  have hwW : w1.heap.size < W.heap.size := by rw [hW]; simp
  go_wp2_with fail
  rw [← hW]
  have hb := Below.refl W.heap.size W
  obtain ⟨c0, c1⟩ := HT.out _ hb
  clear hW hsl hr hb1
  have HSI : Hid (∀ u : World, Below W.heap.size W u → Calls Try.prog 18 #[.slice A z.length c, .agg #[.string (str l), .int .i64 m], .int .i64 x] u fun e w' => e = .returned (intRes (scoreO z (str l) m x)) ∧ Below u.heap.size u w') := fun u hu => scoreAtI_any A c z (str l) m x u (HR.out u hu) hz6 hm
  have HSS : Hid (∀ u : World, Below W.heap.size W u → Calls Try.prog 19 #[.slice A z.length c, .agg #[.string (str l), .int .i64 m], .int .i64 x] u fun e w' => e = .returned (intRes (scoreO z (str l) m x)) ∧ Below u.heap.size u w') := fun u hu => scoreAtS_any A c z (str l) m x u (HR.out u hu) hz6 hm
  clear hw1
  cases hv : (sigOK z && offOK (str l) m x) with
  | false =>
    have hno : scoreO z (str l) m x = none := by simp only [scoreO, hv]; rfl
    rw [hno] at HSI HSS
    change Hid (∀ u : World, _ → Calls _ _ _ u fun e w' => e = .returned (.tuple #[.int .i64 0, .bool false]) ∧ _) at HSI
    change Hid (∀ u : World, _ → Calls _ _ _ u fun e w' => e = .returned (.tuple #[.int .i64 0, .bool false]) ∧ _) at HSS
    go_wp2_with fail
    refine (HSI.out _ hb).mono ?_
    rintro e y1 ⟨rfl, k⟩
    replace hb := below_next hb k
    clear k c0 c1
    obtain ⟨c0, c1⟩ := HT.out _ hb
    go_wp2_with fail
    refine (HSS.out _ hb).mono ?_
    rintro e y2 ⟨rfl, k⟩
    replace hb := below_next hb k
    clear k c0 c1
    obtain ⟨c0, c1⟩ := HT.out _ hb
    go_wp2
    go_ret
    exact ⟨rfl, HBW.out.trans (hb.mono hW0)⟩
  | true =>
    rw [Bool.and_eq_true] at hv
    obtain ⟨hz, ho⟩ := hv
    obtain ⟨mm, off, rfl, rfl, hp, h0, h1, h2, h3, h4, h5⟩ := off_nat ho
    rw [scoreO_yes hz ho] at HSI HSS
    change Hid (∀ u : World, _ → Calls _ _ _ u fun e w' => e = .returned (.tuple #[.int .i64 (score z (str l).data.toList mm off 0), .bool true]) ∧ _) at HSI
    change Hid (∀ u : World, _ → Calls _ _ _ u fun e w' => e = .returned (.tuple #[.int .i64 (score z (str l).data.toList mm off 0), .bool true]) ∧ _) at HSS
    obtain ⟨L, hLe⟩ : ∃ L, L = (str l).size * mm := ⟨_, rfl⟩
    rw [← hLe] at h0 h5
    have hL1 : 1 ≤ L := by omega
    have hL0 : ¬ L = 0 := by omega
    have HPL : Hid (∀ u : World, Calls Try.prog 16 #[.agg #[.string (str l), .int .i64 (mm : Int)]] u fun e w' => e = .returned (.int .i64 (L : Int)) ∧ Below u.heap.size u w') := fun u => by rw [hLe]; exact plenI_nat u hp hm
    obtain ⟨κ, hκ, hκL⟩ : ∃ κ : Nat, (len1 : Int) % (L : Int) = (κ : Int) ∧ κ < L := ⟨len1 % L, by simp, Nat.mod_lt _ (by omega)⟩
    have hps : psOK (str l) (mm : Int) (κ : Int) (L : Int) 3 = true := ps_ok (off_ok hp (by rw [← hLe]; exact hκL)) ⟨by omega, by omega⟩ ⟨by omega, by omega⟩
    obtain ⟨Y, hY⟩ : ∃ Y, Y = psL (str l) (mm : Int) (κ : Int) (L : Int) 3 := ⟨_, rfl⟩
    have HPS : Hid (∀ (u : World), Calls Try.prog 15 #[.agg #[.string (str l), .int .i64 (mm : Int)], .int .i64 (κ : Int), .int .i64 (L : Int), .int .i64 3] u (RetL Y u)) := fun u => by rw [hY]; exact ssPilot_any (str l) (mm : Int) (κ : Int) (L : Int) 3 u hm
    have hYs : sigOK Y = true := by rw [hY]; exact ps_sig hps
    have hYl := sig_len hYs
    have HAD : Hid (∀ (A' : Option Addr) (c' : Nat) (u : World), Below W.heap.size W u → Reads u u.heap.size A' Y → Calls Try.prog 20 #[.slice A z.length c, .slice A' Y.length c'] u (RetLB (asL z Y) (asOK z Y) u)) := fun A' c' u hu hr => addI_any A A' c c' z Y u (HR.out u hu) hr hz6 (by omega)
    have HSL : Hid (∀ (u : World), Below W.heap.size W u → Calls Try.prog 21 #[.slice A z.length c, .int .i64 (-1)] u (RetLB (mulL z (-1)) true u)) := fun u hu => by
      have := scaleI_any A c z (-1) u (HR.out u hu) hz6
      rw [sc_neg hz, scL_yes (sc_neg hz)] at this
      exact this
    have HSX : Hid (∀ (z' : List Int) (A' : Option Addr) (c' : Nat) (u : World), sigOK z' = true → Reads u u.heap.size A' z' → Calls Try.prog 14 #[.slice A' z'.length c', .agg #[.string (str l), .int .i64 (mm : Int)], .int .i64 (off : Int)] u fun e w' => e = .returned (.int .i64 (score z' (str l).data.toList mm off 0)) ∧ Below u.heap.size u w') := fun z' A' c' u hz' hr => by
      have hl' := sig_len hz'
      have := ssScore_any A' c' z' (str l) (mm : Int) (off : Int) u hr (by omega) hm
      rw [scoreV_yes hz' ho] at this
      exact this
    have hd : (str l).data.toList.length * mm ≤ 2040 := by rw [data_length, ← hLe]; exact h5
    have q0 := score_le hz (l := (str l).data.toList) (m := mm) off 0 hd
    have q1 := score_le hYs (l := (str l).data.toList) (m := mm) off 0 hd
    have qs : score (adL z Y) (str l).data.toList mm off 0 = score z (str l).data.toList mm off 0 + score Y (str l).data.toList mm off 0 := score_ad _ _ _ _ _ _
    have qn : score (mulL z (-1)) (str l).data.toList mm off 0 = -1 * score z (str l).data.toList mm off 0 := score_mul _ _ _ _ _ _
    have hmz : sigOK (mulL z (-1)) = true := (sc_parts (sc_neg hz)).2
    obtain ⟨Z2, hZ2⟩ : ∃ Z2, Z2 = mulL z (-1) := ⟨_, rfl⟩
    have HX1 := Lib.hid (HSX.out Y)
    have HX2 := Lib.hid (HSX.out Z2)
    have HX3 : Hid (asOK z Y = true → ∀ (A' : Option Addr) (c' : Nat) (u : World), Reads u u.heap.size A' (asL z Y) → Calls Try.prog 14 #[.slice A' (asL z Y).length c', .agg #[.string (str l), .int .i64 (mm : Int)], .int .i64 (off : Int)] u fun e w' => e = .returned (.int .i64 (score (adL z Y) (str l).data.toList mm off 0)) ∧ Below u.heap.size u w') := fun h A' c' u hr => by
      rw [asL_yes h] at hr ⊢
      exact HSX.out _ A' c' u (as_sig h) hr
    rw [← hZ2] at HSL qn hmz
    obtain ⟨S0, hS0⟩ : ∃ s, s = score z (str l).data.toList mm off 0 := ⟨_, rfl⟩
    obtain ⟨S1, hS1⟩ : ∃ s, s = score Y (str l).data.toList mm off 0 := ⟨_, rfl⟩
    obtain ⟨S2, hS2⟩ : ∃ s, s = score (adL z Y) (str l).data.toList mm off 0 := ⟨_, rfl⟩
    obtain ⟨S3, hS3⟩ : ∃ s, s = score Z2 (str l).data.toList mm off 0 := ⟨_, rfl⟩
    rw [← hS0] at HSI HSS q0 qs qn
    rw [← hS1] at q1 qs HX1
    rw [← hS2] at qs HX3
    rw [← hS3] at qn HX2
    have w1' : IntKind.i64.wrap (S0 + S1) = S0 + S1 := IntWalk.i64_in _ (by omega)
    have w2' : IntKind.i64.wrap (-S0) = -S0 := IntWalk.i64_in _ (by omega)
    have b1 : (S2 == S0 + S1) = true := by rw [qs]; simp
    have b2 : (S3 == -S0) = true := by rw [qn]; simp
    obtain ⟨G, hG⟩ : ∃ G, G = asL z Y := ⟨_, rfl⟩
    rw [← hG] at HAD HX3
    clear hS0 hS1 hS2 hS3 hY hps hLe qs qn HSX hG hz ho hp hd hZ2 q0 q1
    go_wp2_with fail
    refine (HSI.out _ hb).mono ?_
    rintro e y3 ⟨rfl, k⟩
    replace hb := below_next hb k
    clear k c0 c1
    obtain ⟨c0, c1⟩ := HT.out _ hb
    go_wp2_with fail
    refine (HSS.out _ hb).mono ?_
    rintro e y4 ⟨rfl, k⟩
    replace hb := below_next hb k
    clear k c0 c1
    obtain ⟨c0, c1⟩ := HT.out _ hb
    go_wp2_with fail
    refine (HPL.out _).mono ?_
    rintro e y3 ⟨rfl, k3⟩
    have hb3 := below_next hb k3
    clear hb k3 c0 c1
    go_wp2
    refine wp_region_held_drew (S := (fun u => u.cell? ⟨w1.heap.size, 0, none⟩ = some (.string (str l)) ∧ u.cell? ⟨w1.heap.size, 1, none⟩ = some (.int .i64 (mm : Int)))) (by kernel_rfl) ?_ (fun hHeld => ?_)
    · (try dsimp only)
      exact HT.out _ (by first | assumption | exact Below.drew (by assumption))
    first
      | (refine wpAnyH_take (i := 0) (oi := ⟨(some 71), _, _, _, _, _⟩) (v := ?_) rfl (by kernel_rfl) (by kernel_rfl) (by kernel_rfl) (fun _ _ _ h => h) (Or.inl ⟨by rfl, ?_⟩) (by assumption) ?_; rotate_left; (focus (intro ww hSw; (try dsimp only at hSw); go_simp; (try with_reducible rfl))))
      | (refine wpAnyH_take (i := 0) (oi := ⟨(some 71), _, _, _, _, _⟩) (v := undef) rfl (by kernel_rfl) (by kernel_rfl) (by kernel_rfl) (fun _ _ _ h => h) (Or.inr ⟨by rfl, rfl⟩) (by assumption) ?_)
    (try simp only [Act.put, List.setIfInBounds_toArray, List.set_cons_zero, List.set_cons_succ])
    first
      | (refine wpAnyH_take (i := 1) (oi := ⟨(some 72), _, _, _, _, _⟩) (v := ?_) rfl (by kernel_rfl) (by kernel_rfl) (by kernel_rfl) (fun _ _ _ h => h) (Or.inl ⟨by rfl, ?_⟩) (by assumption) ?_; rotate_left; (focus (intro ww hSw; (try dsimp only at hSw); go_simp; (try with_reducible rfl))))
      | (refine wpAnyH_take (i := 1) (oi := ⟨(some 72), _, _, _, _, _⟩) (v := undef) rfl (by kernel_rfl) (by kernel_rfl) (by kernel_rfl) (fun _ _ _ h => h) (Or.inr ⟨by rfl, rfl⟩) (by assumption) ?_)
    (try simp only [Act.put, List.setIfInBounds_toArray, List.set_cons_zero, List.set_cons_succ])
    first
      | (refine wpAnyH_take (i := 2) (oi := ⟨(some 73), _, _, _, _, _⟩) (v := ?_) rfl (by kernel_rfl) (by kernel_rfl) (by kernel_rfl) (fun _ _ _ h => h) (Or.inl ⟨by rfl, ?_⟩) (by assumption) ?_; rotate_left; (focus (intro ww hSw; (try dsimp only at hSw); go_simp; (try with_reducible rfl))))
      | (refine wpAnyH_take (i := 2) (oi := ⟨(some 73), _, _, _, _, _⟩) (v := undef) rfl (by kernel_rfl) (by kernel_rfl) (by kernel_rfl) (fun _ _ _ h => h) (Or.inr ⟨by rfl, rfl⟩) (by assumption) ?_)
    (try simp only [Act.put, List.setIfInBounds_toArray, List.set_cons_zero, List.set_cons_succ])
    refine wpAnyH_ready (rs := [3]) (by kernel_rfl) (by simp) ?_
    refine AllReadyH.cons (o := ⟨(some 74), _, _, _, _, _⟩) rfl (fun K hK => ?_) AllReadyH.nil
    go_simp
    refine (relB (W0 := W) (by first | assumption | exact Below.drew (by assumption)) (HPL.out _)).mono ?_
    rintro e y4 ⟨rfl, hb4⟩
    clear hb3
    go_wp2_with fail
    refine hK.out _ _ ?_ (fun hHeld => ?_)
    · (try dsimp only)
      exact HT.out _ (by first | assumption | exact Below.drew (by assumption))
    clear hK K
    (try simp only [Act.put, List.setIfInBounds_toArray, List.set_cons_zero, List.set_cons_succ])
    refine wpAnyH_ready (rs := [4]) (by kernel_rfl) (by simp) ?_
    refine AllReadyH.cons (o := ⟨(some 75), _, _, _, _, _⟩) rfl (fun K hK => ?_) AllReadyH.nil
    go_simp
    refine (relR (W0 := W) (by first | assumption | exact Below.drew (by assumption)) (HPS.out _)).mono ?_
    rintro e y5 ⟨v13, rfl, hs13, hb5⟩
    clear hb4
    go_wp2_with fail
    refine hK.out _ _ ?_ (fun hHeld => ?_)
    · (try dsimp only)
      exact HT.out _ (by first | assumption | exact Below.drew (by assumption))
    clear hK K
    (try simp only [Act.put, List.setIfInBounds_toArray, List.set_cons_zero, List.set_cons_succ])
    first
      | (refine wpAnyH_take (i := 5) (oi := ⟨(some 13), _, _, _, _, _⟩) (v := ?_) rfl (by kernel_rfl) (by kernel_rfl) (by kernel_rfl) (fun _ _ _ h => h) (Or.inl ⟨by rfl, ?_⟩) (by assumption) ?_; rotate_left; (focus (intro ww hSw; (try dsimp only at hSw); go_simp; (try with_reducible rfl))))
      | (refine wpAnyH_take (i := 5) (oi := ⟨(some 13), _, _, _, _, _⟩) (v := undef) rfl (by kernel_rfl) (by kernel_rfl) (by kernel_rfl) (fun _ _ _ h => h) (Or.inr ⟨by rfl, rfl⟩) (by assumption) ?_)
    (try simp only [Act.put, List.setIfInBounds_toArray, List.set_cons_zero, List.set_cons_succ])
    refine wpAnyH_done (by kernel_rfl) ?_ _
    obtain ⟨A13, c13, rfl, hr13, _⟩ := hs13.reads
    have HR13 := Lib.hid hr13
    clear hs13 hr13
    go_wp2_with fail
    refine (HAD.out A13 c13 _ hb5 HR13.out).mono ?_
    rintro e y6 ⟨v14, rfl, hs14, k6⟩
    have hb6 := below_next hb5 k6
    obtain ⟨A14, c14, rfl, hr14, _⟩ := hs14.reads
    have HR132 := Lib.hid ((HR13.out.keep (fun p hp => k6.cell hp)).more k6.size)
    have HR14 := Lib.hid hr14
    clear hb5 hs14 hr14 k6 HR13
    go_wp2_with fail
    refine (HSL.out _ hb6).mono ?_
    rintro e y7 ⟨v16, rfl, hs16, k7⟩
    have hb7 := below_next hb6 k7
    obtain ⟨A16, c16, rfl, hr16, _⟩ := hs16.reads
    have HR133 : Hid (∀ u : World, Below y7.heap.size y7 u → Reads u u.heap.size A13 Y) := fun u hu => (((HR132.out.keep (fun p hp => k7.cell hp)).more k7.size).keep (fun p hp => hu.cell hp)).more hu.size
    have HR143 : Hid (∀ u : World, Below y7.heap.size y7 u → Reads u u.heap.size A14 G) := fun u hu => (((HR14.out.keep (fun p hp => k7.cell hp)).more k7.size).keep (fun p hp => hu.cell hp)).more hu.size
    have HR163 : Hid (∀ u : World, Below y7.heap.size y7 u → Reads u u.heap.size A16 Z2) := fun u hu => (hr16.keep (fun p hp => hu.cell hp)).more hu.size
    have HT7 : Hid (∀ u : World, Below y7.heap.size y7 u → u.cell? ⟨w1.heap.size, 0, none⟩ = some (.string (str l)) ∧ u.cell? ⟨w1.heap.size, 1, none⟩ = some (.int .i64 (mm : Int))) := fun u hu => HT.out u (below_next hb7 hu)
    have HBF := Lib.hid (HBW.out.trans (hb7.mono hW0))
    have hw7 : w.heap.size ≤ y7.heap.size := HBF.out.size
    have hb := Below.refl y7.heap.size y7
    clear hb6 hb7 hs16 hr16 k7 HR132 HR14
    cases hf : asOK z Y with
    | false =>
      go_wp2
      refine wp_region_held_drew (S := (fun u => u.cell? ⟨w1.heap.size, 0, none⟩ = some (.string (str l)) ∧ u.cell? ⟨w1.heap.size, 1, none⟩ = some (.int .i64 (mm : Int)))) (by kernel_rfl) ?_ (fun hHeld => ?_)
      · (try dsimp only)
        exact HT7.out _ (by first | assumption | exact Below.drew (by assumption))
      first
        | (refine wpAnyH_take (i := 0) (oi := ⟨(some 87), _, _, _, _, _⟩) (v := ?_) rfl (by kernel_rfl) (by kernel_rfl) (by kernel_rfl) (fun _ _ _ h => h) (Or.inl ⟨by rfl, ?_⟩) (by assumption) ?_; rotate_left; (focus (intro ww hSw; (try dsimp only at hSw); go_simp; (try with_reducible rfl))))
        | (refine wpAnyH_take (i := 0) (oi := ⟨(some 87), _, _, _, _, _⟩) (v := undef) rfl (by kernel_rfl) (by kernel_rfl) (by kernel_rfl) (fun _ _ _ h => h) (Or.inr ⟨by rfl, rfl⟩) (by assumption) ?_)
      (try simp only [Act.put, List.setIfInBounds_toArray, List.set_cons_zero, List.set_cons_succ])
      first
        | (refine wpAnyH_take (i := 1) (oi := ⟨(some 88), _, _, _, _, _⟩) (v := ?_) rfl (by kernel_rfl) (by kernel_rfl) (by kernel_rfl) (fun _ _ _ h => h) (Or.inl ⟨by rfl, ?_⟩) (by assumption) ?_; rotate_left; (focus (intro ww hSw; (try dsimp only at hSw); go_simp; (try with_reducible rfl))))
        | (refine wpAnyH_take (i := 1) (oi := ⟨(some 88), _, _, _, _, _⟩) (v := undef) rfl (by kernel_rfl) (by kernel_rfl) (by kernel_rfl) (fun _ _ _ h => h) (Or.inr ⟨by rfl, rfl⟩) (by assumption) ?_)
      (try simp only [Act.put, List.setIfInBounds_toArray, List.set_cons_zero, List.set_cons_succ])
      first
        | (refine wpAnyH_take (i := 2) (oi := ⟨(some 89), _, _, _, _, _⟩) (v := ?_) rfl (by kernel_rfl) (by kernel_rfl) (by kernel_rfl) (fun _ _ _ h => h) (Or.inl ⟨by rfl, ?_⟩) (by assumption) ?_; rotate_left; (focus (intro ww hSw; (try dsimp only at hSw); go_simp; (try with_reducible rfl))))
        | (refine wpAnyH_take (i := 2) (oi := ⟨(some 89), _, _, _, _, _⟩) (v := undef) rfl (by kernel_rfl) (by kernel_rfl) (by kernel_rfl) (fun _ _ _ h => h) (Or.inr ⟨by rfl, rfl⟩) (by assumption) ?_)
      (try simp only [Act.put, List.setIfInBounds_toArray, List.set_cons_zero, List.set_cons_succ])
      first
        | (refine wpAnyH_take (i := 3) (oi := ⟨(some 90), _, _, _, _, _⟩) (v := ?_) rfl (by kernel_rfl) (by kernel_rfl) (by kernel_rfl) (fun _ _ _ h => h) (Or.inl ⟨by rfl, ?_⟩) (by assumption) ?_; rotate_left; (focus (intro ww hSw; (try dsimp only at hSw); go_simp; (try with_reducible rfl))))
        | (refine wpAnyH_take (i := 3) (oi := ⟨(some 90), _, _, _, _, _⟩) (v := undef) rfl (by kernel_rfl) (by kernel_rfl) (by kernel_rfl) (fun _ _ _ h => h) (Or.inr ⟨by rfl, rfl⟩) (by assumption) ?_)
      (try simp only [Act.put, List.setIfInBounds_toArray, List.set_cons_zero, List.set_cons_succ])
      first
        | (refine wpAnyH_take (i := 4) (oi := ⟨(some 91), _, _, _, _, _⟩) (v := ?_) rfl (by kernel_rfl) (by kernel_rfl) (by kernel_rfl) (fun _ _ _ h => h) (Or.inl ⟨by rfl, ?_⟩) (by assumption) ?_; rotate_left; (focus (intro ww hSw; (try dsimp only at hSw); go_simp; (try with_reducible rfl))))
        | (refine wpAnyH_take (i := 4) (oi := ⟨(some 91), _, _, _, _, _⟩) (v := undef) rfl (by kernel_rfl) (by kernel_rfl) (by kernel_rfl) (fun _ _ _ h => h) (Or.inr ⟨by rfl, rfl⟩) (by assumption) ?_)
      (try simp only [Act.put, List.setIfInBounds_toArray, List.set_cons_zero, List.set_cons_succ])
      first
        | (refine wpAnyH_take (i := 5) (oi := ⟨(some 92), _, _, _, _, _⟩) (v := ?_) rfl (by kernel_rfl) (by kernel_rfl) (by kernel_rfl) (fun _ _ _ h => h) (Or.inl ⟨by rfl, ?_⟩) (by assumption) ?_; rotate_left; (focus (intro ww hSw; (try dsimp only at hSw); go_simp; (try with_reducible rfl))))
        | (refine wpAnyH_take (i := 5) (oi := ⟨(some 92), _, _, _, _, _⟩) (v := undef) rfl (by kernel_rfl) (by kernel_rfl) (by kernel_rfl) (fun _ _ _ h => h) (Or.inr ⟨by rfl, rfl⟩) (by assumption) ?_)
      (try simp only [Act.put, List.setIfInBounds_toArray, List.set_cons_zero, List.set_cons_succ])
      first
        | (refine wpAnyH_take (i := 6) (oi := ⟨(some 93), _, _, _, _, _⟩) (v := ?_) rfl (by kernel_rfl) (by kernel_rfl) (by kernel_rfl) (fun _ _ _ h => h) (Or.inl ⟨by rfl, ?_⟩) (by assumption) ?_; rotate_left; (focus (intro ww hSw; (try dsimp only at hSw); go_simp; (try with_reducible rfl))))
        | (refine wpAnyH_take (i := 6) (oi := ⟨(some 93), _, _, _, _, _⟩) (v := undef) rfl (by kernel_rfl) (by kernel_rfl) (by kernel_rfl) (fun _ _ _ h => h) (Or.inr ⟨by rfl, rfl⟩) (by assumption) ?_)
      (try simp only [Act.put, List.setIfInBounds_toArray, List.set_cons_zero, List.set_cons_succ])
      first
        | (refine wpAnyH_take (i := 7) (oi := ⟨(some 94), _, _, _, _, _⟩) (v := ?_) rfl (by kernel_rfl) (by kernel_rfl) (by kernel_rfl) (fun _ _ _ h => h) (Or.inl ⟨by rfl, ?_⟩) (by assumption) ?_; rotate_left; (focus (intro ww hSw; (try dsimp only at hSw); go_simp; (try with_reducible rfl))))
        | (refine wpAnyH_take (i := 7) (oi := ⟨(some 94), _, _, _, _, _⟩) (v := undef) rfl (by kernel_rfl) (by kernel_rfl) (by kernel_rfl) (fun _ _ _ h => h) (Or.inr ⟨by rfl, rfl⟩) (by assumption) ?_)
      (try simp only [Act.put, List.setIfInBounds_toArray, List.set_cons_zero, List.set_cons_succ])
      first
        | (refine wpAnyH_take (i := 8) (oi := ⟨(some 95), _, _, _, _, _⟩) (v := ?_) rfl (by kernel_rfl) (by kernel_rfl) (by kernel_rfl) (fun _ _ _ h => h) (Or.inl ⟨by rfl, ?_⟩) (by assumption) ?_; rotate_left; (focus (intro ww hSw; (try dsimp only at hSw); go_simp; (try with_reducible rfl))))
        | (refine wpAnyH_take (i := 8) (oi := ⟨(some 95), _, _, _, _, _⟩) (v := undef) rfl (by kernel_rfl) (by kernel_rfl) (by kernel_rfl) (fun _ _ _ h => h) (Or.inr ⟨by rfl, rfl⟩) (by assumption) ?_)
      (try simp only [Act.put, List.setIfInBounds_toArray, List.set_cons_zero, List.set_cons_succ])
      first
        | (refine wpAnyH_take (i := 9) (oi := ⟨(some 96), _, _, _, _, _⟩) (v := ?_) rfl (by kernel_rfl) (by kernel_rfl) (by kernel_rfl) (fun _ _ _ h => h) (Or.inl ⟨by rfl, ?_⟩) (by assumption) ?_; rotate_left; (focus (intro ww hSw; (try dsimp only at hSw); go_simp; (try with_reducible rfl))))
        | (refine wpAnyH_take (i := 9) (oi := ⟨(some 96), _, _, _, _, _⟩) (v := undef) rfl (by kernel_rfl) (by kernel_rfl) (by kernel_rfl) (fun _ _ _ h => h) (Or.inr ⟨by rfl, rfl⟩) (by assumption) ?_)
      (try simp only [Act.put, List.setIfInBounds_toArray, List.set_cons_zero, List.set_cons_succ])
      first
        | (refine wpAnyH_take (i := 10) (oi := ⟨(some 97), _, _, _, _, _⟩) (v := ?_) rfl (by kernel_rfl) (by kernel_rfl) (by kernel_rfl) (fun _ _ _ h => h) (Or.inl ⟨by rfl, ?_⟩) (by assumption) ?_; rotate_left; (focus (intro ww hSw; (try dsimp only at hSw); go_simp; (try with_reducible rfl))))
        | (refine wpAnyH_take (i := 10) (oi := ⟨(some 97), _, _, _, _, _⟩) (v := undef) rfl (by kernel_rfl) (by kernel_rfl) (by kernel_rfl) (fun _ _ _ h => h) (Or.inr ⟨by rfl, rfl⟩) (by assumption) ?_)
      (try simp only [Act.put, List.setIfInBounds_toArray, List.set_cons_zero, List.set_cons_succ])
      first
        | (refine wpAnyH_take (i := 11) (oi := ⟨(some 98), _, _, _, _, _⟩) (v := ?_) rfl (by kernel_rfl) (by kernel_rfl) (by kernel_rfl) (fun _ _ _ h => h) (Or.inl ⟨by rfl, ?_⟩) (by assumption) ?_; rotate_left; (focus (intro ww hSw; (try dsimp only at hSw); go_simp; (try with_reducible rfl))))
        | (refine wpAnyH_take (i := 11) (oi := ⟨(some 98), _, _, _, _, _⟩) (v := undef) rfl (by kernel_rfl) (by kernel_rfl) (by kernel_rfl) (fun _ _ _ h => h) (Or.inr ⟨by rfl, rfl⟩) (by assumption) ?_)
      (try simp only [Act.put, List.setIfInBounds_toArray, List.set_cons_zero, List.set_cons_succ])
      first
        | (refine wpAnyH_take (i := 12) (oi := ⟨(some 99), _, _, _, _, _⟩) (v := ?_) rfl (by kernel_rfl) (by kernel_rfl) (by kernel_rfl) (fun _ _ _ h => h) (Or.inl ⟨by rfl, ?_⟩) (by assumption) ?_; rotate_left; (focus (intro ww hSw; (try dsimp only at hSw); go_simp; (try with_reducible rfl))))
        | (refine wpAnyH_take (i := 12) (oi := ⟨(some 99), _, _, _, _, _⟩) (v := undef) rfl (by kernel_rfl) (by kernel_rfl) (by kernel_rfl) (fun _ _ _ h => h) (Or.inr ⟨by rfl, rfl⟩) (by assumption) ?_)
      (try simp only [Act.put, List.setIfInBounds_toArray, List.set_cons_zero, List.set_cons_succ])
      first
        | (refine wpAnyH_take (i := 13) (oi := ⟨(some 100), _, _, _, _, _⟩) (v := ?_) rfl (by kernel_rfl) (by kernel_rfl) (by kernel_rfl) (fun _ _ _ h => h) (Or.inl ⟨by rfl, ?_⟩) (by assumption) ?_; rotate_left; (focus (intro ww hSw; (try dsimp only at hSw); go_simp; (try with_reducible rfl))))
        | (refine wpAnyH_take (i := 13) (oi := ⟨(some 100), _, _, _, _, _⟩) (v := undef) rfl (by kernel_rfl) (by kernel_rfl) (by kernel_rfl) (fun _ _ _ h => h) (Or.inr ⟨by rfl, rfl⟩) (by assumption) ?_)
      (try simp only [Act.put, List.setIfInBounds_toArray, List.set_cons_zero, List.set_cons_succ])
      first
        | (refine wpAnyH_take (i := 14) (oi := ⟨(some 101), _, _, _, _, _⟩) (v := ?_) rfl (by kernel_rfl) (by kernel_rfl) (by kernel_rfl) (fun _ _ _ h => h) (Or.inl ⟨by rfl, ?_⟩) (by assumption) ?_; rotate_left; (focus (intro ww hSw; (try dsimp only at hSw); go_simp; (try with_reducible rfl))))
        | (refine wpAnyH_take (i := 14) (oi := ⟨(some 101), _, _, _, _, _⟩) (v := undef) rfl (by kernel_rfl) (by kernel_rfl) (by kernel_rfl) (fun _ _ _ h => h) (Or.inr ⟨by rfl, rfl⟩) (by assumption) ?_)
      (try simp only [Act.put, List.setIfInBounds_toArray, List.set_cons_zero, List.set_cons_succ])
      first
        | (refine wpAnyH_take (i := 15) (oi := ⟨(some 102), _, _, _, _, _⟩) (v := ?_) rfl (by kernel_rfl) (by kernel_rfl) (by kernel_rfl) (fun _ _ _ h => h) (Or.inl ⟨by rfl, ?_⟩) (by assumption) ?_; rotate_left; (focus (intro ww hSw; (try dsimp only at hSw); go_simp; (try with_reducible rfl))))
        | (refine wpAnyH_take (i := 15) (oi := ⟨(some 102), _, _, _, _, _⟩) (v := undef) rfl (by kernel_rfl) (by kernel_rfl) (by kernel_rfl) (fun _ _ _ h => h) (Or.inr ⟨by rfl, rfl⟩) (by assumption) ?_)
      (try simp only [Act.put, List.setIfInBounds_toArray, List.set_cons_zero, List.set_cons_succ])
      first
        | (refine wpAnyH_take (i := 16) (oi := ⟨(some 103), _, _, _, _, _⟩) (v := ?_) rfl (by kernel_rfl) (by kernel_rfl) (by kernel_rfl) (fun _ _ _ h => h) (Or.inl ⟨by rfl, ?_⟩) (by assumption) ?_; rotate_left; (focus (intro ww hSw; (try dsimp only at hSw); go_simp; (try with_reducible rfl))))
        | (refine wpAnyH_take (i := 16) (oi := ⟨(some 103), _, _, _, _, _⟩) (v := undef) rfl (by kernel_rfl) (by kernel_rfl) (by kernel_rfl) (fun _ _ _ h => h) (Or.inr ⟨by rfl, rfl⟩) (by assumption) ?_)
      (try simp only [Act.put, List.setIfInBounds_toArray, List.set_cons_zero, List.set_cons_succ])
      first
        | (refine wpAnyH_take (i := 17) (oi := ⟨(some 104), _, _, _, _, _⟩) (v := ?_) rfl (by kernel_rfl) (by kernel_rfl) (by kernel_rfl) (fun _ _ _ h => h) (Or.inl ⟨by rfl, ?_⟩) (by assumption) ?_; rotate_left; (focus (intro ww hSw; (try dsimp only at hSw); go_simp; (try with_reducible rfl))))
        | (refine wpAnyH_take (i := 17) (oi := ⟨(some 104), _, _, _, _, _⟩) (v := undef) rfl (by kernel_rfl) (by kernel_rfl) (by kernel_rfl) (fun _ _ _ h => h) (Or.inr ⟨by rfl, rfl⟩) (by assumption) ?_)
      (try simp only [Act.put, List.setIfInBounds_toArray, List.set_cons_zero, List.set_cons_succ])
      first
        | (refine wpAnyH_take (i := 18) (oi := ⟨(some 105), _, _, _, _, _⟩) (v := ?_) rfl (by kernel_rfl) (by kernel_rfl) (by kernel_rfl) (fun _ _ _ h => h) (Or.inl ⟨by rfl, ?_⟩) (by assumption) ?_; rotate_left; (focus (intro ww hSw; (try dsimp only at hSw); go_simp; (try with_reducible rfl))))
        | (refine wpAnyH_take (i := 18) (oi := ⟨(some 105), _, _, _, _, _⟩) (v := undef) rfl (by kernel_rfl) (by kernel_rfl) (by kernel_rfl) (fun _ _ _ h => h) (Or.inr ⟨by rfl, rfl⟩) (by assumption) ?_)
      (try simp only [Act.put, List.setIfInBounds_toArray, List.set_cons_zero, List.set_cons_succ])
      first
        | (refine wpAnyH_take (i := 19) (oi := ⟨(some 106), _, _, _, _, _⟩) (v := ?_) rfl (by kernel_rfl) (by kernel_rfl) (by kernel_rfl) (fun _ _ _ h => h) (Or.inl ⟨by rfl, ?_⟩) (by assumption) ?_; rotate_left; (focus (intro ww hSw; (try dsimp only at hSw); go_simp; (try with_reducible rfl))))
        | (refine wpAnyH_take (i := 19) (oi := ⟨(some 106), _, _, _, _, _⟩) (v := undef) rfl (by kernel_rfl) (by kernel_rfl) (by kernel_rfl) (fun _ _ _ h => h) (Or.inr ⟨by rfl, rfl⟩) (by assumption) ?_)
      (try simp only [Act.put, List.setIfInBounds_toArray, List.set_cons_zero, List.set_cons_succ])
      first
        | (refine wpAnyH_take (i := 20) (oi := ⟨(some 107), _, _, _, _, _⟩) (v := ?_) rfl (by kernel_rfl) (by kernel_rfl) (by kernel_rfl) (fun _ _ _ h => h) (Or.inl ⟨by rfl, ?_⟩) (by assumption) ?_; rotate_left; (focus (intro ww hSw; (try dsimp only at hSw); go_simp; (try with_reducible rfl))))
        | (refine wpAnyH_take (i := 20) (oi := ⟨(some 107), _, _, _, _, _⟩) (v := undef) rfl (by kernel_rfl) (by kernel_rfl) (by kernel_rfl) (fun _ _ _ h => h) (Or.inr ⟨by rfl, rfl⟩) (by assumption) ?_)
      (try simp only [Act.put, List.setIfInBounds_toArray, List.set_cons_zero, List.set_cons_succ])
      first
        | (refine wpAnyH_take (i := 21) (oi := ⟨(some 108), _, _, _, _, _⟩) (v := ?_) rfl (by kernel_rfl) (by kernel_rfl) (by kernel_rfl) (fun _ _ _ h => h) (Or.inl ⟨by rfl, ?_⟩) (by assumption) ?_; rotate_left; (focus (intro ww hSw; (try dsimp only at hSw); go_simp; (try with_reducible rfl))))
        | (refine wpAnyH_take (i := 21) (oi := ⟨(some 108), _, _, _, _, _⟩) (v := undef) rfl (by kernel_rfl) (by kernel_rfl) (by kernel_rfl) (fun _ _ _ h => h) (Or.inr ⟨by rfl, rfl⟩) (by assumption) ?_)
      (try simp only [Act.put, List.setIfInBounds_toArray, List.set_cons_zero, List.set_cons_succ])
      first
        | (refine wpAnyH_take (i := 23) (oi := ⟨(some 110), _, _, _, _, _⟩) (v := ?_) rfl (by kernel_rfl) (by kernel_rfl) (by kernel_rfl) (fun _ _ _ h => h) (Or.inl ⟨by rfl, ?_⟩) (by assumption) ?_; rotate_left; (focus (intro ww hSw; (try dsimp only at hSw); go_simp; (try with_reducible rfl))))
        | (refine wpAnyH_take (i := 23) (oi := ⟨(some 110), _, _, _, _, _⟩) (v := undef) rfl (by kernel_rfl) (by kernel_rfl) (by kernel_rfl) (fun _ _ _ h => h) (Or.inr ⟨by rfl, rfl⟩) (by assumption) ?_)
      (try simp only [Act.put, List.setIfInBounds_toArray, List.set_cons_zero, List.set_cons_succ])
      first
        | (refine wpAnyH_take (i := 24) (oi := ⟨(some 111), _, _, _, _, _⟩) (v := ?_) rfl (by kernel_rfl) (by kernel_rfl) (by kernel_rfl) (fun _ _ _ h => h) (Or.inl ⟨by rfl, ?_⟩) (by assumption) ?_; rotate_left; (focus (intro ww hSw; (try dsimp only at hSw); go_simp; (try with_reducible rfl))))
        | (refine wpAnyH_take (i := 24) (oi := ⟨(some 111), _, _, _, _, _⟩) (v := undef) rfl (by kernel_rfl) (by kernel_rfl) (by kernel_rfl) (fun _ _ _ h => h) (Or.inr ⟨by rfl, rfl⟩) (by assumption) ?_)
      (try simp only [Act.put, List.setIfInBounds_toArray, List.set_cons_zero, List.set_cons_succ])
      refine wpAnyH_ready (rs := [22]) (by kernel_rfl) (by simp) ?_
      refine AllReadyH.cons (o := ⟨(some 109), _, _, _, _, _⟩) rfl (fun K hK => ?_) AllReadyH.nil
      go_simp
      refine (relB (W0 := y7) (by first | assumption | exact Below.drew (by assumption)) (HX2.out A16 c16 _ hmz (HR163.out _ (by first | assumption | exact Below.drew (by assumption))))).mono ?_
      rintro e q1 ⟨rfl, hq1⟩
      clear hb
      go_wp2_with fail
      refine hK.out _ _ ?_ (fun hHeld => ?_)
      · (try dsimp only)
        exact HT7.out _ (by first | assumption | exact Below.drew (by assumption))
      clear hK K
      (try simp only [Act.put, List.setIfInBounds_toArray, List.set_cons_zero, List.set_cons_succ])
      first
        | (refine wpAnyH_take (i := 25) (oi := ⟨(some 112), _, _, _, _, _⟩) (v := ?_) rfl (by kernel_rfl) (by kernel_rfl) (by kernel_rfl) (fun _ _ _ h => h) (Or.inl ⟨by rfl, ?_⟩) (by assumption) ?_; rotate_left; (focus (intro ww hSw; (try dsimp only at hSw); go_simp; (try with_reducible rfl))))
        | (refine wpAnyH_take (i := 25) (oi := ⟨(some 112), _, _, _, _, _⟩) (v := undef) rfl (by kernel_rfl) (by kernel_rfl) (by kernel_rfl) (fun _ _ _ h => h) (Or.inr ⟨by rfl, rfl⟩) (by assumption) ?_)
      (try simp only [Act.put, List.setIfInBounds_toArray, List.set_cons_zero, List.set_cons_succ])
      first
        | (refine wpAnyH_take (i := 26) (oi := ⟨(some 113), _, _, _, _, _⟩) (v := ?_) rfl (by kernel_rfl) (by kernel_rfl) (by kernel_rfl) (fun _ _ _ h => h) (Or.inl ⟨by rfl, ?_⟩) (by assumption) ?_; rotate_left; (focus (intro ww hSw; (try dsimp only at hSw); go_simp; (try with_reducible rfl))))
        | (refine wpAnyH_take (i := 26) (oi := ⟨(some 113), _, _, _, _, _⟩) (v := undef) rfl (by kernel_rfl) (by kernel_rfl) (by kernel_rfl) (fun _ _ _ h => h) (Or.inr ⟨by rfl, rfl⟩) (by assumption) ?_)
      (try simp only [Act.put, List.setIfInBounds_toArray, List.set_cons_zero, List.set_cons_succ])
      first
        | (refine wpAnyH_take (i := 27) (oi := ⟨(some 4), _, _, _, _, _⟩) (v := ?_) rfl (by kernel_rfl) (by kernel_rfl) (by kernel_rfl) (fun _ _ _ h => h) (Or.inl ⟨by rfl, ?_⟩) (by assumption) ?_; rotate_left; (focus (intro ww hSw; (try dsimp only at hSw); go_simp; (try with_reducible rfl))))
        | (refine wpAnyH_take (i := 27) (oi := ⟨(some 4), _, _, _, _, _⟩) (v := undef) rfl (by kernel_rfl) (by kernel_rfl) (by kernel_rfl) (fun _ _ _ h => h) (Or.inr ⟨by rfl, rfl⟩) (by assumption) ?_)
      (try simp only [Act.put, List.setIfInBounds_toArray, List.set_cons_zero, List.set_cons_succ])
      refine wpAnyH_done (by kernel_rfl) ?_ _
      go_wp2
      go_ret
      exact ⟨rfl, HBF.out.trans (Below.mono (by first | assumption | exact Below.drew (by assumption)) hw7)⟩
    | true =>
      go_wp2
      refine wp_region_held_drew (S := (fun u => u.cell? ⟨w1.heap.size, 0, none⟩ = some (.string (str l)) ∧ u.cell? ⟨w1.heap.size, 1, none⟩ = some (.int .i64 (mm : Int)))) (by kernel_rfl) ?_ (fun hHeld => ?_)
      · (try dsimp only)
        exact HT7.out _ (by first | assumption | exact Below.drew (by assumption))
      first
        | (refine wpAnyH_take (i := 0) (oi := ⟨(some 87), _, _, _, _, _⟩) (v := ?_) rfl (by kernel_rfl) (by kernel_rfl) (by kernel_rfl) (fun _ _ _ h => h) (Or.inl ⟨by rfl, ?_⟩) (by assumption) ?_; rotate_left; (focus (intro ww hSw; (try dsimp only at hSw); go_simp; (try with_reducible rfl))))
        | (refine wpAnyH_take (i := 0) (oi := ⟨(some 87), _, _, _, _, _⟩) (v := undef) rfl (by kernel_rfl) (by kernel_rfl) (by kernel_rfl) (fun _ _ _ h => h) (Or.inr ⟨by rfl, rfl⟩) (by assumption) ?_)
      (try simp only [Act.put, List.setIfInBounds_toArray, List.set_cons_zero, List.set_cons_succ])
      first
        | (refine wpAnyH_take (i := 1) (oi := ⟨(some 88), _, _, _, _, _⟩) (v := ?_) rfl (by kernel_rfl) (by kernel_rfl) (by kernel_rfl) (fun _ _ _ h => h) (Or.inl ⟨by rfl, ?_⟩) (by assumption) ?_; rotate_left; (focus (intro ww hSw; (try dsimp only at hSw); go_simp; (try with_reducible rfl))))
        | (refine wpAnyH_take (i := 1) (oi := ⟨(some 88), _, _, _, _, _⟩) (v := undef) rfl (by kernel_rfl) (by kernel_rfl) (by kernel_rfl) (fun _ _ _ h => h) (Or.inr ⟨by rfl, rfl⟩) (by assumption) ?_)
      (try simp only [Act.put, List.setIfInBounds_toArray, List.set_cons_zero, List.set_cons_succ])
      first
        | (refine wpAnyH_take (i := 2) (oi := ⟨(some 89), _, _, _, _, _⟩) (v := ?_) rfl (by kernel_rfl) (by kernel_rfl) (by kernel_rfl) (fun _ _ _ h => h) (Or.inl ⟨by rfl, ?_⟩) (by assumption) ?_; rotate_left; (focus (intro ww hSw; (try dsimp only at hSw); go_simp; (try with_reducible rfl))))
        | (refine wpAnyH_take (i := 2) (oi := ⟨(some 89), _, _, _, _, _⟩) (v := undef) rfl (by kernel_rfl) (by kernel_rfl) (by kernel_rfl) (fun _ _ _ h => h) (Or.inr ⟨by rfl, rfl⟩) (by assumption) ?_)
      (try simp only [Act.put, List.setIfInBounds_toArray, List.set_cons_zero, List.set_cons_succ])
      first
        | (refine wpAnyH_take (i := 3) (oi := ⟨(some 90), _, _, _, _, _⟩) (v := ?_) rfl (by kernel_rfl) (by kernel_rfl) (by kernel_rfl) (fun _ _ _ h => h) (Or.inl ⟨by rfl, ?_⟩) (by assumption) ?_; rotate_left; (focus (intro ww hSw; (try dsimp only at hSw); go_simp; (try with_reducible rfl))))
        | (refine wpAnyH_take (i := 3) (oi := ⟨(some 90), _, _, _, _, _⟩) (v := undef) rfl (by kernel_rfl) (by kernel_rfl) (by kernel_rfl) (fun _ _ _ h => h) (Or.inr ⟨by rfl, rfl⟩) (by assumption) ?_)
      (try simp only [Act.put, List.setIfInBounds_toArray, List.set_cons_zero, List.set_cons_succ])
      first
        | (refine wpAnyH_take (i := 4) (oi := ⟨(some 91), _, _, _, _, _⟩) (v := ?_) rfl (by kernel_rfl) (by kernel_rfl) (by kernel_rfl) (fun _ _ _ h => h) (Or.inl ⟨by rfl, ?_⟩) (by assumption) ?_; rotate_left; (focus (intro ww hSw; (try dsimp only at hSw); go_simp; (try with_reducible rfl))))
        | (refine wpAnyH_take (i := 4) (oi := ⟨(some 91), _, _, _, _, _⟩) (v := undef) rfl (by kernel_rfl) (by kernel_rfl) (by kernel_rfl) (fun _ _ _ h => h) (Or.inr ⟨by rfl, rfl⟩) (by assumption) ?_)
      (try simp only [Act.put, List.setIfInBounds_toArray, List.set_cons_zero, List.set_cons_succ])
      first
        | (refine wpAnyH_take (i := 5) (oi := ⟨(some 92), _, _, _, _, _⟩) (v := ?_) rfl (by kernel_rfl) (by kernel_rfl) (by kernel_rfl) (fun _ _ _ h => h) (Or.inl ⟨by rfl, ?_⟩) (by assumption) ?_; rotate_left; (focus (intro ww hSw; (try dsimp only at hSw); go_simp; (try with_reducible rfl))))
        | (refine wpAnyH_take (i := 5) (oi := ⟨(some 92), _, _, _, _, _⟩) (v := undef) rfl (by kernel_rfl) (by kernel_rfl) (by kernel_rfl) (fun _ _ _ h => h) (Or.inr ⟨by rfl, rfl⟩) (by assumption) ?_)
      (try simp only [Act.put, List.setIfInBounds_toArray, List.set_cons_zero, List.set_cons_succ])
      first
        | (refine wpAnyH_take (i := 7) (oi := ⟨(some 94), _, _, _, _, _⟩) (v := ?_) rfl (by kernel_rfl) (by kernel_rfl) (by kernel_rfl) (fun _ _ _ h => h) (Or.inl ⟨by rfl, ?_⟩) (by assumption) ?_; rotate_left; (focus (intro ww hSw; (try dsimp only at hSw); go_simp; (try with_reducible rfl))))
        | (refine wpAnyH_take (i := 7) (oi := ⟨(some 94), _, _, _, _, _⟩) (v := undef) rfl (by kernel_rfl) (by kernel_rfl) (by kernel_rfl) (fun _ _ _ h => h) (Or.inr ⟨by rfl, rfl⟩) (by assumption) ?_)
      (try simp only [Act.put, List.setIfInBounds_toArray, List.set_cons_zero, List.set_cons_succ])
      first
        | (refine wpAnyH_take (i := 8) (oi := ⟨(some 95), _, _, _, _, _⟩) (v := ?_) rfl (by kernel_rfl) (by kernel_rfl) (by kernel_rfl) (fun _ _ _ h => h) (Or.inl ⟨by rfl, ?_⟩) (by assumption) ?_; rotate_left; (focus (intro ww hSw; (try dsimp only at hSw); go_simp; (try with_reducible rfl))))
        | (refine wpAnyH_take (i := 8) (oi := ⟨(some 95), _, _, _, _, _⟩) (v := undef) rfl (by kernel_rfl) (by kernel_rfl) (by kernel_rfl) (fun _ _ _ h => h) (Or.inr ⟨by rfl, rfl⟩) (by assumption) ?_)
      (try simp only [Act.put, List.setIfInBounds_toArray, List.set_cons_zero, List.set_cons_succ])
      first
        | (refine wpAnyH_take (i := 9) (oi := ⟨(some 96), _, _, _, _, _⟩) (v := ?_) rfl (by kernel_rfl) (by kernel_rfl) (by kernel_rfl) (fun _ _ _ h => h) (Or.inl ⟨by rfl, ?_⟩) (by assumption) ?_; rotate_left; (focus (intro ww hSw; (try dsimp only at hSw); go_simp; (try with_reducible rfl))))
        | (refine wpAnyH_take (i := 9) (oi := ⟨(some 96), _, _, _, _, _⟩) (v := undef) rfl (by kernel_rfl) (by kernel_rfl) (by kernel_rfl) (fun _ _ _ h => h) (Or.inr ⟨by rfl, rfl⟩) (by assumption) ?_)
      (try simp only [Act.put, List.setIfInBounds_toArray, List.set_cons_zero, List.set_cons_succ])
      first
        | (refine wpAnyH_take (i := 10) (oi := ⟨(some 97), _, _, _, _, _⟩) (v := ?_) rfl (by kernel_rfl) (by kernel_rfl) (by kernel_rfl) (fun _ _ _ h => h) (Or.inl ⟨by rfl, ?_⟩) (by assumption) ?_; rotate_left; (focus (intro ww hSw; (try dsimp only at hSw); go_simp; (try with_reducible rfl))))
        | (refine wpAnyH_take (i := 10) (oi := ⟨(some 97), _, _, _, _, _⟩) (v := undef) rfl (by kernel_rfl) (by kernel_rfl) (by kernel_rfl) (fun _ _ _ h => h) (Or.inr ⟨by rfl, rfl⟩) (by assumption) ?_)
      (try simp only [Act.put, List.setIfInBounds_toArray, List.set_cons_zero, List.set_cons_succ])
      refine wpAnyH_ready (rs := [6]) (by kernel_rfl) (by simp) ?_
      refine AllReadyH.cons (o := ⟨(some 93), _, _, _, _, _⟩) rfl (fun K hK => ?_) AllReadyH.nil
      go_simp
      refine (relB (W0 := y7) (by first | assumption | exact Below.drew (by assumption)) (HX3.out hf A14 c14 _ (HR143.out _ (by first | assumption | exact Below.drew (by assumption))))).mono ?_
      rintro e q1 ⟨rfl, hq1⟩
      clear hb
      go_wp2_with fail
      refine hK.out _ _ ?_ (fun hHeld => ?_)
      · (try dsimp only)
        exact HT7.out _ (by first | assumption | exact Below.drew (by assumption))
      clear hK K
      (try simp only [Act.put, List.setIfInBounds_toArray, List.set_cons_zero, List.set_cons_succ])
      refine wpAnyH_ready (rs := [11]) (by kernel_rfl) (by simp) ?_
      refine AllReadyH.cons (o := ⟨(some 98), _, _, _, _, _⟩) rfl (fun K hK => ?_) AllReadyH.nil
      go_simp
      refine (relB (W0 := y7) (by first | assumption | exact Below.drew (by assumption)) (HX1.out A13 c13 _ hYs (HR133.out _ (by first | assumption | exact Below.drew (by assumption))))).mono ?_
      rintro e q2 ⟨rfl, hq2⟩
      clear hq1
      go_wp2_with fail
      refine hK.out _ _ ?_ (fun hHeld => ?_)
      · (try dsimp only)
        exact HT7.out _ (by first | assumption | exact Below.drew (by assumption))
      clear hK K
      (try simp only [Act.put, List.setIfInBounds_toArray, List.set_cons_zero, List.set_cons_succ])
      first
        | (refine wpAnyH_take (i := 12) (oi := ⟨(some 99), _, _, _, _, _⟩) (v := ?_) rfl (by kernel_rfl) (by kernel_rfl) (by kernel_rfl) (fun _ _ _ h => h) (Or.inl ⟨by rfl, ?_⟩) (by assumption) ?_; rotate_left; (focus (intro ww hSw; (try dsimp only at hSw); go_simp; (try with_reducible rfl))))
        | (refine wpAnyH_take (i := 12) (oi := ⟨(some 99), _, _, _, _, _⟩) (v := undef) rfl (by kernel_rfl) (by kernel_rfl) (by kernel_rfl) (fun _ _ _ h => h) (Or.inr ⟨by rfl, rfl⟩) (by assumption) ?_)
      (try simp only [Act.put, List.setIfInBounds_toArray, List.set_cons_zero, List.set_cons_succ])
      first
        | (refine wpAnyH_take (i := 13) (oi := ⟨(some 100), _, _, _, _, _⟩) (v := ?_) rfl (by kernel_rfl) (by kernel_rfl) (by kernel_rfl) (fun _ _ _ h => h) (Or.inl ⟨by rfl, ?_⟩) (by assumption) ?_; rotate_left; (focus (intro ww hSw; (try dsimp only at hSw); go_simp; (try with_reducible rfl))))
        | (refine wpAnyH_take (i := 13) (oi := ⟨(some 100), _, _, _, _, _⟩) (v := undef) rfl (by kernel_rfl) (by kernel_rfl) (by kernel_rfl) (fun _ _ _ h => h) (Or.inr ⟨by rfl, rfl⟩) (by assumption) ?_)
      (try simp only [Act.put, List.setIfInBounds_toArray, List.set_cons_zero, List.set_cons_succ])
      first
        | (refine wpAnyH_take (i := 14) (oi := ⟨(some 101), _, _, _, _, _⟩) (v := ?_) rfl (by kernel_rfl) (by kernel_rfl) (by kernel_rfl) (fun _ _ _ h => h) (Or.inl ⟨by rfl, ?_⟩) (by assumption) ?_; rotate_left; (focus (intro ww hSw; (try dsimp only at hSw); go_simp; (try with_reducible rfl))))
        | (refine wpAnyH_take (i := 14) (oi := ⟨(some 101), _, _, _, _, _⟩) (v := undef) rfl (by kernel_rfl) (by kernel_rfl) (by kernel_rfl) (fun _ _ _ h => h) (Or.inr ⟨by rfl, rfl⟩) (by assumption) ?_)
      (try simp only [Act.put, List.setIfInBounds_toArray, List.set_cons_zero, List.set_cons_succ])
      first
        | (refine wpAnyH_take (i := 15) (oi := ⟨(some 102), _, _, _, _, _⟩) (v := ?_) rfl (by kernel_rfl) (by kernel_rfl) (by kernel_rfl) (fun _ _ _ h => h) (Or.inl ⟨by rfl, ?_⟩) (by assumption) ?_; rotate_left; (focus (intro ww hSw; (try dsimp only at hSw); go_simp; (try with_reducible rfl))))
        | (refine wpAnyH_take (i := 15) (oi := ⟨(some 102), _, _, _, _, _⟩) (v := undef) rfl (by kernel_rfl) (by kernel_rfl) (by kernel_rfl) (fun _ _ _ h => h) (Or.inr ⟨by rfl, rfl⟩) (by assumption) ?_)
      (try simp only [Act.put, List.setIfInBounds_toArray, List.set_cons_zero, List.set_cons_succ])
      first
        | (refine wpAnyH_take (i := 16) (oi := ⟨(some 103), _, _, _, _, _⟩) (v := ?_) rfl (by kernel_rfl) (by kernel_rfl) (by kernel_rfl) (fun _ _ _ h => h) (Or.inl ⟨by rfl, ?_⟩) (by assumption) ?_; rotate_left; (focus (intro ww hSw; (try dsimp only at hSw); go_simp; (try with_reducible rfl))))
        | (refine wpAnyH_take (i := 16) (oi := ⟨(some 103), _, _, _, _, _⟩) (v := undef) rfl (by kernel_rfl) (by kernel_rfl) (by kernel_rfl) (fun _ _ _ h => h) (Or.inr ⟨by rfl, rfl⟩) (by assumption) ?_)
      (try simp only [Act.put, List.setIfInBounds_toArray, List.set_cons_zero, List.set_cons_succ])
      first
        | (refine wpAnyH_take (i := 17) (oi := ⟨(some 104), _, _, _, _, _⟩) (v := ?_) rfl (by kernel_rfl) (by kernel_rfl) (by kernel_rfl) (fun _ _ _ h => h) (Or.inl ⟨by rfl, ?_⟩) (by assumption) ?_; rotate_left; (focus (intro ww hSw; (try dsimp only at hSw); go_simp; (try with_reducible rfl))))
        | (refine wpAnyH_take (i := 17) (oi := ⟨(some 104), _, _, _, _, _⟩) (v := undef) rfl (by kernel_rfl) (by kernel_rfl) (by kernel_rfl) (fun _ _ _ h => h) (Or.inr ⟨by rfl, rfl⟩) (by assumption) ?_)
      (try simp only [Act.put, List.setIfInBounds_toArray, List.set_cons_zero, List.set_cons_succ])
      first
        | (refine wpAnyH_take (i := 18) (oi := ⟨(some 105), _, _, _, _, _⟩) (v := ?_) rfl (by kernel_rfl) (by kernel_rfl) (by kernel_rfl) (fun _ _ _ h => h) (Or.inl ⟨by rfl, ?_⟩) (by assumption) ?_; rotate_left; (focus (intro ww hSw; (try dsimp only at hSw); go_simp; (try with_reducible rfl))))
        | (refine wpAnyH_take (i := 18) (oi := ⟨(some 105), _, _, _, _, _⟩) (v := undef) rfl (by kernel_rfl) (by kernel_rfl) (by kernel_rfl) (fun _ _ _ h => h) (Or.inr ⟨by rfl, rfl⟩) (by assumption) ?_)
      (try simp only [Act.put, List.setIfInBounds_toArray, List.set_cons_zero, List.set_cons_succ])
      first
        | (refine wpAnyH_take (i := 19) (oi := ⟨(some 106), _, _, _, _, _⟩) (v := ?_) rfl (by kernel_rfl) (by kernel_rfl) (by kernel_rfl) (fun _ _ _ h => h) (Or.inl ⟨by rfl, ?_⟩) (by assumption) ?_; rotate_left; (focus (intro ww hSw; (try dsimp only at hSw); go_simp; (try with_reducible rfl))))
        | (refine wpAnyH_take (i := 19) (oi := ⟨(some 106), _, _, _, _, _⟩) (v := undef) rfl (by kernel_rfl) (by kernel_rfl) (by kernel_rfl) (fun _ _ _ h => h) (Or.inr ⟨by rfl, rfl⟩) (by assumption) ?_)
      (try simp only [Act.put, List.setIfInBounds_toArray, List.set_cons_zero, List.set_cons_succ])
      first
        | (refine wpAnyH_take (i := 20) (oi := ⟨(some 107), _, _, _, _, _⟩) (v := ?_) rfl (by kernel_rfl) (by kernel_rfl) (by kernel_rfl) (fun _ _ _ h => h) (Or.inl ⟨by rfl, ?_⟩) (by assumption) ?_; rotate_left; (focus (intro ww hSw; (try dsimp only at hSw); go_simp; (try with_reducible rfl))))
        | (refine wpAnyH_take (i := 20) (oi := ⟨(some 107), _, _, _, _, _⟩) (v := undef) rfl (by kernel_rfl) (by kernel_rfl) (by kernel_rfl) (fun _ _ _ h => h) (Or.inr ⟨by rfl, rfl⟩) (by assumption) ?_)
      (try simp only [Act.put, List.setIfInBounds_toArray, List.set_cons_zero, List.set_cons_succ])
      first
        | (refine wpAnyH_take (i := 21) (oi := ⟨(some 108), _, _, _, _, _⟩) (v := ?_) rfl (by kernel_rfl) (by kernel_rfl) (by kernel_rfl) (fun _ _ _ h => h) (Or.inl ⟨by rfl, ?_⟩) (by assumption) ?_; rotate_left; (focus (intro ww hSw; (try dsimp only at hSw); go_simp; (try with_reducible rfl))))
        | (refine wpAnyH_take (i := 21) (oi := ⟨(some 108), _, _, _, _, _⟩) (v := undef) rfl (by kernel_rfl) (by kernel_rfl) (by kernel_rfl) (fun _ _ _ h => h) (Or.inr ⟨by rfl, rfl⟩) (by assumption) ?_)
      (try simp only [Act.put, List.setIfInBounds_toArray, List.set_cons_zero, List.set_cons_succ])
      first
        | (refine wpAnyH_take (i := 23) (oi := ⟨(some 110), _, _, _, _, _⟩) (v := ?_) rfl (by kernel_rfl) (by kernel_rfl) (by kernel_rfl) (fun _ _ _ h => h) (Or.inl ⟨by rfl, ?_⟩) (by assumption) ?_; rotate_left; (focus (intro ww hSw; (try dsimp only at hSw); go_simp; (try with_reducible rfl))))
        | (refine wpAnyH_take (i := 23) (oi := ⟨(some 110), _, _, _, _, _⟩) (v := undef) rfl (by kernel_rfl) (by kernel_rfl) (by kernel_rfl) (fun _ _ _ h => h) (Or.inr ⟨by rfl, rfl⟩) (by assumption) ?_)
      (try simp only [Act.put, List.setIfInBounds_toArray, List.set_cons_zero, List.set_cons_succ])
      first
        | (refine wpAnyH_take (i := 24) (oi := ⟨(some 111), _, _, _, _, _⟩) (v := ?_) rfl (by kernel_rfl) (by kernel_rfl) (by kernel_rfl) (fun _ _ _ h => h) (Or.inl ⟨by rfl, ?_⟩) (by assumption) ?_; rotate_left; (focus (intro ww hSw; (try dsimp only at hSw); go_simp; (try with_reducible rfl))))
        | (refine wpAnyH_take (i := 24) (oi := ⟨(some 111), _, _, _, _, _⟩) (v := undef) rfl (by kernel_rfl) (by kernel_rfl) (by kernel_rfl) (fun _ _ _ h => h) (Or.inr ⟨by rfl, rfl⟩) (by assumption) ?_)
      (try simp only [Act.put, List.setIfInBounds_toArray, List.set_cons_zero, List.set_cons_succ])
      refine wpAnyH_ready (rs := [22]) (by kernel_rfl) (by simp) ?_
      refine AllReadyH.cons (o := ⟨(some 109), _, _, _, _, _⟩) rfl (fun K hK => ?_) AllReadyH.nil
      go_simp
      refine (relB (W0 := y7) (by first | assumption | exact Below.drew (by assumption)) (HX2.out A16 c16 _ hmz (HR163.out _ (by first | assumption | exact Below.drew (by assumption))))).mono ?_
      rintro e q3 ⟨rfl, hq3⟩
      clear hq2
      go_wp2_with fail
      refine hK.out _ _ ?_ (fun hHeld => ?_)
      · (try dsimp only)
        exact HT7.out _ (by first | assumption | exact Below.drew (by assumption))
      clear hK K
      (try simp only [Act.put, List.setIfInBounds_toArray, List.set_cons_zero, List.set_cons_succ])
      first
        | (refine wpAnyH_take (i := 25) (oi := ⟨(some 112), _, _, _, _, _⟩) (v := ?_) rfl (by kernel_rfl) (by kernel_rfl) (by kernel_rfl) (fun _ _ _ h => h) (Or.inl ⟨by rfl, ?_⟩) (by assumption) ?_; rotate_left; (focus (intro ww hSw; (try dsimp only at hSw); go_simp; (try with_reducible rfl))))
        | (refine wpAnyH_take (i := 25) (oi := ⟨(some 112), _, _, _, _, _⟩) (v := undef) rfl (by kernel_rfl) (by kernel_rfl) (by kernel_rfl) (fun _ _ _ h => h) (Or.inr ⟨by rfl, rfl⟩) (by assumption) ?_)
      (try simp only [Act.put, List.setIfInBounds_toArray, List.set_cons_zero, List.set_cons_succ])
      first
        | (refine wpAnyH_take (i := 26) (oi := ⟨(some 113), _, _, _, _, _⟩) (v := ?_) rfl (by kernel_rfl) (by kernel_rfl) (by kernel_rfl) (fun _ _ _ h => h) (Or.inl ⟨by rfl, ?_⟩) (by assumption) ?_; rotate_left; (focus (intro ww hSw; (try dsimp only at hSw); go_simp; (try with_reducible rfl))))
        | (refine wpAnyH_take (i := 26) (oi := ⟨(some 113), _, _, _, _, _⟩) (v := undef) rfl (by kernel_rfl) (by kernel_rfl) (by kernel_rfl) (fun _ _ _ h => h) (Or.inr ⟨by rfl, rfl⟩) (by assumption) ?_)
      (try simp only [Act.put, List.setIfInBounds_toArray, List.set_cons_zero, List.set_cons_succ])
      first
        | (refine wpAnyH_take (i := 27) (oi := ⟨(some 4), _, _, _, _, _⟩) (v := ?_) rfl (by kernel_rfl) (by kernel_rfl) (by kernel_rfl) (fun _ _ _ h => h) (Or.inl ⟨by rfl, ?_⟩) (by assumption) ?_; rotate_left; (focus (intro ww hSw; (try dsimp only at hSw); go_simp; (try with_reducible rfl))))
        | (refine wpAnyH_take (i := 27) (oi := ⟨(some 4), _, _, _, _, _⟩) (v := undef) rfl (by kernel_rfl) (by kernel_rfl) (by kernel_rfl) (fun _ _ _ h => h) (Or.inr ⟨by rfl, rfl⟩) (by assumption) ?_)
      (try simp only [Act.put, List.setIfInBounds_toArray, List.set_cons_zero, List.set_cons_succ])
      refine wpAnyH_done (by kernel_rfl) ?_ _
      go_wp2
      go_ret
      exact ⟨rfl, HBF.out.trans (Below.mono (by first | assumption | exact Below.drew (by assumption)) hw7)⟩
end Go.Proofs.Ytmecbiphejjkmaa.fnScoreSum
