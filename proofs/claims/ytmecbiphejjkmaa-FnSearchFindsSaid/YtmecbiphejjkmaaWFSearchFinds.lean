/- The walk of the law FnSearchFinds: with steps of a chip and the score at half a chip as threshold, a search finds an offset within half a chip of that of a maximal code, and with steps of one sample and the full score this itself. -/
import Derived.Test.YtmecbiphejjkmaaNear
import Derived.Test.YtmecbiphejjkmaaSsI
import Derived.Test.YtmecbiphejjkmaaSsC
import Derived.Deep.QuietTactic
import Derived.BigQuiet
namespace Go.Proofs.Ytmecbiphejjkmaa.fnSearchFinds
set_option maxRecDepth 20000
open Go.ChangeShapes Go.WideShapes Go.ChangeAt Go.RowKit
set_option linter.unusedVariables false
set_option linter.unusedSimpArgs false

theorem relB {P : Program} {f : FuncId} {args : Array Value} {W0 u : World} {v : Value} (hu : Below W0.heap.size W0 u) (h : Calls P f args u fun e u' => e = .returned v ∧ Below u.heap.size u u') :
    Calls P f args u fun e u' => e = .returned v ∧ Below W0.heap.size W0 u' := h.mono fun e u' ⟨a, b⟩ => ⟨a, below_next hu b⟩
theorem two_at {W u : World} {b : Nat} {x y : Value} (h : Two W b x y) (hb : Below W.heap.size W u) : u.cell? ⟨b, 0, none⟩ = some x ∧ u.cell? ⟨b, 1, none⟩ = some y := by
  have := h.below hb
  exact ⟨this.1, this.2.1⟩
theorem sq_big {g L : Nat} (h1 : g ≤ 9) (h2 : L ≤ 186) : ∃ M : Nat, (g : Int) * (L : Int) = (M : Int) ∧ M ≤ 1674 := ⟨g * L, by simp, Nat.mul_le_mul h1 h2⟩

set_option maxHeartbeats 16000000 in
theorem walk (a0 : Option Addr) (len0 cap0 : Nat) (z0 : List Int) (a1 : Option Addr) (len1 cap1 : Nat) (z1 : List Int) (w : World) (hw0 : IsRow .u8 w a0 len0 cap0 z0) (hw1 : IsRow .u8 w a1 len1 cap1 z1) :
    Calls Try.prog 7 #[.slice a0 len0 cap0, .slice a1 len1 cap1] w fun e w' => e = .returned (.bool true) ∧ Below w.heap.size w w' := by
  by_cases hlen : len0 ≤ 1048576
  rotate_left
  · go_enter Try.func7, Try.ntmps7
    go_wp2
    go_ret
    exact ⟨rfl, Below.refl _ _⟩
  by_cases hlen1 : len1 ≤ 1048576
  rotate_left
  · go_enter Try.func7, Try.ntmps7
    go_wp2
    go_ret
    exact ⟨rfl, Below.refl _ _⟩
  go_enter Try.func7, Try.ntmps7
  go_wp2_with fail
  refine (ssSharp_any _ _ _ _ _ len1 _ _ hw0 hlen hlen1).mono ?_
  rintro e w1 ⟨l, m, a, g, rfl, ⟨hS, hp', hl31, hm1, hm6, haL, hg1, hg9⟩, hb1⟩
  clear hw0 hw1
  have zl := str_size l
  have hm : (str l).size ≤ maxLen := by unfold maxLen; omega
  obtain ⟨W, hW⟩ : ∃ W, W = w1.alloc (.cells #[.string (str l), .int .i64 (m : Int)] 25) := ⟨_, rfl⟩
  have HT : Hid (∀ u : World, Below W.heap.size W u → u.cell? ⟨w1.heap.size, 0, none⟩ = some (.string (str l)) ∧ u.cell? ⟨w1.heap.size, 1, none⟩ = some (.int .i64 (m : Int))) := fun u hu => two_at (by rw [hW]; exact Two.box _ _ _) hu
  have HBW : Hid (Below w.heap.size w W) := by rw [hW]; exact hb1.alloc hb1.size _
  have hW0 : w.heap.size ≤ W.heap.size := HBW.out.size
  have hwW : w1.heap.size < W.heap.size := by rw [hW]; simp
  go_wp2_with fail
  rw [← hW]
  have hb := Below.refl W.heap.size W
  obtain ⟨c0, c1⟩ := HT.out _ hb
  clear hW hb1
  have hp : pilotOK (str l).data.toList (m : Int) = true := by rw [str_list]; exact hp'
  obtain ⟨L, hL⟩ : ∃ L, L = l.length * m := ⟨_, rfl⟩
  have hLs : L = (str l).size * m := by rw [zl]; exact hL
  have h3 := hS.1
  have hLb : 3 * m ≤ L ∧ L ≤ 186 := ⟨by rw [hL]; exact Nat.mul_le_mul_right m h3, by rw [hL]; have := Nat.mul_le_mul hl31 hm6; omega⟩
  obtain ⟨hL3, hL186⟩ := hLb
  rw [← hL] at haL
  have HPL : Hid (∀ u : World, Calls Try.prog 16 #[.agg #[.string (str l), .int .i64 (m : Int)]] u fun e w' => e = .returned (.int .i64 (L : Int)) ∧ Below u.heap.size u w') := fun u => by rw [hLs]; exact plenI_nat u hp hm
  obtain ⟨Z, hZ⟩ : ∃ Z, Z = psL (str l) (m : Int) (a : Int) (L : Int) (g : Int) := ⟨_, rfl⟩
  have hps : psOK (str l) (m : Int) (a : Int) (L : Int) (g : Int) = true := ps_ok (off_ok hp (by omega)) ⟨by omega, by omega⟩ ⟨by omega, by omega⟩
  have HPS : Hid (∀ (u : World), Calls Try.prog 15 #[.agg #[.string (str l), .int .i64 (m : Int)], .int .i64 (a : Int), .int .i64 (L : Int), .int .i64 (g : Int)] u (RetL Z u)) := fun u => by rw [hZ]; exact ssPilot_any (str l) (m : Int) (a : Int) (L : Int) (g : Int) u hm
  have hZs : sigOK Z = true := by rw [hZ]; exact ps_sig hps
  have hZl : Z.length = L := by rw [hZ]; exact ps_length hps
  have hZ6 : Z.length ≤ 1048576 := by omega
  have HSCO : Hid (∀ i, score Z (str l).data.toList m i 0 = (g : Int) * corr l m a i) := fun i => by rw [hZ, ps_score hps (by omega), str_list]
  have HSH := Lib.hid hS
  have HPO := Lib.hid hp
  have HOK : Hid (∀ i, i < L → offOK (str l) (m : Int) (i : Int) = true) := fun i hi => off_ok hp (by omega)
  clear hZ hps hp' hp hS
  have HLS := Lib.hid hLs
  have HL := Lib.hid hL
  clear hLs hL
  go_wp2_with fail
  refine (HPL.out _).mono ?_
  rintro e y1 ⟨rfl, k⟩
  replace hb := below_next hb k
  clear k c0 c1
  obtain ⟨c0, c1⟩ := HT.out _ hb
  go_wp2_with fail
  refine (HPS.out _).mono ?_
  rintro e U ⟨v9, rfl, hs9, k9⟩
  have hb9 := below_next hb k9
  obtain ⟨A, c, rfl, hr9, hcp9⟩ := hs9.reads
  have HBU := Lib.hid (HBW.out.trans (hb9.mono hW0))
  have hwU : w.heap.size ≤ U.heap.size := HBU.out.size
  have HR : Hid (∀ u : World, Below U.heap.size U u → Reads u u.heap.size A Z) := fun u hu => (hr9.keep (fun p hp => hu.cell hp)).more hu.size
  have HTU : Hid (∀ u : World, Below U.heap.size U u → u.cell? ⟨w1.heap.size, 0, none⟩ = some (.string (str l)) ∧ u.cell? ⟨w1.heap.size, 1, none⟩ = some (.int .i64 (m : Int))) := fun u hu => HT.out u (below_next hb9 hu)
  clear hb hb9 k9 hs9 hr9 hcp9 c0 c1 HT HPS
  have HT := HTU
  clear HTU
  have hb := Below.refl U.heap.size U
  obtain ⟨c0, c1⟩ := HT.out _ hb
  obtain ⟨n, hn⟩ : ∃ n, n = (str l).size := ⟨_, rfl⟩
  have hnl : n = l.length := by rw [hn, zl]
  have hzs : ((str l).size : Int) = (n : Int) := by rw [hn]
  have hn31 : n ≤ 31 := by omega
  obtain ⟨X, hX⟩ : ∃ X : Nat, X = m / 2 * (l.length + 1) := ⟨_, rfl⟩
  have hXb : X ≤ 3 * 32 := by rw [hX]; exact Nat.mul_le_mul (by omega) (by omega)
  have x1 : (m : Int) / 2 * ((n : Int) + 1) = (X : Int) := by rw [hX, hnl]; simp
  obtain ⟨T, hT⟩ : ∃ T : Int, T = (g : Int) * ((L : Int) - (X : Int)) := ⟨_, rfl⟩
  have hTb : -30000 ≤ T ∧ T ≤ 30000 := by
    have h1 : ((g : Int) * ((L : Int) - (X : Int))).natAbs ≤ 9 * 3000 := by rw [Int.natAbs_mul]; exact Nat.mul_le_mul (by omega) (by omega)
    omega
  obtain ⟨t1, t2⟩ := hTb
  have x2 : (g : Int) * ((L : Int) - (X : Int)) = T := hT.symm
  have yT : IntKind.i64.wrap T = T := IntWalk.i64_in _ (by omega)
  obtain ⟨M, hM, hMb⟩ := sq_big hg9 hL186
  have yM : IntKind.i64.wrap (M : Int) = (M : Int) := IntWalk.i64_in _ (by omega)
  have hzd : ∀ i, score Z l m i 0 = (g : Int) * corr l m a i := fun i => by have := HSCO.out i; rw [str_list] at this; exact this
  obtain ⟨q, hq, hqn, hqL, hqd⟩ := find_chip HL.out HSH.out (by omega) haL hg1 hzd
  have hq1 := find_one HL.out HSH.out (by omega) haL hg1 hzd
  rw [← hX, ← hT] at hq
  rw [hM] at hq1
  have hsr : srOK Z (str l) (m : Int) (m : Int) = true := by unfold srOK; rw [hZs, HPO.out, inB_yes (by omega) (by omega)]; rfl
  have hsr1 : srOK Z (str l) (m : Int) ((1 : Nat) : Int) = true := by unfold srOK; rw [hZs, HPO.out, inB_yes (by omega) (by omega)]; rfl
  obtain ⟨K, hK⟩ : ∃ K, K = q * m := ⟨_, rfl⟩
  have f1 : firstI Z (str l) (m : Int) (m : Int) T = (K : Int) := by rw [firstI_yes hsr, str_list, hq, hK]; rfl
  have f2 : timeI Z (str l) (m : Int) (m : Int) T = (q : Int) + 1 := by rw [timeI_yes hsr, str_list, hq]; rfl
  have f3 : firstI Z (str l) (m : Int) 1 (M : Int) = (a : Int) := by
    have := firstI_yes (t := (M : Int)) hsr1
    rw [str_list, hq1] at this
    simpa [firstV] using this
  have f4 : timeI Z (str l) (m : Int) 1 (M : Int) = (a : Int) + 1 := by
    have := timeI_yes (t := (M : Int)) hsr1
    rw [str_list, hq1] at this
    simpa [timeV] using this
  have HF1 : Hid (∀ u : World, Below U.heap.size U u → Calls Try.prog 31 #[.slice A Z.length c, .agg #[.string (str l), .int .i64 (m : Int)], .int .i64 (m : Int), .int .i64 T] u fun e w' => e = .returned (.int .i64 (K : Int)) ∧ Below u.heap.size u w') := fun u hu => by
    have h := firstI_any A c Z (str l) (m : Int) (m : Int) T u (HR.out u hu) hZ6 hm
    rw [f1] at h
    exact h
  have HF2 : Hid (∀ u : World, Below U.heap.size U u → Calls Try.prog 32 #[.slice A Z.length c, .agg #[.string (str l), .int .i64 (m : Int)], .int .i64 (m : Int), .int .i64 T] u fun e w' => e = .returned (.int .i64 (K : Int)) ∧ Below u.heap.size u w') := fun u hu => by
    have h := firstS_any A c Z (str l) (m : Int) (m : Int) T u (HR.out u hu) hZ6 hm
    rw [f1] at h
    exact h
  have HF3 : Hid (∀ u : World, Below U.heap.size U u → Calls Try.prog 31 #[.slice A Z.length c, .agg #[.string (str l), .int .i64 (m : Int)], .int .i64 1, .int .i64 (M : Int)] u fun e w' => e = .returned (.int .i64 (a : Int)) ∧ Below u.heap.size u w') := fun u hu => by
    have h := firstI_any A c Z (str l) (m : Int) 1 (M : Int) u (HR.out u hu) hZ6 hm
    rw [f3] at h
    exact h
  have HF4 : Hid (∀ u : World, Below U.heap.size U u → Calls Try.prog 33 #[.slice A Z.length c, .agg #[.string (str l), .int .i64 (m : Int)], .int .i64 1, .int .i64 (M : Int)] u fun e w' => e = .returned (.int .i64 ((a : Int) + 1)) ∧ Below u.heap.size u w') := fun u hu => by
    have h := timeI_any A c Z (str l) (m : Int) 1 (M : Int) u (HR.out u hu) hZ6 hm
    rw [f4] at h
    exact h
  have HF5 : Hid (∀ u : World, Below U.heap.size U u → Calls Try.prog 33 #[.slice A Z.length c, .agg #[.string (str l), .int .i64 (m : Int)], .int .i64 (m : Int), .int .i64 T] u fun e w' => e = .returned (.int .i64 ((q : Int) + 1)) ∧ Below u.heap.size u w') := fun u hu => by
    have h := timeI_any A c Z (str l) (m : Int) (m : Int) T u (HR.out u hu) hZ6 hm
    rw [f2] at h
    exact h

  have HOD : Hid (∀ (u : World), Calls Try.prog 29 #[.agg #[.string (str l), .int .i64 (m : Int)], .int .i64 (K : Int), .int .i64 (a : Int)] u fun e w' => e = .returned (.int .i64 (dN L a K : Int)) ∧ Below u.heap.size u w') := fun u => by
    have h := distI_any (str l) (m : Int) (K : Int) (a : Int) u hm
    rw [off_dN HLS.out HPO.out (by rw [hK]; exact hqL) haL, dN_symm] at h
    exact h
  rw [← hK] at hqd hqL
  obtain ⟨D, hD⟩ : ∃ D, D = dN L a K := ⟨_, rfl⟩
  rw [← hD] at HOD hqd
  have d1 : decide ((D : Int) ≤ (m : Int) / 2) = true := decide_eq_true (by omega)
  have d2 : decide ((q : Int) + 1 ≤ (n : Int)) = true := decide_eq_true (by omega)
  have ya : IntKind.i64.wrap ((a : Int) + 1) = (a : Int) + 1 := IntWalk.i64_in _ (by omega)
  have ym : IntKind.i64.wrap ((m : Int) / 2) = (m : Int) / 2 := IntWalk.i64_in _ (by omega)
  have e1 : ((a : Int) == (a : Int)) = true := by simp
  have e2 : ((a : Int) + 1 == (a : Int) + 1) = true := by simp
  rw [hZl] at HF1 HF2 HF3 HF4 HF5 ⊢
  clear hD hK f1 f2 f3 f4 hq hq1 hsr hsr1 hX hT hzd HR HOK HSCO hZs hZ6 hZl zl hn hnl hl31 hm h3 hwW HSH HPO HLS HL HPL
  go_wp2_with fail
  refine (HF1.out _ hb).mono ?_
  rintro e y2 ⟨rfl, k⟩
  replace hb := below_next hb k
  clear k c0 c1
  obtain ⟨c0, c1⟩ := HT.out _ hb
  go_wp2_with fail
  refine (HF2.out _ hb).mono ?_
  rintro e y3 ⟨rfl, k⟩
  replace hb := below_next hb k
  clear k c0 c1
  obtain ⟨c0, c1⟩ := HT.out _ hb
  go_wp2_with fail
  refine (HF3.out _ hb).mono ?_
  rintro e y4 ⟨rfl, k⟩
  replace hb := below_next hb k
  clear k c0 c1
  obtain ⟨c0, c1⟩ := HT.out _ hb
  clear c0 c1
  go_wp2
  refine wp_region_held_drew (S := (fun u => u.cell? ⟨w1.heap.size, 0, none⟩ = some (.string (str l)) ∧ u.cell? ⟨w1.heap.size, 1, none⟩ = some (.int .i64 (m : Int)))) (by kernel_rfl) ?_ (fun hHeld => ?_)
  · (try dsimp only)
    exact HT.out _ (by first | assumption | exact Below.drew (by assumption))
  first
    | (refine wpAnyH_take (i := 0) (oi := ⟨(some 71), _, _, _, _, _⟩) (v := ?_) rfl (by kernel_rfl) (by kernel_rfl) (by kernel_rfl) (fun _ _ _ h => h) (Or.inl ⟨by rfl, ?_⟩) (by assumption) ?_; rotate_left; (focus (intro ww hSw; (try dsimp only at hSw); go_simp; (try with_reducible rfl))))
    | (refine wpAnyH_take (i := 0) (oi := ⟨(some 71), _, _, _, _, _⟩) (v := undef) rfl (by kernel_rfl) (by kernel_rfl) (by kernel_rfl) (fun _ _ _ h => h) (Or.inr ⟨by rfl, rfl⟩) (by assumption) ?_)
  (try simp only [Act.put, List.setIfInBounds_toArray, List.set_cons_zero, List.set_cons_succ])
  first
    | (refine wpAnyH_take (i := 1) (oi := ⟨(some 72), _, _, _, _, _⟩) (v := ?_) rfl (by kernel_rfl) (by kernel_rfl) (by kernel_rfl) (fun _ _ _ h => h) (Or.inl ⟨by rfl, ?_⟩) (by assumption) ?_; rotate_left; (focus (intro ww hSw; (try dsimp only at hSw); go_simp; (try with_reducible rfl))))
    | (refine wpAnyH_take (i := 1) (oi := ⟨(some 72), _, _, _, _, _⟩) (v := undef) rfl (by kernel_rfl) (by kernel_rfl) (by kernel_rfl) (fun _ _ _ h => h) (Or.inr ⟨by rfl, rfl⟩) (by assumption) ?_)
  (try simp only [Act.put, List.setIfInBounds_toArray, List.set_cons_zero, List.set_cons_succ])
  first
    | (refine wpAnyH_take (i := 2) (oi := ⟨(some 73), _, _, _, _, _⟩) (v := ?_) rfl (by kernel_rfl) (by kernel_rfl) (by kernel_rfl) (fun _ _ _ h => h) (Or.inl ⟨by rfl, ?_⟩) (by assumption) ?_; rotate_left; (focus (intro ww hSw; (try dsimp only at hSw); go_simp; (try with_reducible rfl))))
    | (refine wpAnyH_take (i := 2) (oi := ⟨(some 73), _, _, _, _, _⟩) (v := undef) rfl (by kernel_rfl) (by kernel_rfl) (by kernel_rfl) (fun _ _ _ h => h) (Or.inr ⟨by rfl, rfl⟩) (by assumption) ?_)
  (try simp only [Act.put, List.setIfInBounds_toArray, List.set_cons_zero, List.set_cons_succ])
  first
    | (refine wpAnyH_take (i := 4) (oi := ⟨(some 75), _, _, _, _, _⟩) (v := ?_) rfl (by kernel_rfl) (by kernel_rfl) (by kernel_rfl) (fun _ _ _ h => h) (Or.inl ⟨by rfl, ?_⟩) (by assumption) ?_; rotate_left; (focus (intro ww hSw; (try dsimp only at hSw); go_simp; (try with_reducible rfl))))
    | (refine wpAnyH_take (i := 4) (oi := ⟨(some 75), _, _, _, _, _⟩) (v := undef) rfl (by kernel_rfl) (by kernel_rfl) (by kernel_rfl) (fun _ _ _ h => h) (Or.inr ⟨by rfl, rfl⟩) (by assumption) ?_)
  (try simp only [Act.put, List.setIfInBounds_toArray, List.set_cons_zero, List.set_cons_succ])
  first
    | (refine wpAnyH_take (i := 5) (oi := ⟨(some 76), _, _, _, _, _⟩) (v := ?_) rfl (by kernel_rfl) (by kernel_rfl) (by kernel_rfl) (fun _ _ _ h => h) (Or.inl ⟨by rfl, ?_⟩) (by assumption) ?_; rotate_left; (focus (intro ww hSw; (try dsimp only at hSw); go_simp; (try with_reducible rfl))))
    | (refine wpAnyH_take (i := 5) (oi := ⟨(some 76), _, _, _, _, _⟩) (v := undef) rfl (by kernel_rfl) (by kernel_rfl) (by kernel_rfl) (fun _ _ _ h => h) (Or.inr ⟨by rfl, rfl⟩) (by assumption) ?_)
  (try simp only [Act.put, List.setIfInBounds_toArray, List.set_cons_zero, List.set_cons_succ])
  first
    | (refine wpAnyH_take (i := 6) (oi := ⟨(some 77), _, _, _, _, _⟩) (v := ?_) rfl (by kernel_rfl) (by kernel_rfl) (by kernel_rfl) (fun _ _ _ h => h) (Or.inl ⟨by rfl, ?_⟩) (by assumption) ?_; rotate_left; (focus (intro ww hSw; (try dsimp only at hSw); go_simp; (try with_reducible rfl))))
    | (refine wpAnyH_take (i := 6) (oi := ⟨(some 77), _, _, _, _, _⟩) (v := undef) rfl (by kernel_rfl) (by kernel_rfl) (by kernel_rfl) (fun _ _ _ h => h) (Or.inr ⟨by rfl, rfl⟩) (by assumption) ?_)
  (try simp only [Act.put, List.setIfInBounds_toArray, List.set_cons_zero, List.set_cons_succ])
  refine wpAnyH_ready (rs := [3]) (by kernel_rfl) (by simp) ?_
  refine AllReadyH.cons (o := ⟨(some 74), _, _, _, _, _⟩) rfl (fun K hK => ?_) AllReadyH.nil
  go_simp
  refine (relB (W0 := U) (by first | assumption | exact Below.drew (by assumption)) (HOD.out _)).mono ?_
  rintro e q1 ⟨rfl, hq1⟩
  clear hb
  go_wp2_with fail
  refine hK.out _ _ ?_ (fun hHeld => ?_)
  · (try dsimp only)
    exact HT.out _ (by first | assumption | exact Below.drew (by assumption))
  clear hK K
  (try simp only [Act.put, List.setIfInBounds_toArray, List.set_cons_zero, List.set_cons_succ])
  first
    | (refine wpAnyH_take (i := 7) (oi := ⟨(some 78), _, _, _, _, _⟩) (v := ?_) rfl (by kernel_rfl) (by kernel_rfl) (by kernel_rfl) (fun _ _ _ h => h) (Or.inl ⟨by rfl, ?_⟩) (by assumption) ?_; rotate_left; (focus (intro ww hSw; (try dsimp only at hSw); go_simp; (try with_reducible rfl))))
    | (refine wpAnyH_take (i := 7) (oi := ⟨(some 78), _, _, _, _, _⟩) (v := undef) rfl (by kernel_rfl) (by kernel_rfl) (by kernel_rfl) (fun _ _ _ h => h) (Or.inr ⟨by rfl, rfl⟩) (by assumption) ?_)
  (try simp only [Act.put, List.setIfInBounds_toArray, List.set_cons_zero, List.set_cons_succ])
  first
    | (refine wpAnyH_take (i := 8) (oi := ⟨(some 79), _, _, _, _, _⟩) (v := ?_) rfl (by kernel_rfl) (by kernel_rfl) (by kernel_rfl) (fun _ _ _ h => h) (Or.inl ⟨by rfl, ?_⟩) (by assumption) ?_; rotate_left; (focus (intro ww hSw; (try dsimp only at hSw); go_simp; (try with_reducible rfl))))
    | (refine wpAnyH_take (i := 8) (oi := ⟨(some 79), _, _, _, _, _⟩) (v := undef) rfl (by kernel_rfl) (by kernel_rfl) (by kernel_rfl) (fun _ _ _ h => h) (Or.inr ⟨by rfl, rfl⟩) (by assumption) ?_)
  (try simp only [Act.put, List.setIfInBounds_toArray, List.set_cons_zero, List.set_cons_succ])
  first
    | (refine wpAnyH_take (i := 9) (oi := ⟨(some 80), _, _, _, _, _⟩) (v := ?_) rfl (by kernel_rfl) (by kernel_rfl) (by kernel_rfl) (fun _ _ _ h => h) (Or.inl ⟨by rfl, ?_⟩) (by assumption) ?_; rotate_left; (focus (intro ww hSw; (try dsimp only at hSw); go_simp; (try with_reducible rfl))))
    | (refine wpAnyH_take (i := 9) (oi := ⟨(some 80), _, _, _, _, _⟩) (v := undef) rfl (by kernel_rfl) (by kernel_rfl) (by kernel_rfl) (fun _ _ _ h => h) (Or.inr ⟨by rfl, rfl⟩) (by assumption) ?_)
  (try simp only [Act.put, List.setIfInBounds_toArray, List.set_cons_zero, List.set_cons_succ])
  first
    | (refine wpAnyH_take (i := 10) (oi := ⟨(some 81), _, _, _, _, _⟩) (v := ?_) rfl (by kernel_rfl) (by kernel_rfl) (by kernel_rfl) (fun _ _ _ h => h) (Or.inl ⟨by rfl, ?_⟩) (by assumption) ?_; rotate_left; (focus (intro ww hSw; (try dsimp only at hSw); go_simp; (try with_reducible rfl))))
    | (refine wpAnyH_take (i := 10) (oi := ⟨(some 81), _, _, _, _, _⟩) (v := undef) rfl (by kernel_rfl) (by kernel_rfl) (by kernel_rfl) (fun _ _ _ h => h) (Or.inr ⟨by rfl, rfl⟩) (by assumption) ?_)
  (try simp only [Act.put, List.setIfInBounds_toArray, List.set_cons_zero, List.set_cons_succ])
  first
    | (refine wpAnyH_take (i := 11) (oi := ⟨(some 82), _, _, _, _, _⟩) (v := ?_) rfl (by kernel_rfl) (by kernel_rfl) (by kernel_rfl) (fun _ _ _ h => h) (Or.inl ⟨by rfl, ?_⟩) (by assumption) ?_; rotate_left; (focus (intro ww hSw; (try dsimp only at hSw); go_simp; (try with_reducible rfl))))
    | (refine wpAnyH_take (i := 11) (oi := ⟨(some 82), _, _, _, _, _⟩) (v := undef) rfl (by kernel_rfl) (by kernel_rfl) (by kernel_rfl) (fun _ _ _ h => h) (Or.inr ⟨by rfl, rfl⟩) (by assumption) ?_)
  (try simp only [Act.put, List.setIfInBounds_toArray, List.set_cons_zero, List.set_cons_succ])
  first
    | (refine wpAnyH_take (i := 12) (oi := ⟨(some 83), _, _, _, _, _⟩) (v := ?_) rfl (by kernel_rfl) (by kernel_rfl) (by kernel_rfl) (fun _ _ _ h => h) (Or.inl ⟨by rfl, ?_⟩) (by assumption) ?_; rotate_left; (focus (intro ww hSw; (try dsimp only at hSw); go_simp; (try with_reducible rfl))))
    | (refine wpAnyH_take (i := 12) (oi := ⟨(some 83), _, _, _, _, _⟩) (v := undef) rfl (by kernel_rfl) (by kernel_rfl) (by kernel_rfl) (fun _ _ _ h => h) (Or.inr ⟨by rfl, rfl⟩) (by assumption) ?_)
  (try simp only [Act.put, List.setIfInBounds_toArray, List.set_cons_zero, List.set_cons_succ])
  first
    | (refine wpAnyH_take (i := 13) (oi := ⟨(some 84), _, _, _, _, _⟩) (v := ?_) rfl (by kernel_rfl) (by kernel_rfl) (by kernel_rfl) (fun _ _ _ h => h) (Or.inl ⟨by rfl, ?_⟩) (by assumption) ?_; rotate_left; (focus (intro ww hSw; (try dsimp only at hSw); go_simp; (try with_reducible rfl))))
    | (refine wpAnyH_take (i := 13) (oi := ⟨(some 84), _, _, _, _, _⟩) (v := undef) rfl (by kernel_rfl) (by kernel_rfl) (by kernel_rfl) (fun _ _ _ h => h) (Or.inr ⟨by rfl, rfl⟩) (by assumption) ?_)
  (try simp only [Act.put, List.setIfInBounds_toArray, List.set_cons_zero, List.set_cons_succ])
  first
    | (refine wpAnyH_take (i := 14) (oi := ⟨(some 85), _, _, _, _, _⟩) (v := ?_) rfl (by kernel_rfl) (by kernel_rfl) (by kernel_rfl) (fun _ _ _ h => h) (Or.inl ⟨by rfl, ?_⟩) (by assumption) ?_; rotate_left; (focus (intro ww hSw; (try dsimp only at hSw); go_simp; (try with_reducible rfl))))
    | (refine wpAnyH_take (i := 14) (oi := ⟨(some 85), _, _, _, _, _⟩) (v := undef) rfl (by kernel_rfl) (by kernel_rfl) (by kernel_rfl) (fun _ _ _ h => h) (Or.inr ⟨by rfl, rfl⟩) (by assumption) ?_)
  (try simp only [Act.put, List.setIfInBounds_toArray, List.set_cons_zero, List.set_cons_succ])
  first
    | (refine wpAnyH_take (i := 15) (oi := ⟨(some 86), _, _, _, _, _⟩) (v := ?_) rfl (by kernel_rfl) (by kernel_rfl) (by kernel_rfl) (fun _ _ _ h => h) (Or.inl ⟨by rfl, ?_⟩) (by assumption) ?_; rotate_left; (focus (intro ww hSw; (try dsimp only at hSw); go_simp; (try with_reducible rfl))))
    | (refine wpAnyH_take (i := 15) (oi := ⟨(some 86), _, _, _, _, _⟩) (v := undef) rfl (by kernel_rfl) (by kernel_rfl) (by kernel_rfl) (fun _ _ _ h => h) (Or.inr ⟨by rfl, rfl⟩) (by assumption) ?_)
  (try simp only [Act.put, List.setIfInBounds_toArray, List.set_cons_zero, List.set_cons_succ])
  first
    | (refine wpAnyH_take (i := 16) (oi := ⟨(some 87), _, _, _, _, _⟩) (v := ?_) rfl (by kernel_rfl) (by kernel_rfl) (by kernel_rfl) (fun _ _ _ h => h) (Or.inl ⟨by rfl, ?_⟩) (by assumption) ?_; rotate_left; (focus (intro ww hSw; (try dsimp only at hSw); go_simp; (try with_reducible rfl))))
    | (refine wpAnyH_take (i := 16) (oi := ⟨(some 87), _, _, _, _, _⟩) (v := undef) rfl (by kernel_rfl) (by kernel_rfl) (by kernel_rfl) (fun _ _ _ h => h) (Or.inr ⟨by rfl, rfl⟩) (by assumption) ?_)
  (try simp only [Act.put, List.setIfInBounds_toArray, List.set_cons_zero, List.set_cons_succ])
  first
    | (refine wpAnyH_take (i := 17) (oi := ⟨(some 88), _, _, _, _, _⟩) (v := ?_) rfl (by kernel_rfl) (by kernel_rfl) (by kernel_rfl) (fun _ _ _ h => h) (Or.inl ⟨by rfl, ?_⟩) (by assumption) ?_; rotate_left; (focus (intro ww hSw; (try dsimp only at hSw); go_simp; (try with_reducible rfl))))
    | (refine wpAnyH_take (i := 17) (oi := ⟨(some 88), _, _, _, _, _⟩) (v := undef) rfl (by kernel_rfl) (by kernel_rfl) (by kernel_rfl) (fun _ _ _ h => h) (Or.inr ⟨by rfl, rfl⟩) (by assumption) ?_)
  (try simp only [Act.put, List.setIfInBounds_toArray, List.set_cons_zero, List.set_cons_succ])
  first
    | (refine wpAnyH_take (i := 18) (oi := ⟨(some 89), _, _, _, _, _⟩) (v := ?_) rfl (by kernel_rfl) (by kernel_rfl) (by kernel_rfl) (fun _ _ _ h => h) (Or.inl ⟨by rfl, ?_⟩) (by assumption) ?_; rotate_left; (focus (intro ww hSw; (try dsimp only at hSw); go_simp; (try with_reducible rfl))))
    | (refine wpAnyH_take (i := 18) (oi := ⟨(some 89), _, _, _, _, _⟩) (v := undef) rfl (by kernel_rfl) (by kernel_rfl) (by kernel_rfl) (fun _ _ _ h => h) (Or.inr ⟨by rfl, rfl⟩) (by assumption) ?_)
  (try simp only [Act.put, List.setIfInBounds_toArray, List.set_cons_zero, List.set_cons_succ])
  first
    | (refine wpAnyH_take (i := 20) (oi := ⟨(some 91), _, _, _, _, _⟩) (v := ?_) rfl (by kernel_rfl) (by kernel_rfl) (by kernel_rfl) (fun _ _ _ h => h) (Or.inl ⟨by rfl, ?_⟩) (by assumption) ?_; rotate_left; (focus (intro ww hSw; (try dsimp only at hSw); go_simp; (try with_reducible rfl))))
    | (refine wpAnyH_take (i := 20) (oi := ⟨(some 91), _, _, _, _, _⟩) (v := undef) rfl (by kernel_rfl) (by kernel_rfl) (by kernel_rfl) (fun _ _ _ h => h) (Or.inr ⟨by rfl, rfl⟩) (by assumption) ?_)
  (try simp only [Act.put, List.setIfInBounds_toArray, List.set_cons_zero, List.set_cons_succ])
  first
    | (refine wpAnyH_take (i := 21) (oi := ⟨(some 92), _, _, _, _, _⟩) (v := ?_) rfl (by kernel_rfl) (by kernel_rfl) (by kernel_rfl) (fun _ _ _ h => h) (Or.inl ⟨by rfl, ?_⟩) (by assumption) ?_; rotate_left; (focus (intro ww hSw; (try dsimp only at hSw); go_simp; (try with_reducible rfl))))
    | (refine wpAnyH_take (i := 21) (oi := ⟨(some 92), _, _, _, _, _⟩) (v := undef) rfl (by kernel_rfl) (by kernel_rfl) (by kernel_rfl) (fun _ _ _ h => h) (Or.inr ⟨by rfl, rfl⟩) (by assumption) ?_)
  (try simp only [Act.put, List.setIfInBounds_toArray, List.set_cons_zero, List.set_cons_succ])
  refine wpAnyH_ready (rs := [19]) (by kernel_rfl) (by simp) ?_
  refine AllReadyH.cons (o := ⟨(some 90), _, _, _, _, _⟩) rfl (fun K hK => ?_) AllReadyH.nil
  go_simp
  refine (relB (W0 := U) (by first | assumption | exact Below.drew (by assumption)) (HF4.out _ (by first | assumption | exact Below.drew (by assumption)))).mono ?_
  rintro e q2 ⟨rfl, hq2⟩
  clear hq1
  go_wp2_with fail
  refine hK.out _ _ ?_ (fun hHeld => ?_)
  · (try dsimp only)
    exact HT.out _ (by first | assumption | exact Below.drew (by assumption))
  clear hK K
  (try simp only [Act.put, List.setIfInBounds_toArray, List.set_cons_zero, List.set_cons_succ])
  first
    | (refine wpAnyH_take (i := 22) (oi := ⟨(some 93), _, _, _, _, _⟩) (v := ?_) rfl (by kernel_rfl) (by kernel_rfl) (by kernel_rfl) (fun _ _ _ h => h) (Or.inl ⟨by rfl, ?_⟩) (by assumption) ?_; rotate_left; (focus (intro ww hSw; (try dsimp only at hSw); go_simp; (try with_reducible rfl))))
    | (refine wpAnyH_take (i := 22) (oi := ⟨(some 93), _, _, _, _, _⟩) (v := undef) rfl (by kernel_rfl) (by kernel_rfl) (by kernel_rfl) (fun _ _ _ h => h) (Or.inr ⟨by rfl, rfl⟩) (by assumption) ?_)
  (try simp only [Act.put, List.setIfInBounds_toArray, List.set_cons_zero, List.set_cons_succ])
  first
    | (refine wpAnyH_take (i := 23) (oi := ⟨(some 94), _, _, _, _, _⟩) (v := ?_) rfl (by kernel_rfl) (by kernel_rfl) (by kernel_rfl) (fun _ _ _ h => h) (Or.inl ⟨by rfl, ?_⟩) (by assumption) ?_; rotate_left; (focus (intro ww hSw; (try dsimp only at hSw); go_simp; (try with_reducible rfl))))
    | (refine wpAnyH_take (i := 23) (oi := ⟨(some 94), _, _, _, _, _⟩) (v := undef) rfl (by kernel_rfl) (by kernel_rfl) (by kernel_rfl) (fun _ _ _ h => h) (Or.inr ⟨by rfl, rfl⟩) (by assumption) ?_)
  (try simp only [Act.put, List.setIfInBounds_toArray, List.set_cons_zero, List.set_cons_succ])
  first
    | (refine wpAnyH_take (i := 24) (oi := ⟨(some 95), _, _, _, _, _⟩) (v := ?_) rfl (by kernel_rfl) (by kernel_rfl) (by kernel_rfl) (fun _ _ _ h => h) (Or.inl ⟨by rfl, ?_⟩) (by assumption) ?_; rotate_left; (focus (intro ww hSw; (try dsimp only at hSw); go_simp; (try with_reducible rfl))))
    | (refine wpAnyH_take (i := 24) (oi := ⟨(some 95), _, _, _, _, _⟩) (v := undef) rfl (by kernel_rfl) (by kernel_rfl) (by kernel_rfl) (fun _ _ _ h => h) (Or.inr ⟨by rfl, rfl⟩) (by assumption) ?_)
  (try simp only [Act.put, List.setIfInBounds_toArray, List.set_cons_zero, List.set_cons_succ])
  first
    | (refine wpAnyH_take (i := 25) (oi := ⟨(some 96), _, _, _, _, _⟩) (v := ?_) rfl (by kernel_rfl) (by kernel_rfl) (by kernel_rfl) (fun _ _ _ h => h) (Or.inl ⟨by rfl, ?_⟩) (by assumption) ?_; rotate_left; (focus (intro ww hSw; (try dsimp only at hSw); go_simp; (try with_reducible rfl))))
    | (refine wpAnyH_take (i := 25) (oi := ⟨(some 96), _, _, _, _, _⟩) (v := undef) rfl (by kernel_rfl) (by kernel_rfl) (by kernel_rfl) (fun _ _ _ h => h) (Or.inr ⟨by rfl, rfl⟩) (by assumption) ?_)
  (try simp only [Act.put, List.setIfInBounds_toArray, List.set_cons_zero, List.set_cons_succ])
  first
    | (refine wpAnyH_take (i := 26) (oi := ⟨(some 97), _, _, _, _, _⟩) (v := ?_) rfl (by kernel_rfl) (by kernel_rfl) (by kernel_rfl) (fun _ _ _ h => h) (Or.inl ⟨by rfl, ?_⟩) (by assumption) ?_; rotate_left; (focus (intro ww hSw; (try dsimp only at hSw); go_simp; (try with_reducible rfl))))
    | (refine wpAnyH_take (i := 26) (oi := ⟨(some 97), _, _, _, _, _⟩) (v := undef) rfl (by kernel_rfl) (by kernel_rfl) (by kernel_rfl) (fun _ _ _ h => h) (Or.inr ⟨by rfl, rfl⟩) (by assumption) ?_)
  (try simp only [Act.put, List.setIfInBounds_toArray, List.set_cons_zero, List.set_cons_succ])
  first
    | (refine wpAnyH_take (i := 27) (oi := ⟨(some 98), _, _, _, _, _⟩) (v := ?_) rfl (by kernel_rfl) (by kernel_rfl) (by kernel_rfl) (fun _ _ _ h => h) (Or.inl ⟨by rfl, ?_⟩) (by assumption) ?_; rotate_left; (focus (intro ww hSw; (try dsimp only at hSw); go_simp; (try with_reducible rfl))))
    | (refine wpAnyH_take (i := 27) (oi := ⟨(some 98), _, _, _, _, _⟩) (v := undef) rfl (by kernel_rfl) (by kernel_rfl) (by kernel_rfl) (fun _ _ _ h => h) (Or.inr ⟨by rfl, rfl⟩) (by assumption) ?_)
  (try simp only [Act.put, List.setIfInBounds_toArray, List.set_cons_zero, List.set_cons_succ])
  first
    | (refine wpAnyH_take (i := 28) (oi := ⟨(some 99), _, _, _, _, _⟩) (v := ?_) rfl (by kernel_rfl) (by kernel_rfl) (by kernel_rfl) (fun _ _ _ h => h) (Or.inl ⟨by rfl, ?_⟩) (by assumption) ?_; rotate_left; (focus (intro ww hSw; (try dsimp only at hSw); go_simp; (try with_reducible rfl))))
    | (refine wpAnyH_take (i := 28) (oi := ⟨(some 99), _, _, _, _, _⟩) (v := undef) rfl (by kernel_rfl) (by kernel_rfl) (by kernel_rfl) (fun _ _ _ h => h) (Or.inr ⟨by rfl, rfl⟩) (by assumption) ?_)
  (try simp only [Act.put, List.setIfInBounds_toArray, List.set_cons_zero, List.set_cons_succ])
  first
    | (refine wpAnyH_take (i := 29) (oi := ⟨(some 100), _, _, _, _, _⟩) (v := ?_) rfl (by kernel_rfl) (by kernel_rfl) (by kernel_rfl) (fun _ _ _ h => h) (Or.inl ⟨by rfl, ?_⟩) (by assumption) ?_; rotate_left; (focus (intro ww hSw; (try dsimp only at hSw); go_simp; (try with_reducible rfl))))
    | (refine wpAnyH_take (i := 29) (oi := ⟨(some 100), _, _, _, _, _⟩) (v := undef) rfl (by kernel_rfl) (by kernel_rfl) (by kernel_rfl) (fun _ _ _ h => h) (Or.inr ⟨by rfl, rfl⟩) (by assumption) ?_)
  (try simp only [Act.put, List.setIfInBounds_toArray, List.set_cons_zero, List.set_cons_succ])
  first
    | (refine wpAnyH_take (i := 31) (oi := ⟨(some 102), _, _, _, _, _⟩) (v := ?_) rfl (by kernel_rfl) (by kernel_rfl) (by kernel_rfl) (fun _ _ _ h => h) (Or.inl ⟨by rfl, ?_⟩) (by assumption) ?_; rotate_left; (focus (intro ww hSw; (try dsimp only at hSw); go_simp; (try with_reducible rfl))))
    | (refine wpAnyH_take (i := 31) (oi := ⟨(some 102), _, _, _, _, _⟩) (v := undef) rfl (by kernel_rfl) (by kernel_rfl) (by kernel_rfl) (fun _ _ _ h => h) (Or.inr ⟨by rfl, rfl⟩) (by assumption) ?_)
  (try simp only [Act.put, List.setIfInBounds_toArray, List.set_cons_zero, List.set_cons_succ])
  first
    | (refine wpAnyH_take (i := 32) (oi := ⟨(some 103), _, _, _, _, _⟩) (v := ?_) rfl (by kernel_rfl) (by kernel_rfl) (by kernel_rfl) (fun _ _ _ h => h) (Or.inl ⟨by rfl, ?_⟩) (by assumption) ?_; rotate_left; (focus (intro ww hSw; (try dsimp only at hSw); go_simp; (try with_reducible rfl))))
    | (refine wpAnyH_take (i := 32) (oi := ⟨(some 103), _, _, _, _, _⟩) (v := undef) rfl (by kernel_rfl) (by kernel_rfl) (by kernel_rfl) (fun _ _ _ h => h) (Or.inr ⟨by rfl, rfl⟩) (by assumption) ?_)
  (try simp only [Act.put, List.setIfInBounds_toArray, List.set_cons_zero, List.set_cons_succ])
  first
    | (refine wpAnyH_take (i := 33) (oi := ⟨(some 104), _, _, _, _, _⟩) (v := ?_) rfl (by kernel_rfl) (by kernel_rfl) (by kernel_rfl) (fun _ _ _ h => h) (Or.inl ⟨by rfl, ?_⟩) (by assumption) ?_; rotate_left; (focus (intro ww hSw; (try dsimp only at hSw); go_simp; (try with_reducible rfl))))
    | (refine wpAnyH_take (i := 33) (oi := ⟨(some 104), _, _, _, _, _⟩) (v := undef) rfl (by kernel_rfl) (by kernel_rfl) (by kernel_rfl) (fun _ _ _ h => h) (Or.inr ⟨by rfl, rfl⟩) (by assumption) ?_)
  (try simp only [Act.put, List.setIfInBounds_toArray, List.set_cons_zero, List.set_cons_succ])
  refine wpAnyH_ready (rs := [30]) (by kernel_rfl) (by simp) ?_
  refine AllReadyH.cons (o := ⟨(some 101), _, _, _, _, _⟩) rfl (fun K hK => ?_) AllReadyH.nil
  go_simp
  refine (relB (W0 := U) (by first | assumption | exact Below.drew (by assumption)) (HF5.out _ (by first | assumption | exact Below.drew (by assumption)))).mono ?_
  rintro e q3 ⟨rfl, hq3⟩
  clear hq2
  go_wp2_with fail
  refine hK.out _ _ ?_ (fun hHeld => ?_)
  · (try dsimp only)
    exact HT.out _ (by first | assumption | exact Below.drew (by assumption))
  clear hK K
  (try simp only [Act.put, List.setIfInBounds_toArray, List.set_cons_zero, List.set_cons_succ])
  first
    | (refine wpAnyH_take (i := 34) (oi := ⟨(some 105), _, _, _, _, _⟩) (v := ?_) rfl (by kernel_rfl) (by kernel_rfl) (by kernel_rfl) (fun _ _ _ h => h) (Or.inl ⟨by rfl, ?_⟩) (by assumption) ?_; rotate_left; (focus (intro ww hSw; (try dsimp only at hSw); go_simp; (try with_reducible rfl))))
    | (refine wpAnyH_take (i := 34) (oi := ⟨(some 105), _, _, _, _, _⟩) (v := undef) rfl (by kernel_rfl) (by kernel_rfl) (by kernel_rfl) (fun _ _ _ h => h) (Or.inr ⟨by rfl, rfl⟩) (by assumption) ?_)
  (try simp only [Act.put, List.setIfInBounds_toArray, List.set_cons_zero, List.set_cons_succ])
  first
    | (refine wpAnyH_take (i := 35) (oi := ⟨(some 106), _, _, _, _, _⟩) (v := ?_) rfl (by kernel_rfl) (by kernel_rfl) (by kernel_rfl) (fun _ _ _ h => h) (Or.inl ⟨by rfl, ?_⟩) (by assumption) ?_; rotate_left; (focus (intro ww hSw; (try dsimp only at hSw); go_simp; (try with_reducible rfl))))
    | (refine wpAnyH_take (i := 35) (oi := ⟨(some 106), _, _, _, _, _⟩) (v := undef) rfl (by kernel_rfl) (by kernel_rfl) (by kernel_rfl) (fun _ _ _ h => h) (Or.inr ⟨by rfl, rfl⟩) (by assumption) ?_)
  (try simp only [Act.put, List.setIfInBounds_toArray, List.set_cons_zero, List.set_cons_succ])
  first
    | (refine wpAnyH_take (i := 36) (oi := ⟨(some 4), _, _, _, _, _⟩) (v := ?_) rfl (by kernel_rfl) (by kernel_rfl) (by kernel_rfl) (fun _ _ _ h => h) (Or.inl ⟨by rfl, ?_⟩) (by assumption) ?_; rotate_left; (focus (intro ww hSw; (try dsimp only at hSw); go_simp; (try with_reducible rfl))))
    | (refine wpAnyH_take (i := 36) (oi := ⟨(some 4), _, _, _, _, _⟩) (v := undef) rfl (by kernel_rfl) (by kernel_rfl) (by kernel_rfl) (fun _ _ _ h => h) (Or.inr ⟨by rfl, rfl⟩) (by assumption) ?_)
  (try simp only [Act.put, List.setIfInBounds_toArray, List.set_cons_zero, List.set_cons_succ])
  refine wpAnyH_done (by kernel_rfl) ?_ _
  go_wp2
  go_ret
  exact ⟨rfl, HBU.out.trans (Below.mono (by first | assumption | exact Below.drew (by assumption)) hwU)⟩
end Go.Proofs.Ytmecbiphejjkmaa.fnSearchFinds
