/- The walk of the law FnScoreShape: the score of a maximal code is greatest at its offset, falls by the gain times one more than its length with each sample of distance, and is the opposite of the gain times the samples of a chip from a chip on. -/
import Derived.Test.YtmecbiphejjkmaaShape
import Derived.Test.YtmecbiphejjkmaaSsI
import Derived.Test.YtmecbiphejjkmaaSsC
import Derived.Deep.QuietTactic
import Derived.BigQuiet
namespace Go.Proofs.Ytmecbiphejjkmaa.fnScoreShape
set_option maxRecDepth 20000
open Go.ChangeShapes Go.WideShapes Go.ChangeAt Go.RowKit
set_option linter.unusedVariables false
set_option linter.unusedSimpArgs false

theorem relB {P : Program} {f : FuncId} {args : Array Value} {W0 u : World} {v : Value} (hu : Below W0.heap.size W0 u) (h : Calls P f args u fun e u' => e = .returned v ∧ Below u.heap.size u u') :
    Calls P f args u fun e u' => e = .returned v ∧ Below W0.heap.size W0 u' := h.mono fun e u' ⟨a, b⟩ => ⟨a, below_next hu b⟩
theorem two_at {W u : World} {b : Nat} {x y : Value} (h : Two W b x y) (hb : Below W.heap.size W u) : u.cell? ⟨b, 0, none⟩ = some x ∧ u.cell? ⟨b, 1, none⟩ = some y := by
  have := h.below hb
  exact ⟨this.1, this.2.1⟩
theorem table_tab {z : List Int} {s : ByteArray} {m : Nat} (hz : sigOK z = true) (hp : pilotOK s.data.toList (m : Int) = true) : tableL z s (m : Int) = tabL z s.data.toList m := by unfold tableL; rw [hz, hp]; simp
theorem bestI_some {l : List Int} (h : 1 ≤ l.length) : bestI l = (bestN l (l.length - 1) : Int) := if_neg (by omega)
theorem sq_small {g m : Nat} (h1 : g ≤ 9) (h2 : m ≤ 6) : 0 ≤ (g : Int) * (m : Int) ∧ (g : Int) * (m : Int) ≤ 54 := by
  rw [← Int.natCast_mul]
  have := Nat.mul_le_mul h1 h2
  omega

set_option maxHeartbeats 16000000 in
theorem walk (a0 : Option Addr) (len0 cap0 : Nat) (z0 : List Int) (a1 : Option Addr) (len1 cap1 : Nat) (z1 : List Int) (w : World) (hw0 : IsRow .u8 w a0 len0 cap0 z0) (hw1 : IsRow .u8 w a1 len1 cap1 z1) :
    Calls Try.prog 8 #[.slice a0 len0 cap0, .slice a1 len1 cap1] w fun e w' => e = .returned (.bool true) ∧ Below w.heap.size w w' := by
  by_cases hlen : len0 ≤ 1048576
  rotate_left
  · go_enter Try.func8, Try.ntmps8
    go_wp2
    go_ret
    exact ⟨rfl, Below.refl _ _⟩
  by_cases hlen1 : len1 ≤ 1048576
  rotate_left
  · go_enter Try.func8, Try.ntmps8
    go_wp2
    go_ret
    exact ⟨rfl, Below.refl _ _⟩
  go_enter Try.func8, Try.ntmps8
  go_wp2_with fail
  refine (ssSharp_any _ _ _ _ _ len1 _ _ hw0 hlen hlen1).mono ?_
  rintro e w1 ⟨l, m, a, g, rfl, ⟨hS, hp', hl31, hm1, hm6, haL, hg1, hg9⟩, hb1⟩
  clear hw0 hw1
  have zl := str_size l
  have hm : (str l).size ≤ maxLen := by unfold maxLen; omega
  obtain ⟨W, hW⟩ : ∃ W, W = w1.alloc (.cells #[.string (str l), .int .i64 (m : Int)] 25) := ⟨_, rfl⟩
  have HT : Hid (∀ u : World, Below W.heap.size W u → u.cell? ⟨w1.heap.size, 0, none⟩ = some (.string (str l)) ∧ u.cell? ⟨w1.heap.size, 1, none⟩ = some (.int .i64 (m : Int))) := fun u hu => two_at (by rw [hW]; exact Two.box _ _ _) hu
  have HBW : Hid (Below w.heap.size w W) := by rw [hW]; exact hb1.alloc hb1.size _
  have hW0 : w.heap.size ≤ W.heap.size := HBW.out.size
  have hwW : w1.heap.size < W.heap.size := by rw [hW]; simp
  go_wp2_with fail
  rw [← hW]
  have hb := Below.refl W.heap.size W
  obtain ⟨c0, c1⟩ := HT.out _ hb
  clear hW hb1
  have hp : pilotOK (str l).data.toList (m : Int) = true := by rw [str_list]; exact hp'
  obtain ⟨L, hL⟩ : ∃ L, L = l.length * m := ⟨_, rfl⟩
  have hLs : L = (str l).size * m := by rw [zl]; exact hL
  have h3 := hS.1
  have hLb : 3 * m ≤ L ∧ L ≤ 186 := ⟨by rw [hL]; exact Nat.mul_le_mul_right m h3, by rw [hL]; have := Nat.mul_le_mul hl31 hm6; omega⟩
  obtain ⟨hL3, hL186⟩ := hLb
  rw [← hL] at haL
  have HPL : Hid (∀ u : World, Calls Try.prog 16 #[.agg #[.string (str l), .int .i64 (m : Int)]] u fun e w' => e = .returned (.int .i64 (L : Int)) ∧ Below u.heap.size u w') := fun u => by rw [hLs]; exact plenI_nat u hp hm
  obtain ⟨Z, hZ⟩ : ∃ Z, Z = psL (str l) (m : Int) (a : Int) (L : Int) (g : Int) := ⟨_, rfl⟩
  have hps : psOK (str l) (m : Int) (a : Int) (L : Int) (g : Int) = true := ps_ok (off_ok hp (by omega)) ⟨by omega, by omega⟩ ⟨by omega, by omega⟩
  have HPS : Hid (∀ (u : World), Calls Try.prog 15 #[.agg #[.string (str l), .int .i64 (m : Int)], .int .i64 (a : Int), .int .i64 (L : Int), .int .i64 (g : Int)] u (RetL Z u)) := fun u => by rw [hZ]; exact ssPilot_any (str l) (m : Int) (a : Int) (L : Int) (g : Int) u hm
  have hZs : sigOK Z = true := by rw [hZ]; exact ps_sig hps
  have hZl : Z.length = L := by rw [hZ]; exact ps_length hps
  have hZ6 : Z.length ≤ 1048576 := by omega
  have HSCO : Hid (∀ i, score Z (str l).data.toList m i 0 = (g : Int) * corr l m a i) := fun i => by rw [hZ, ps_score hps (by omega), str_list]
  have HSH := Lib.hid hS
  have HPO := Lib.hid hp
  have HOK : Hid (∀ i, i < L → offOK (str l) (m : Int) (i : Int) = true) := fun i hi => off_ok hp (by omega)
  clear hZ hps hp' hp hS
  have HLS := Lib.hid hLs
  have HL := Lib.hid hL
  clear hLs hL
  go_wp2_with fail
  refine (HPL.out _).mono ?_
  rintro e y1 ⟨rfl, k⟩
  replace hb := below_next hb k
  clear k c0 c1
  obtain ⟨c0, c1⟩ := HT.out _ hb
  go_wp2_with fail
  refine (HPS.out _).mono ?_
  rintro e U ⟨v9, rfl, hs9, k9⟩
  have hb9 := below_next hb k9
  obtain ⟨A, c, rfl, hr9, hcp9⟩ := hs9.reads
  have HBU := Lib.hid (HBW.out.trans (hb9.mono hW0))
  have hwU : w.heap.size ≤ U.heap.size := HBU.out.size
  have HR : Hid (∀ u : World, Below U.heap.size U u → Reads u u.heap.size A Z) := fun u hu => (hr9.keep (fun p hp => hu.cell hp)).more hu.size
  have HTU : Hid (∀ u : World, Below U.heap.size U u → u.cell? ⟨w1.heap.size, 0, none⟩ = some (.string (str l)) ∧ u.cell? ⟨w1.heap.size, 1, none⟩ = some (.int .i64 (m : Int))) := fun u hu => HT.out u (below_next hb9 hu)
  clear hb hb9 k9 hs9 hr9 hcp9 c0 c1 HT HPS
  have HT := HTU
  clear HTU
  have hb := Below.refl U.heap.size U
  obtain ⟨c0, c1⟩ := HT.out _ hb
  have HPSL : Hid (∀ u : World, Calls Try.prog 34 #[.agg #[.string (str l), .int .i64 (m : Int)]] u fun e w' => e = .returned (.int .i64 (L : Int)) ∧ Below u.heap.size u w') := fun u => by
    have h := plenS_any (str l) (m : Int) u hm
    rw [pilotLen_yes HPO.out] at h
    have e : ((str l).size : Int) * (m : Int) = (L : Int) := by rw [HLS.out]; simp
    rw [e] at h
    exact h
  have HOD : Hid (∀ (i : Nat) (u : World), i < L → Calls Try.prog 29 #[.agg #[.string (str l), .int .i64 (m : Int)], .int .i64 (a : Int), .int .i64 (i : Int)] u fun e w' => e = .returned (.int .i64 (dN L a i : Int)) ∧ Below u.heap.size u w') := fun i u hi => by
    have h := distI_any (str l) (m : Int) (a : Int) (i : Int) u hm
    rw [off_dN HLS.out HPO.out haL hi] at h
    exact h
  have HSC : Hid (∀ (i : Nat) (u : World), i < L → Below U.heap.size U u → Calls Try.prog 14 #[.slice A Z.length c, .agg #[.string (str l), .int .i64 (m : Int)], .int .i64 (i : Int)] u fun e w' => e = .returned (.int .i64 ((g : Int) * corr l m a i)) ∧ Below u.heap.size u w') := fun i u hi hu => by
    have h := ssScore_any A c Z (str l) (m : Int) (i : Int) u (HR.out u hu) hZ6 hm
    rw [scoreV_yes hZs (HOK.out i hi), HSCO.out i] at h
    exact h
  have hbest : bestI (tableL Z (str l) (m : Int)) = (a : Int) := by
    rw [table_tab hZs HPO.out]
    have hlen : (tabL Z (str l).data.toList m).length = L := by unfold tabL; rw [List.length_map, List.length_range, data_length, ← HLS.out]
    have hget : ∀ i, i < L → (tabL Z (str l).data.toList m).getD i 0 = (g : Int) * corr l m a i := fun i hi => by
      rw [← HSCO.out i]; unfold tabL; rw [data_length, ← HLS.out]; simp [List.getD_eq_getElem?_getD, hi]
    rw [bestI_some (by omega), hlen, best_uniq (a := a) (by omega) (fun i hi hne => by
      rw [hget i (by omega), hget a haL]
      exact Int.mul_lt_mul_of_pos_left (by rw [corr_own HL.out HSH.out (by omega) haL]; exact corr_less HL.out HSH.out (by omega) haL (by omega) hne) (by omega))]
  have HBI : Hid (∀ u : World, Below U.heap.size U u → Calls Try.prog 35 #[.slice A Z.length c, .agg #[.string (str l), .int .i64 (m : Int)]] u fun e w' => e = .returned (.int .i64 (a : Int)) ∧ Below u.heap.size u w') := fun u hu => by
    have h := bestI_any A c Z (str l) (m : Int) u (HR.out u hu) hZ6 hm
    rw [hbest] at h
    exact h
  have HBS : Hid (∀ u : World, Below U.heap.size U u → Calls Try.prog 36 #[.slice A Z.length c, .agg #[.string (str l), .int .i64 (m : Int)]] u fun e w' => e = .returned (.int .i64 (a : Int)) ∧ Below u.heap.size u w') := fun u hu => by
    have h := bestS_any A c Z (str l) (m : Int) u (HR.out u hu) hZ6 hm
    rw [hbest] at h
    exact h
  have HDUE : Hid (∀ i, i < L → corr l m a i = if dN L a i < m then (L : Int) - (dN L a i : Int) * ((l.length : Int) + 1) else -(m : Int)) := fun i hi => corr_dN HL.out HSH.out (by omega) haL hi
  have HDL : Hid (∀ i, i < L → dN L a i ≤ L / 2) := fun i hi => dN_le haL hi
  obtain ⟨n, hn⟩ : ∃ n, n = (str l).size := ⟨_, rfl⟩
  have hnl : n = l.length := by rw [hn, zl]
  have hzs : ((str l).size : Int) = (n : Int) := by rw [hn]
  have hn31 : n ≤ 31 := by omega
  have HNL := Lib.hid hnl
  rw [hZl] at HSC HBI HBS ⊢
  clear hbest HR HOK HSCO hZs hZ6 hZl zl hn hnl hl31 hm h3 hwW
  go_wp2_with fail
  refine (HPSL.out _).mono ?_
  rintro e y2 ⟨rfl, k⟩
  replace hb := below_next hb k
  clear k c0 c1
  obtain ⟨c0, c1⟩ := HT.out _ hb
  go_wp2
  go_loopw [11, 12, 13] (fun i _ _ wr => ∃ k : Nat, i = .int .i64 (k : Int) ∧ k ≤ L ∧ Below U.heap.size U wr) (fun i _ _ _ => L - (intOf i).toNat)
  case atStart => exact ⟨0, rfl, Nat.zero_le _, hb⟩
  case round =>
    clear hb c0 c1
    obtain ⟨k, rfl, hk, hb⟩ := hrel
    obtain ⟨c0, c1⟩ := HT.out _ hb
    by_cases hlt : k < L
    · have hdl := HDL.out k hlt
      have hdue := HDUE.out k hlt
      have HO := HOD.out k
      have HS := HSC.out k
      obtain ⟨D, hD⟩ : ∃ D, D = dN L a k := ⟨_, rfl⟩
      obtain ⟨S, hSe⟩ : ∃ S, S = (g : Int) * corr l m a k := ⟨_, rfl⟩
      rw [← hD] at hdl hdue HO
      rw [← hSe] at HS
      have HO := Lib.hid HO
      have HS := Lib.hid HS
      rw [← HNL.out] at hdue
      by_cases hdm : D < m
      · rw [if_pos hdm] at hdue
        obtain ⟨X, hX⟩ : ∃ X : Nat, X = D * (n + 1) := ⟨_, rfl⟩
        have hXb : X ≤ 93 * 32 := by rw [hX]; exact Nat.mul_le_mul (by omega) (by omega)
        have x1 : (D : Int) * ((n : Int) + 1) = (X : Int) := by rw [hX]; simp
        rw [x1] at hdue
        have x2 : (g : Int) * ((L : Int) - (X : Int)) = S := by rw [hSe, hdue]
        have hSb : -30000 ≤ S ∧ S ≤ 30000 := by
          have h1 : ((g : Int) * ((L : Int) - (X : Int))).natAbs ≤ 9 * 3000 := by rw [Int.natAbs_mul]; exact Nat.mul_le_mul (by omega) (by omega)
          omega
        have y1 : IntKind.i64.wrap S = S := IntWalk.i64_in _ (by omega)
        obtain ⟨s1, s2⟩ := hSb
        have q1 := sq_small (g := g) (m := m) hg9 hm6
        clear hX hdue hSe hD
        go_wp2_with fail
        refine (HO.out _ hlt).mono ?_
        rintro e y3 ⟨rfl, k⟩
        replace hb := below_next hb k
        clear k c0 c1
        obtain ⟨c0, c1⟩ := HT.out _ hb
        go_wp2_with fail
        refine (HS.out _ hlt hb).mono ?_
        rintro e y4 ⟨rfl, k⟩
        replace hb := below_next hb k
        clear k c0 c1
        obtain ⟨c0, c1⟩ := HT.out _ hb
        go_wp2
        go_roundw
        case rel => exact ⟨k + 1, by go_num, by omega, hb⟩
        case measure => simp [intOf]; omega
      · rw [if_neg hdm] at hdue
        have x2 : -(g : Int) * (m : Int) = S := by rw [hSe, hdue, Int.neg_mul, Int.mul_neg]
        have q1 := sq_small (g := g) (m := m) hg9 hm6
        have hSb : -100 ≤ S ∧ S ≤ 0 := by rw [← x2, Int.neg_mul]; omega
        have y1 : IntKind.i64.wrap S = S := IntWalk.i64_in _ (by omega)
        obtain ⟨s1, s2⟩ := hSb
        clear hdue hSe hD
        go_wp2_with fail
        refine (HO.out _ hlt).mono ?_
        rintro e y5 ⟨rfl, k⟩
        replace hb := below_next hb k
        clear k c0 c1
        obtain ⟨c0, c1⟩ := HT.out _ hb
        go_wp2_with fail
        refine (HS.out _ hlt hb).mono ?_
        rintro e y6 ⟨rfl, k⟩
        replace hb := below_next hb k
        clear k c0 c1
        obtain ⟨c0, c1⟩ := HT.out _ hb
        go_wp2
        go_roundw
        case rel => exact ⟨k + 1, by go_num, by omega, hb⟩
        case measure => simp [intOf]; omega
    · go_wp2_with fail
      refine (HBI.out _ hb).mono ?_
      rintro e y7 ⟨rfl, k⟩
      replace hb := below_next hb k
      clear k c0 c1
      obtain ⟨c0, c1⟩ := HT.out _ hb
      go_wp2_with fail
      refine (HBS.out _ hb).mono ?_
      rintro e y8 ⟨rfl, k⟩
      replace hb := below_next hb k
      clear k c0 c1
      obtain ⟨c0, c1⟩ := HT.out _ hb
      go_wp2
      go_ret
      exact ⟨rfl, HBU.out.trans (hb.mono hwU)⟩
end Go.Proofs.Ytmecbiphejjkmaa.fnScoreShape
