/- The walk of the law FnBestOffset: the best offset is the first one with the greatest score, and does not depend on the gain. -/
import Derived.Test.YtholipfekecloaaDrawF
import Derived.Test.YtholipfekecloaaSsC
import Derived.Test.YtholipfekecloaaScale
import Derived.Deep.QuietTactic
import Derived.BigQuiet
namespace Go.Proofs.Ytholipfekecloaa.fnBestOffset
set_option maxRecDepth 20000
open Go.ChangeShapes Go.WideShapes Go.ChangeAt Go.RowKit
set_option linter.unusedVariables false
set_option linter.unusedSimpArgs false

theorem relB {P : Program} {f : FuncId} {args : Array Value} {W0 u : World} {v : Value} (hu : Below W0.heap.size W0 u) (h : Calls P f args u fun e u' => e = .returned v ∧ Below u.heap.size u u') :
    Calls P f args u fun e u' => e = .returned v ∧ Below W0.heap.size W0 u' := h.mono fun e u' ⟨a, b⟩ => ⟨a, below_next hu b⟩
theorem two_at {W u : World} {b : Nat} {x y : Value} (h : Two W b x y) (hb : Below W.heap.size W u) : u.cell? ⟨b, 0, none⟩ = some x ∧ u.cell? ⟨b, 1, none⟩ = some y := by
  have := h.below hb
  exact ⟨this.1, this.2.1⟩
theorem bestI_none {l : List Int} (h : l.length = 0) : bestI l = -1 := if_pos h
theorem bestI_some {l : List Int} (h : 1 ≤ l.length) : bestI l = (bestN l (l.length - 1) : Int) := if_neg (by omega)

set_option maxHeartbeats 16000000 in
theorem walk (a0 : Option Addr) (len0 cap0 : Nat) (z0 : List Int) (a1 : Option Addr) (len1 cap1 : Nat) (z1 : List Int) (w : World) (hw0 : IsRow .u8 w a0 len0 cap0 z0) (hw1 : IsRow .u8 w a1 len1 cap1 z1) :
    Calls Try.prog 9 #[.slice a0 len0 cap0, .slice a1 len1 cap1] w fun e w' => e = .returned (.bool true) ∧ Below w.heap.size w w' := by
  by_cases hlen : len0 ≤ 1048576
  rotate_left
  · go_enter Try.func9, Try.ntmps9
    go_wp2
    go_ret
    exact ⟨rfl, Below.refl _ _⟩
  by_cases hlen1 : len1 ≤ 1048576
  rotate_left
  · go_enter Try.func9, Try.ntmps9
    go_wp2
    go_ret
    exact ⟨rfl, Below.refl _ _⟩
  go_enter Try.func9, Try.ntmps9
  go_wp2_with fail
  refine (drawBestOffset_any _ _ _ _ _ hw0).mono ?_
  rintro e w1 ⟨v, z, l, m, rfl, ⟨⟨hl, hm1, hm9⟩, hsl, hzl⟩, hb1⟩
  clear hw0
  obtain ⟨A, c, rfl, hr, hzc⟩ := hsl.reads
  have zl := str_size l
  have hm : (str l).size ≤ maxLen := by unfold maxLen; omega
  obtain ⟨W, hW⟩ : ∃ W, W = w1.alloc (.cells #[.string (str l), .int .i64 m] 24) := ⟨_, rfl⟩
  have HT : Hid (∀ u : World, Below W.heap.size W u → u.cell? ⟨w1.heap.size, 0, none⟩ = some (.string (str l)) ∧ u.cell? ⟨w1.heap.size, 1, none⟩ = some (.int .i64 m)) := fun u hu => two_at (by rw [hW]; exact Two.box _ _ _) hu
  have HBW : Hid (Below w.heap.size w W) := by rw [hW]; exact hb1.alloc hb1.size _
  have hW0 : w.heap.size ≤ W.heap.size := HBW.out.size
  have HR : Hid (∀ u : World, Below W.heap.size W u → Reads u u.heap.size A z) := fun u hu => by rw [hW] at hu; exact reads_up hr hu
  have hz6 : z.length ≤ 1048576 := by omega
  have hwW : w1.heap.size < W.heap.size := by rw [hW]; simp
  go_wp2_with fail
  rw [← hW]
  have hb := Below.refl W.heap.size W
  obtain ⟨c0, c1⟩ := HT.out _ hb
  clear hW hsl hr hb1
  have HBI : Hid (∀ u : World, Below W.heap.size W u → Calls Try.prog 43 #[.slice A z.length c, .agg #[.string (str l), .int .i64 m]] u fun e w' => e = .returned (.int .i64 (bestI (tableL z (str l) m))) ∧ Below u.heap.size u w') := fun u hu => bestI_any A c z (str l) m u (HR.out u hu) hz6 hm
  have HBS : Hid (∀ u : World, Below W.heap.size W u → Calls Try.prog 44 #[.slice A z.length c, .agg #[.string (str l), .int .i64 m]] u fun e w' => e = .returned (.int .i64 (bestI (tableL z (str l) m))) ∧ Below u.heap.size u w') := fun u hu => bestS_any A c z (str l) m u (HR.out u hu) hz6 hm
  have HTB : Hid (∀ u : World, Below W.heap.size W u → Calls Try.prog 41 #[.slice A z.length c, .agg #[.string (str l), .int .i64 m]] u (RetL (tableL z (str l) m) u)) := fun u hu => tabI_any A c z (str l) m u (HR.out u hu) hz6 hm
  have HSC : Hid (∀ (g : Int) (u : World), Below W.heap.size W u → Calls Try.prog 45 #[.slice A z.length c, .int .i64 g] u (RetLB (scL z g) (scOK z g) u)) := fun g u hu => scaleI_any A c z g u (HR.out u hu) hz6
  have HB2 : Hid (∀ (z' : List Int) (A' : Option Addr) (c' : Nat) (u : World), Reads u u.heap.size A' z' → z'.length ≤ 1048576 → Calls Try.prog 43 #[.slice A' z'.length c', .agg #[.string (str l), .int .i64 m]] u fun e w' => e = .returned (.int .i64 (bestI (tableL z' (str l) m))) ∧ Below u.heap.size u w') := fun z' A' c' u hr' hl' => bestI_any A' c' z' (str l) m u hr' hl' hm
  clear HR hw1
  cases hv : (sigOK z && pilotOK (str l).data.toList m) with
  | false =>
    have hno : bestI (tableL z (str l) m) = -1 := by rw [tableL_no hv]; rfl
    rw [hno] at HBI HBS
    go_wp2_with fail
    refine (HBI.out _ hb).mono ?_
    rintro e y1 ⟨rfl, k⟩
    replace hb := below_next hb k
    clear k c0 c1
    obtain ⟨c0, c1⟩ := HT.out _ hb
    go_wp2_with fail
    refine (HBS.out _ hb).mono ?_
    rintro e y2 ⟨rfl, k⟩
    replace hb := below_next hb k
    clear k c0 c1
    obtain ⟨c0, c1⟩ := HT.out _ hb
    go_wp2_with fail
    refine (HBS.out _ hb).mono ?_
    rintro e y3 ⟨rfl, k⟩
    replace hb := below_next hb k
    clear k c0 c1
    obtain ⟨c0, c1⟩ := HT.out _ hb
    go_wp2
    go_ret
    exact ⟨rfl, HBW.out.trans (hb.mono hW0)⟩
  | true =>
    have hzp := hv
    rw [Bool.and_eq_true] at hzp
    obtain ⟨hz, hp⟩ := hzp
    obtain ⟨mm, rfl, h1, h2, h3, h4, h5, h6⟩ := pilot_nat hp
    obtain ⟨L, hLe⟩ : ∃ L, L = (str l).size * mm := ⟨_, rfl⟩
    have hTL : tableL z (str l) (mm : Int) = tabL z (str l).data.toList mm := by unfold tableL; rw [hv]; simp
    have hTl : (tabL z (str l).data.toList mm).length = L := by unfold tabL; rw [List.length_map, List.length_range, data_length, hLe]
    rw [← hLe] at h5 h6
    rw [hTL] at HTB HBI HBS
    rw [bestI_some (by omega), hTl] at HBI HBS
    have HSB : Hid (∀ g : Int, 0 < g → scOK z g = true → bestI (tableL (scL z g) (str l) (mm : Int)) = (bestN (tabL z (str l).data.toList mm) (L - 1) : Int)) := fun g hg hs => by
      have e1 : tableL (scL z g) (str l) (mm : Int) = mulL (tabL z (str l).data.toList mm) g := by
        rw [scL_yes hs, ← tab_mul]
        unfold tableL
        rw [(sc_parts hs).2, hp]
        simp
      have e2 : (mulL (tabL z (str l).data.toList mm) g).length = L := by unfold mulL; rw [List.length_map, hTl]
      rw [e1, bestI_some (by omega), e2, best_mul _ _ hg]
    obtain ⟨F, hF⟩ : ∃ F, F = tabL z (str l).data.toList mm := ⟨_, rfl⟩
    rw [← hF] at HTB HBI HBS HSB hTl
    obtain ⟨K, hK⟩ : ∃ K, K = bestN F (L - 1) := ⟨_, rfl⟩
    have hKL : K < L := by rw [hK]; have := bestN_le F (L - 1); omega
    have HBE : Hid (∀ i, i < L → F.getD i 0 ≤ F.getD K 0 ∧ (i < K → F.getD i 0 < F.getD K 0)) := fun i hi => by rw [hK]; exact best_spec F (L - 1) i (by omega)
    rw [← hK] at HBI HBS HSB
    have HSCL : Hid (∀ g, (scL z g).length ≤ 1048576) := fun g => by unfold scL; split <;> simp [mulL]; omega
    clear hK hF hTL hLe hp hz hv
    go_wp2_with fail
    refine (HBI.out _ hb).mono ?_
    rintro e y4 ⟨rfl, k⟩
    replace hb := below_next hb k
    clear k c0 c1
    obtain ⟨c0, c1⟩ := HT.out _ hb
    go_wp2_with fail
    refine (HBS.out _ hb).mono ?_
    rintro e y5 ⟨rfl, k⟩
    replace hb := below_next hb k
    clear k c0 c1
    obtain ⟨c0, c1⟩ := HT.out _ hb
    go_wp2_with fail
    refine (HTB.out _ hb).mono ?_
    rintro e U ⟨v9, rfl, hs9, k9⟩
    have hb9 := below_next hb k9
    obtain ⟨A9, p9, rfl, hr9, hcp9⟩ := hs9.reads
    have HR9 := Lib.hid hr9
    have HBU := Lib.hid hb9
    have hWU : W.heap.size ≤ U.heap.size := hb9.size
    rw [hTl]
    clear hb hb9 k9 c0 c1 hs9 hr9 hcp9 HBI HBS HTB hwW
    have hb := Below.refl U.heap.size U
    go_wp2
    go_loopw [9] (fun i wr => ∃ k : Nat, i = .int .i64 (k : Int) ∧ k ≤ L ∧ Below U.heap.size U wr) (fun i _ => L - (intOf i).toNat)
    case atStart => exact ⟨0, rfl, Nat.zero_le _, hb⟩
    case round =>
      clear hb
      obtain ⟨k, rfl, hk, hb⟩ := hrel
      by_cases hlt : k < L
      · obtain ⟨ad, rfl, hadb, hcell⟩ := HR9.out (by omega)
        have c2 := hcell k (by omega)
        have c3 := hcell K (by omega)
        have hbe := HBE.out k hlt
        obtain ⟨x, hx⟩ : ∃ x, x = F.getD k 0 := ⟨_, rfl⟩
        obtain ⟨y, hy⟩ : ∃ y, y = F.getD K 0 := ⟨_, rfl⟩
        rw [← hx, ← hy] at hbe
        rw [← hx] at c2
        rw [← hy] at c3
        have c2' : wr.cell? (ad.add k) = some (.int .i64 x) := by rw [hb.cell (by rw [add_block]; exact hadb)]; exact c2
        have c3' : wr.cell? (ad.add K) = some (.int .i64 y) := by rw [hb.cell (by rw [add_block]; exact hadb)]; exact c3
        obtain ⟨e1, e2⟩ := hbe
        have d1 : decide (y < x) = false := decide_eq_false (by omega)
        clear hx hy c2 c3 hcell
        by_cases hkK : k < K
        · have d2 : decide ((k : Int) < (K : Int)) = true := decide_eq_true (by omega)
          have e3 := e2 hkK
          have d3 : (x == y) = false := by rw [beq_eq_false_iff_ne]; omega
          clear e1 e2 e3
          go_wp2
          go_quiet (fail)
          go_wp2
          go_roundw
          case rel => exact ⟨k + 1, by go_num, by omega, Below.drewN hb _⟩
          case measure => simp [intOf]; omega
        · have d2 : decide ((k : Int) < (K : Int)) = false := decide_eq_false (by omega)
          clear e1 e2
          go_wp2
          go_quiet (fail)
          go_wp2
          go_roundw
          case rel => exact ⟨k + 1, by go_num, by omega, Below.drewN hb _⟩
          case measure => simp [intOf]; omega
      · have hbW := below_next HBU.out hb
        clear HR9 HBE
        obtain ⟨g, hg⟩ : ∃ g : Int, g = 1 + (len1 : Int) % 5 := ⟨_, rfl⟩
        have hg1 : 0 < g := by omega
        have HG := Lib.hid hg
        clear hg
        go_wp2_with fail
        rw [← HG.out]
        refine (HSC.out g _ hbW).mono ?_
        rintro e V ⟨v3, rfl, hs3, k3⟩
        obtain ⟨A3, p3, rfl, hr3, hcp3⟩ := hs3.reads
        have hb3 := below_next hbW k3
        clear hbW k3 hs3 hb
        cases hsc : scOK z g with
        | false =>
          clear hr3
          go_wp2
          go_ret
          exact ⟨rfl, HBW.out.trans (hb3.mono hW0)⟩
        | true =>
          have HBB := HB2.out (scL z g) A3 p3 V hr3 (HSCL.out g)
          rw [HSB.out g hg1 hsc] at HBB
          have HBB := Lib.hid HBB
          obtain ⟨c0, c1⟩ := HT.out _ hb3
          clear hr3 HSB HB2 HSC
          go_wp2_with fail
          refine HBB.out.mono ?_
          rintro e y5 ⟨rfl, k5⟩
          have hb5 := below_next hb3 k5
          go_wp2
          go_ret
          exact ⟨rfl, HBW.out.trans (hb5.mono hW0)⟩
end Go.Proofs.Ytholipfekecloaa.fnBestOffset
