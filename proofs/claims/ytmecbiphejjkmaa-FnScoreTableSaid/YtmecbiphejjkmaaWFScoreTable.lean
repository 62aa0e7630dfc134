/- The walk of the law FnScoreTable: the table has the score of each offset, and that of a pilot with an offset is the table without it, shifted. -/
import Derived.Test.YtmecbiphejjkmaaDrawF
import Derived.Test.YtmecbiphejjkmaaSsC
import Derived.Test.YtmecbiphejjkmaaPsc
import Derived.Test.YtmecbiphejjkmaaSsI
import Derived.Test.YtmecbiphejjkmaaPath
import Derived.Deep.QuietTactic
import Derived.BigQuiet
namespace Go.Proofs.Ytmecbiphejjkmaa.fnScoreTable
set_option maxRecDepth 20000
open Go.ChangeShapes Go.WideShapes Go.ChangeAt Go.RowKit
set_option linter.unusedVariables false
set_option linter.unusedSimpArgs false

theorem relB {P : Program} {f : FuncId} {args : Array Value} {W0 u : World} {v : Value} (hu : Below W0.heap.size W0 u) (h : Calls P f args u fun e u' => e = .returned v ∧ Below u.heap.size u u') :
    Calls P f args u fun e u' => e = .returned v ∧ Below W0.heap.size W0 u' := h.mono fun e u' ⟨a, b⟩ => ⟨a, below_next hu b⟩
theorem two_at {W u : World} {b : Nat} {x y : Value} (h : Two W b x y) (hb : Below W.heap.size W u) : u.cell? ⟨b, 0, none⟩ = some x ∧ u.cell? ⟨b, 1, none⟩ = some y := by
  have := h.below hb
  exact ⟨this.1, this.2.1⟩
theorem relR {P : Program} {f : FuncId} {args : Array Value} {W0 u : World} {l : List Int} (hu : Below W0.heap.size W0 u) (h : Calls P f args u (RetL l u)) :
    Calls P f args u fun e u' => ∃ v, e = .returned v ∧ Sl u' u.heap.size u'.heap.size v l ∧ Below W0.heap.size W0 u' := h.mono fun e u' ⟨v, a, s, b⟩ => ⟨v, a, s, below_next hu b⟩
theorem tab_get (z : List Int) (l : List UInt8) (m : Nat) {q : Nat} (h : q < l.length * m) : (tabL z l m).getD q 0 = score z l m q 0 := by unfold tabL; simp [List.getD_eq_getElem?_getD, h]
theorem tab_len (z : List Int) (l : List UInt8) (m : Nat) : (tabL z l m).length = l.length * m := by unfold tabL; simp
theorem table_tab {z : List Int} {s : ByteArray} {m : Nat} (hz : sigOK z = true) (hp : pilotOK s.data.toList (m : Int) = true) : tableL z s (m : Int) = tabL z s.data.toList m := by unfold tableL; rw [hz, hp]; simp

set_option maxHeartbeats 16000000 in
theorem walk (a0 : Option Addr) (len0 cap0 : Nat) (z0 : List Int) (a1 : Option Addr) (len1 cap1 : Nat) (z1 : List Int) (w : World) (hw0 : IsRow .u8 w a0 len0 cap0 z0) (hw1 : IsRow .u8 w a1 len1 cap1 z1) :
    Calls Try.prog 3 #[.slice a0 len0 cap0, .slice a1 len1 cap1] w fun e w' => e = .returned (.bool true) ∧ Below w.heap.size w w' := by
  by_cases hlen : len0 ≤ 1048576
  rotate_left
  · go_enter Try.func3, Try.ntmps3
    go_wp2
    go_ret
    exact ⟨rfl, Below.refl _ _⟩
  by_cases hlen1 : len1 ≤ 1048576
  rotate_left
  · go_enter Try.func3, Try.ntmps3
    go_wp2
    go_ret
    exact ⟨rfl, Below.refl _ _⟩
  go_enter Try.func3, Try.ntmps3
  go_wp2_with fail
  refine (drawScoreTable_any _ _ _ _ _ hw0).mono ?_
  rintro e w1 ⟨v, z, l, m, rfl, ⟨⟨hl, hm1, hm9⟩, hsl, hzl⟩, hb1⟩
  clear hw0
  obtain ⟨A, c, rfl, hr, hzc⟩ := hsl.reads
  have zl := str_size l
  have hm : (str l).size ≤ maxLen := by unfold maxLen; omega
  obtain ⟨W, hW⟩ : ∃ W, W = w1.alloc (.cells #[.string (str l), .int .i64 m] 25) := ⟨_, rfl⟩
  have HT : Hid (∀ u : World, Below W.heap.size W u → u.cell? ⟨w1.heap.size, 0, none⟩ = some (.string (str l)) ∧ u.cell? ⟨w1.heap.size, 1, none⟩ = some (.int .i64 m)) := fun u hu => two_at (by rw [hW]; exact Two.box _ _ _) hu
  have HBW : Hid (Below w.heap.size w W) := by rw [hW]; exact hb1.alloc hb1.size _
  have hW0 : w.heap.size ≤ W.heap.size := HBW.out.size
  have HR : Hid (∀ u : World, Below W.heap.size W u → Reads u u.heap.size A z) := fun u hu => by rw [hW] at hu; exact reads_up hr hu
  have hz6 : z.length ≤ 1048576 := by omega
  have hwW : w1.heap.size < W.heap.size := by rw [hW]; simp
  go_wp2_with fail
  rw [← hW]
  have hb := Below.refl W.heap.size W
  obtain ⟨c0, c1⟩ := HT.out _ hb
  clear hW hsl hr hb1
  have HTB : Hid (∀ u : World, Below W.heap.size W u → Calls Try.prog 11 #[.slice A z.length c, .agg #[.string (str l), .int .i64 m]] u (RetL (tableL z (str l) m) u)) := fun u hu => tabI_any A c z (str l) m u (HR.out u hu) hz6 hm
  have HTS : Hid (∀ u : World, Below W.heap.size W u → Calls Try.prog 13 #[.slice A z.length c, .agg #[.string (str l), .int .i64 m]] u (RetL (tableL z (str l) m) u)) := fun u hu => tabS_any A c z (str l) m u (HR.out u hu) hz6 hm
  obtain ⟨F, hF⟩ : ∃ F, F = tableL z (str l) m := ⟨_, rfl⟩
  have hFb : F.length ≤ 1048576 := by rw [hF]; have := tableL_len z (str l) m; omega
  have HFE := Lib.hid hF
  rw [← hF] at HTS HTB
  clear hw1 hF
  go_wp2_with fail
  refine (HTB.out _ hb).mono ?_
  rintro e U1 ⟨v9, rfl, hs9, k9⟩
  have hb9 := below_next hb k9
  have HS9 := Lib.hid hs9
  clear hb hs9 k9 c0 c1
  obtain ⟨c0, c1⟩ := HT.out _ hb9
  go_wp2_with fail
  refine (HTS.out _ hb9).mono ?_
  rintro e U2 ⟨v8, rfl, hs8, k8⟩
  have hb8 := below_next hb9 k8
  have HS92 := Lib.hid (HS9.out.below k8 (Nat.le_refl _))
  have hU12 := k8.size
  have HEQ := Lib.hid (ssIntsS_any HS92.out hs8 hU12 (Nat.le_refl _) hFb)
  clear hb9 hs8 k8 c0 c1
  go_wp2_with fail
  refine HEQ.out.mono ?_
  rintro e U3 ⟨rfl, k7⟩
  have hb7 := below_next hb8 k7
  have HS93 := Lib.hid (HS92.out.below k7 hU12)
  have hU23 := k7.size
  obtain ⟨A9, p9, rfl, hr9, hcp9⟩ := HS93.out.reads
  have HR9 := Lib.hid hr9
  clear hb8 k7 HS92 HS9 HEQ hr9
  cases hv : (sigOK z && pilotOK (str l).data.toList m) with
  | false =>
    have hF0 : F.length = 0 := by rw [HFE.out, tableL_no hv]; rfl
    rw [hF0]
    rw [hF0] at HS93
    obtain ⟨c0, c1⟩ := HT.out _ hb7
    go_wp2_with fail
    refine (HTS.out _ hb7).mono ?_
    rintro e U4 ⟨v6, rfl, hs6, k6⟩
    have hb6 := below_next hb7 k6
    have HEQ := Lib.hid (ssIntsS_any (HS93.out.below k6 (Nat.le_trans hU12 hU23)) hs6 (Nat.le_trans (Nat.le_trans hU12 hU23) k6.size) (Nat.le_refl _) hFb)
    clear hb7 hs6 k6 c0 c1
    go_wp2_with fail
    refine HEQ.out.mono ?_
    rintro e U5 ⟨rfl, k5⟩
    have hb5 := below_next hb6 k5
    go_wp2
    go_ret
    exact ⟨rfl, HBW.out.trans (hb5.mono hW0)⟩
  | true =>
    rw [Bool.and_eq_true] at hv
    obtain ⟨hz, hp⟩ := hv
    obtain ⟨mm, rfl, h1, h2, h3, h4, h5, h6⟩ := pilot_nat hp
    obtain ⟨L, hLe⟩ : ∃ L, L = (str l).size * mm := ⟨_, rfl⟩
    have hLd : (str l).data.toList.length * mm = L := by rw [data_length, hLe]
    rw [← hLe] at h5 h6
    have hF2 : F = tabL z (str l).data.toList mm := by rw [HFE.out, table_tab hz hp]
    have hFl : F.length = L := by rw [hF2, tab_len, hLd]
    have HFV : Hid (∀ k, k < L → F.getD k 0 = score z (str l).data.toList mm k 0) := fun k hk => by rw [hF2, tab_get _ _ _ (by rw [hLd]; exact hk)]
    have HSC : Hid (∀ (k : Nat) (u : World), k < L → Below W.heap.size W u → Calls Try.prog 14 #[.slice A z.length c, .agg #[.string (str l), .int .i64 (mm : Int)], .int .i64 (k : Int)] u fun e w' => e = .returned (.int .i64 (score z (str l).data.toList mm k 0)) ∧ Below u.heap.size u w') := fun k u hk hu => by
      have := ssScore_any A c z (str l) (mm : Int) (k : Int) u (HR.out u hu) hz6 hm
      rw [scoreV_yes hz (off_ok hp (by rw [← hLe]; exact hk))] at this
      exact this
    have HPL : Hid (∀ u : World, Calls Try.prog 16 #[.agg #[.string (str l), .int .i64 (mm : Int)]] u fun e w' => e = .returned (.int .i64 (L : Int)) ∧ Below u.heap.size u w') := fun u => by rw [hLe]; exact plenI_nat u hp hm
    have HPO : Hid (∀ k, k < L → psOK (str l) (mm : Int) (k : Int) (L : Int) 2 = true) := fun k hk => ps_ok (off_ok hp (by rw [← hLe]; exact hk)) ⟨by omega, by omega⟩ ⟨by omega, by omega⟩
    have HPS : Hid (∀ (k : Nat) (u : World), Calls Try.prog 15 #[.agg #[.string (str l), .int .i64 (mm : Int)], .int .i64 (k : Int), .int .i64 (L : Int), .int .i64 2] u (RetL (psL (str l) (mm : Int) (k : Int) (L : Int) 2) u)) := fun k u => ssPilot_any (str l) (mm : Int) (k : Int) (L : Int) 2 u hm
    have HTZ : Hid (∀ (k : Nat) (A' : Option Addr) (c' : Nat) (u : World), k < L → Reads u u.heap.size A' (psL (str l) (mm : Int) (k : Int) (L : Int) 2) → Calls Try.prog 11 #[.slice A' L c', .agg #[.string (str l), .int .i64 (mm : Int)]] u (RetL (tabL (psL (str l) (mm : Int) (k : Int) (L : Int) 2) (str l).data.toList mm) u)) := fun k A' c' u hk hr => by
      have := tabI_any A' c' (psL (str l) (mm : Int) (k : Int) (L : Int) 2) (str l) (mm : Int) u hr (by rw [ps_length (HPO.out k hk)]; omega) hm
      rw [table_tab (ps_sig (HPO.out k hk)) hp, ps_length (HPO.out k hk)] at this
      exact this
    have HTV : Hid (∀ k q, k < L → q < L → (tabL (psL (str l) (mm : Int) (k : Int) (L : Int) 2) (str l).data.toList mm).getD q 0 = 2 * corr (str l).data.toList mm k q) := fun k q hk hq => by
      rw [tab_get _ _ _ (by rw [hLd]; exact hq), ps_score (HPO.out k hk) (by omega)]
    have HTN : Hid (∀ k, (tabL (psL (str l) (mm : Int) (k : Int) (L : Int) 2) (str l).data.toList mm).length = L) := fun k => by rw [tab_len, hLd]
    have HPN : Hid (∀ k, k < L → (psL (str l) (mm : Int) (k : Int) (L : Int) 2).length = L) := fun k hk => ps_length (HPO.out k hk)
    obtain ⟨o, ho⟩ : ∃ o : Nat, o = 0 := ⟨0, rfl⟩
    have ho' : ((o : Nat) : Int) = 0 := by omega
    have hoL : o < L := by omega
    have HP0 : Hid (∀ u : World, Calls Try.prog 15 #[.agg #[.string (str l), .int .i64 (mm : Int)], .int .i64 0, .int .i64 (L : Int), .int .i64 2] u (RetL (psL (str l) (mm : Int) (o : Int) (L : Int) 2) u)) := fun u => by
      have := HPS.out o u
      rw [ho'] at this ⊢
      exact this
    have HSH : Hid (∀ k i, k < L → i < L → corr (str l).data.toList mm k ((i + k) % L) = corr (str l).data.toList mm o i) := fun k i hk hi => by
      rw [ho]
      have := corr_shift (l := (str l).data.toList) (m := mm) (k := k) (i := i) (by omega) (by omega)
      rw [hLd] at this
      exact this
    rw [hFl] at HS93 ⊢
    have hcp9' : L ≤ p9 := by rw [← hFl]; exact hcp9
    obtain ⟨ad, rfl, hadb, hcell⟩ := HR9.out (by omega)
    have HCL : Hid (∀ (k : Nat) (u : World), k < L → Below U3.heap.size U3 u → u.cell? (ad.add k) = some (.int .i64 (score z (str l).data.toList mm k 0))) := fun k u hk hu => by
      rw [hu.cell (by rw [add_block]; omega), hcell k (by omega), HFV.out k hk]
    have HTU : Hid (∀ u : World, Below U3.heap.size U3 u → u.cell? ⟨w1.heap.size, 0, none⟩ = some (.string (str l)) ∧ u.cell? ⟨w1.heap.size, 1, none⟩ = some (.int .i64 (mm : Int))) := fun u hu => HT.out u (below_next hb7 hu)
    have HUB := Lib.hid hb7
    have HBU := Lib.hid (HBW.out.trans (hb7.mono hW0))
    have hwU : w.heap.size ≤ U3.heap.size := HBU.out.size
    have hb := Below.refl U3.heap.size U3
    have hL0b : ((L : Int) == 0) = false := by simp; omega
    have hL0 : ¬ L = 0 := by omega
    clear ho ho' hcell hF2 hFl hp hz hLe hLd hb7 hadb HS93 HT HTS HTB hcp9 hcp9' hU12 hU23 hwW HR9 HFV HFE
    generalize hsc : (fun k => score z (str l).data.toList mm k 0) = sc at *
    have HSCE : Hid (∀ k, score z (str l).data.toList mm k 0 = sc k) := fun k => by rw [← hsc]
    clear hsc
    go_wp2
    go_loopw [8] (fun i wr => ∃ k : Nat, i = .int .i64 (k : Int) ∧ k ≤ L ∧ Below U3.heap.size U3 wr) (fun i _ => L - (intOf i).toNat)
    case atStart => exact ⟨0, rfl, Nat.zero_le _, hb⟩
    case round =>
      clear hb
      obtain ⟨k, rfl, hk, hb⟩ := hrel
      by_cases hlt : k < L
      · obtain ⟨V, hV⟩ : ∃ V, V = score z (str l).data.toList mm k 0 := ⟨_, rfl⟩
        have HC1 : Hid (∀ u : World, Below U3.heap.size U3 u → u.cell? (ad.add k) = some (.int .i64 V)) := fun u hu => by rw [hV]; exact HCL.out k u hlt hu
        have HK := HSC.out k
        rw [← hV] at HK
        have HK := Lib.hid HK
        clear hV
        go_wp2
        refine wp_region_held_drew (S := (fun u => (u.cell? ⟨w1.heap.size, 0, none⟩ = some (.string (str l)) ∧ u.cell? ⟨w1.heap.size, 1, none⟩ = some (.int .i64 (mm : Int))) ∧ u.cell? (ad.add k) = some (.int .i64 V))) (by kernel_rfl) ?_ (fun hHeld => ?_)
        · (try dsimp only)
          exact ⟨HTU.out _ (by first | assumption | exact Below.drew (by assumption)), HC1.out _ (by first | assumption | exact Below.drew (by assumption))⟩
        first
          | (refine wpAnyH_take (i := 0) (oi := ⟨(some 53), _, _, _, _, _⟩) (v := ?_) rfl (by kernel_rfl) (by kernel_rfl) (by kernel_rfl) (fun _ _ _ h => h) (Or.inl ⟨by rfl, ?_⟩) (by assumption) ?_; rotate_left; (focus (intro ww hSw; (try dsimp only at hSw); go_simp; (try with_reducible rfl))))
          | (refine wpAnyH_take (i := 0) (oi := ⟨(some 53), _, _, _, _, _⟩) (v := undef) rfl (by kernel_rfl) (by kernel_rfl) (by kernel_rfl) (fun _ _ _ h => h) (Or.inr ⟨by rfl, rfl⟩) (by assumption) ?_)
        (try simp only [Act.put, List.setIfInBounds_toArray, List.set_cons_zero, List.set_cons_succ])
        first
          | (refine wpAnyH_take (i := 1) (oi := ⟨(some 54), _, _, _, _, _⟩) (v := ?_) rfl (by kernel_rfl) (by kernel_rfl) (by kernel_rfl) (fun _ _ _ h => h) (Or.inl ⟨by rfl, ?_⟩) (by assumption) ?_; rotate_left; (focus (intro ww hSw; (try dsimp only at hSw); go_simp; (try with_reducible rfl))))
          | (refine wpAnyH_take (i := 1) (oi := ⟨(some 54), _, _, _, _, _⟩) (v := undef) rfl (by kernel_rfl) (by kernel_rfl) (by kernel_rfl) (fun _ _ _ h => h) (Or.inr ⟨by rfl, rfl⟩) (by assumption) ?_)
        (try simp only [Act.put, List.setIfInBounds_toArray, List.set_cons_zero, List.set_cons_succ])
        first
          | (refine wpAnyH_take (i := 2) (oi := ⟨(some 55), _, _, _, _, _⟩) (v := ?_) rfl (by kernel_rfl) (by kernel_rfl) (by kernel_rfl) (fun _ _ _ h => h) (Or.inl ⟨by rfl, ?_⟩) (by assumption) ?_; rotate_left; (focus (intro ww hSw; (try dsimp only at hSw); go_simp; (try with_reducible rfl))))
          | (refine wpAnyH_take (i := 2) (oi := ⟨(some 55), _, _, _, _, _⟩) (v := undef) rfl (by kernel_rfl) (by kernel_rfl) (by kernel_rfl) (fun _ _ _ h => h) (Or.inr ⟨by rfl, rfl⟩) (by assumption) ?_)
        (try simp only [Act.put, List.setIfInBounds_toArray, List.set_cons_zero, List.set_cons_succ])
        first
          | (refine wpAnyH_take (i := 3) (oi := ⟨(some 56), _, _, _, _, _⟩) (v := ?_) rfl (by kernel_rfl) (by kernel_rfl) (by kernel_rfl) (fun _ _ _ h => h) (Or.inl ⟨by rfl, ?_⟩) (by assumption) ?_; rotate_left; (focus (intro ww hSw; (try dsimp only at hSw); go_simp; (try with_reducible rfl))))
          | (refine wpAnyH_take (i := 3) (oi := ⟨(some 56), _, _, _, _, _⟩) (v := undef) rfl (by kernel_rfl) (by kernel_rfl) (by kernel_rfl) (fun _ _ _ h => h) (Or.inr ⟨by rfl, rfl⟩) (by assumption) ?_)
        (try simp only [Act.put, List.setIfInBounds_toArray, List.set_cons_zero, List.set_cons_succ])
        first
          | (refine wpAnyH_take (i := 4) (oi := ⟨(some 57), _, _, _, _, _⟩) (v := ?_) rfl (by kernel_rfl) (by kernel_rfl) (by kernel_rfl) (fun _ _ _ h => h) (Or.inl ⟨by rfl, ?_⟩) (by assumption) ?_; rotate_left; (focus (intro ww hSw; (try dsimp only at hSw); go_simp; (try with_reducible rfl))))
          | (refine wpAnyH_take (i := 4) (oi := ⟨(some 57), _, _, _, _, _⟩) (v := undef) rfl (by kernel_rfl) (by kernel_rfl) (by kernel_rfl) (fun _ _ _ h => h) (Or.inr ⟨by rfl, rfl⟩) (by assumption) ?_)
        (try simp only [Act.put, List.setIfInBounds_toArray, List.set_cons_zero, List.set_cons_succ])
        first
          | (refine wpAnyH_take (i := 5) (oi := ⟨(some 58), _, _, _, _, _⟩) (v := ?_) rfl (by kernel_rfl) (by kernel_rfl) (by kernel_rfl) (fun _ _ _ h => h) (Or.inl ⟨by rfl, ?_⟩) (by assumption) ?_; rotate_left; (focus (intro ww hSw; (try dsimp only at hSw); go_simp; (try with_reducible rfl))))
          | (refine wpAnyH_take (i := 5) (oi := ⟨(some 58), _, _, _, _, _⟩) (v := undef) rfl (by kernel_rfl) (by kernel_rfl) (by kernel_rfl) (fun _ _ _ h => h) (Or.inr ⟨by rfl, rfl⟩) (by assumption) ?_)
        (try simp only [Act.put, List.setIfInBounds_toArray, List.set_cons_zero, List.set_cons_succ])
        first
          | (refine wpAnyH_take (i := 6) (oi := ⟨(some 59), _, _, _, _, _⟩) (v := ?_) rfl (by kernel_rfl) (by kernel_rfl) (by kernel_rfl) (fun _ _ _ h => h) (Or.inl ⟨by rfl, ?_⟩) (by assumption) ?_; rotate_left; (focus (intro ww hSw; (try dsimp only at hSw); go_simp; (try with_reducible rfl))))
          | (refine wpAnyH_take (i := 6) (oi := ⟨(some 59), _, _, _, _, _⟩) (v := undef) rfl (by kernel_rfl) (by kernel_rfl) (by kernel_rfl) (fun _ _ _ h => h) (Or.inr ⟨by rfl, rfl⟩) (by assumption) ?_)
        (try simp only [Act.put, List.setIfInBounds_toArray, List.set_cons_zero, List.set_cons_succ])
        refine wpAnyH_ready (rs := [7]) (by kernel_rfl) (by simp) ?_
        refine AllReadyH.cons (o := ⟨(some 60), _, _, _, _, _⟩) rfl (fun K hK => ?_) AllReadyH.nil
        go_simp
        refine (relB (W0 := U3) (by first | assumption | exact Below.drew (by assumption)) (HK.out _ hlt (below_next HUB.out (by first | assumption | exact Below.drew (by assumption))))).mono ?_
        rintro e q1 ⟨rfl, hq1⟩
        clear hb
        go_wp2_with fail
        refine hK.out _ _ ?_ (fun hHeld => ?_)
        · (try dsimp only)
          exact ⟨HTU.out _ (by first | assumption | exact Below.drew (by assumption)), HC1.out _ (by first | assumption | exact Below.drew (by assumption))⟩
        clear hK K
        (try simp only [Act.put, List.setIfInBounds_toArray, List.set_cons_zero, List.set_cons_succ])
        first
          | (refine wpAnyH_take (i := 8) (oi := ⟨(some 61), _, _, _, _, _⟩) (v := ?_) rfl (by kernel_rfl) (by kernel_rfl) (by kernel_rfl) (fun _ _ _ h => h) (Or.inl ⟨by rfl, ?_⟩) (by assumption) ?_; rotate_left; (focus (intro ww hSw; (try dsimp only at hSw); go_simp; (try with_reducible rfl))))
          | (refine wpAnyH_take (i := 8) (oi := ⟨(some 61), _, _, _, _, _⟩) (v := undef) rfl (by kernel_rfl) (by kernel_rfl) (by kernel_rfl) (fun _ _ _ h => h) (Or.inr ⟨by rfl, rfl⟩) (by assumption) ?_)
        (try simp only [Act.put, List.setIfInBounds_toArray, List.set_cons_zero, List.set_cons_succ])
        refine wpAnyH_done (by kernel_rfl) ?_ _
        go_wp2
        go_roundw
        case rel => exact ⟨k + 1, by go_num, by omega, (by first | assumption | exact Below.drew (by assumption))⟩
        case measure => simp [intOf]; omega
      · clear HCL HSC HSCE
        obtain ⟨κ, hκ, hκN⟩ : ∃ κ : Nat, (len1 : Int) % (L : Int) = (κ : Int) ∧ κ < L := ⟨len1 % L, by simp, Nat.mod_lt _ (by omega)⟩
        obtain ⟨c0, c1⟩ := HTU.out _ hb
        go_wp2_with fail
        refine (HPS.out κ _).mono ?_
        rintro e V1 ⟨v10, rfl, hs10, k10⟩
        obtain ⟨A10, p10, rfl, hr10, _⟩ := hs10.reads
        rw [HPN.out κ hκN]
        have hb10 := below_next hb k10
        have HR10 := Lib.hid hr10
        clear hb hs10 hr10 k10 c0 c1
        obtain ⟨c0, c1⟩ := HTU.out _ hb10
        go_wp2_with fail
        refine (HP0.out _).mono ?_
        rintro e V2 ⟨v11, rfl, hs11, k11⟩
        obtain ⟨A11, p11, rfl, hr11, _⟩ := hs11.reads
        rw [HPN.out o hoL]
        have hb11 := below_next hb10 k11
        have HR102 := Lib.hid ((HR10.out.keep (fun p hp => k11.cell hp)).more k11.size)
        have HR11 := Lib.hid hr11
        clear hb10 hs11 hr11 k11 c0 c1 HR10
        obtain ⟨c0, c1⟩ := HTU.out _ hb11
        go_wp2_with fail
        refine (HTZ.out κ _ _ _ hκN HR102.out).mono ?_
        rintro e V3 ⟨v12, rfl, hs12, k12⟩
        obtain ⟨A12, p12, rfl, hr12, _⟩ := hs12.reads
        rw [HTN.out κ]
        have hb12 := below_next hb11 k12
        have HR112 := Lib.hid ((HR11.out.keep (fun p hp => k12.cell hp)).more k12.size)
        have HR12 := Lib.hid hr12
        clear hb11 hs12 hr12 k12 c0 c1 HR11 HR102
        obtain ⟨c0, c1⟩ := HTU.out _ hb12
        have HTZ0 := Lib.hid (HTZ.out o A11 p11 V3 hoL HR112.out)
        go_wp2_with fail
        refine HTZ0.out.mono ?_
        rintro e V4 ⟨v13, rfl, hs13, k13⟩
        obtain ⟨A13, p13, rfl, hr13, _⟩ := hs13.reads
        rw [HTN.out o]
        have hb13 := below_next hb12 k13
        have HR122 := (HR12.out.keep (fun p hp => k13.cell hp)).more k13.size
        have hw13 : U3.heap.size ≤ V4.heap.size := hb13.size
        have HB13 := Lib.hid hb13
        obtain ⟨a2, rfl, ha2, hc2⟩ := HR122 (by rw [HTN.out κ]; omega)
        obtain ⟨a3, rfl, ha3, hc3⟩ := hr13 (by rw [HTN.out o]; omega)
        have HQ2 : Hid (∀ (q : Nat) (u : World), q < L → Below V4.heap.size V4 u → u.cell? (a2.add q) = some (.int .i64 (2 * corr (str l).data.toList mm κ q))) := fun q u hq hu => by
          rw [hu.cell (by rw [add_block]; exact ha2), hc2 q (by rw [HTN.out κ]; exact hq), HTV.out κ q hκN hq]
        have HQ3 : Hid (∀ (q : Nat) (u : World), q < L → Below V4.heap.size V4 u → u.cell? (a3.add q) = some (.int .i64 (2 * corr (str l).data.toList mm o q))) := fun q u hq hu => by
          rw [hu.cell (by rw [add_block]; exact ha3), hc3 q (by rw [HTN.out o]; exact hq), HTV.out o q hoL hq]
        have HT4 : Hid (∀ u : World, Below V4.heap.size V4 u → u.cell? ⟨w1.heap.size, 0, none⟩ = some (.string (str l)) ∧ u.cell? ⟨w1.heap.size, 1, none⟩ = some (.int .i64 (mm : Int))) := fun u hu => HTU.out u (below_next HB13.out hu)
        have hb := Below.refl V4.heap.size V4
        clear hb12 hb13 hs13 hr13 k13 c0 c1 HR12 HR112 HTZ0 HTZ HPS HP0 HTV HTN HPN HPO hc2 hc3 ha2 ha3 HR122
        go_wp2
        go_loopw [14] (fun i wr => ∃ k : Nat, i = .int .i64 (k : Int) ∧ k ≤ L ∧ Below V4.heap.size V4 wr) (fun i _ => L - (intOf i).toNat)
        case atStart => exact ⟨0, rfl, Nat.zero_le _, hb⟩
        case round =>
          clear hb
          obtain ⟨i, rfl, hi, hb⟩ := hrel
          by_cases hlt : i < L
          · obtain ⟨Q, hQ, hQL, hQe⟩ : ∃ Q : Nat, ((i : Int) + (κ : Int)) % (L : Int) = (Q : Int) ∧ Q < L ∧ Q = (i + κ) % L := ⟨(i + κ) % L, by simp, Nat.mod_lt _ (by omega), rfl⟩
            have e1 : corr (str l).data.toList mm κ Q = corr (str l).data.toList mm o i := by rw [hQe]; exact HSH.out κ i hκN hlt
            have x1 := HQ2.out Q _ hQL hb
            have x2 := HQ3.out i _ hlt hb
            rw [e1] at x1
            generalize 2 * corr (str l).data.toList mm o i = V at x1 x2
            have hQL2 : (Q : Int) < (L : Int) := by omega
            clear e1 hQe
            go_wp2
            go_quiet (fail)
            go_wp2
            go_roundw
            case rel => exact ⟨i + 1, by go_num, by omega, Below.drewN hb _⟩
            case measure => simp [intOf]; omega
          · obtain ⟨c0, c1⟩ := HT4.out _ hb
            go_wp2_with fail
            refine (HPL.out _).mono ?_
            rintro e V5 ⟨rfl, k5⟩
            have hb5 := below_next HB13.out (below_next hb k5)
            have e1 : ((L : Int) == (L : Int)) = true := by simp
            go_wp2
            go_ret
            exact ⟨rfl, HBU.out.trans (hb5.mono hwU)⟩
end Go.Proofs.Ytmecbiphejjkmaa.fnScoreTable
