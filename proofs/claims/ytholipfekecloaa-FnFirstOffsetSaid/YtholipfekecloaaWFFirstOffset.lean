/- The walk of the law FnFirstOffset: the first offset is the first one that is looked at whose score is not less than the threshold, and a search takes as many scores as are looked at. -/
import Derived.Test.YtholipfekecloaaDrawF
import Derived.Test.YtholipfekecloaaSsC
import Derived.Test.YtholipfekecloaaSearch
import Derived.Test.YtholipfekecloaaTable
import Derived.Deep.QuietTactic
import Derived.BigQuiet
namespace Go.Proofs.Ytholipfekecloaa.fnFirstOffset
set_option maxRecDepth 20000
open Go.ChangeShapes Go.WideShapes Go.ChangeAt Go.RowKit
set_option linter.unusedVariables false
set_option linter.unusedSimpArgs false

theorem relB {P : Program} {f : FuncId} {args : Array Value} {W0 u : World} {v : Value} (hu : Below W0.heap.size W0 u) (h : Calls P f args u fun e u' => e = .returned v ∧ Below u.heap.size u u') :
    Calls P f args u fun e u' => e = .returned v ∧ Below W0.heap.size W0 u' := h.mono fun e u' ⟨a, b⟩ => ⟨a, below_next hu b⟩
theorem two_at {W u : World} {b : Nat} {x y : Value} (h : Two W b x y) (hb : Below W.heap.size W u) : u.cell? ⟨b, 0, none⟩ = some x ∧ u.cell? ⟨b, 1, none⟩ = some y := by
  have := h.below hb
  exact ⟨this.1, this.2.1⟩

set_option maxHeartbeats 16000000 in
theorem walk (a0 : Option Addr) (len0 cap0 : Nat) (z0 : List Int) (w : World) (hw0 : IsRow .u8 w a0 len0 cap0 z0) :
    Calls Try.prog 8 #[.slice a0 len0 cap0] w fun e w' => e = .returned (.bool true) ∧ Below w.heap.size w w' := by
  by_cases hlen : len0 ≤ 1048576
  rotate_left
  · go_enter Try.func8, Try.ntmps8
    go_wp2
    go_ret
    exact ⟨rfl, Below.refl _ _⟩
  go_enter Try.func8, Try.ntmps8
  go_wp2_with fail
  refine (drawFirstOffset_any _ _ _ _ _ hw0).mono ?_
  rintro e w1 ⟨v, z, l, m, st, t, rfl, ⟨⟨hl, hm1, hm9⟩, hsl, hzl⟩, hb1⟩
  clear hw0
  obtain ⟨A, c, rfl, hr, hzc⟩ := hsl.reads
  have zl := str_size l
  have hm : (str l).size ≤ maxLen := by unfold maxLen; omega
  obtain ⟨W, hW⟩ : ∃ W, W = w1.alloc (.cells #[.string (str l), .int .i64 m] 24) := ⟨_, rfl⟩
  have HT : Hid (∀ u : World, Below W.heap.size W u → u.cell? ⟨w1.heap.size, 0, none⟩ = some (.string (str l)) ∧ u.cell? ⟨w1.heap.size, 1, none⟩ = some (.int .i64 m)) := fun u hu => two_at (by rw [hW]; exact Two.box _ _ _) hu
  have HBW : Hid (Below w.heap.size w W) := by rw [hW]; exact hb1.alloc hb1.size _
  have hW0 : w.heap.size ≤ W.heap.size := HBW.out.size
  have HR : Hid (∀ u : World, Below W.heap.size W u → Reads u u.heap.size A z) := fun u hu => by rw [hW] at hu; exact reads_up hr hu
  have hz6 : z.length ≤ 1048576 := by omega
  have hwW : w1.heap.size < W.heap.size := by rw [hW]; simp
  go_wp2_with fail
  rw [← hW]
  have hb := Below.refl W.heap.size W
  obtain ⟨c0, c1⟩ := HT.out _ hb
  clear hW hsl hr hb1
  have HFI : Hid (∀ u : World, Below W.heap.size W u → Calls Try.prog 37 #[.slice A z.length c, .agg #[.string (str l), .int .i64 m], .int .i64 st, .int .i64 t] u fun e w' => e = .returned (.int .i64 (firstI z (str l) m st t)) ∧ Below u.heap.size u w') := fun u hu => firstI_any A c z (str l) m st t u (HR.out u hu) hz6 hm
  have HFS : Hid (∀ u : World, Below W.heap.size W u → Calls Try.prog 39 #[.slice A z.length c, .agg #[.string (str l), .int .i64 m], .int .i64 st, .int .i64 t] u fun e w' => e = .returned (.int .i64 (firstI z (str l) m st t)) ∧ Below u.heap.size u w') := fun u hu => firstS_any A c z (str l) m st t u (HR.out u hu) hz6 hm
  have HNI : Hid (∀ u : World, Below W.heap.size W u → Calls Try.prog 38 #[.slice A z.length c, .agg #[.string (str l), .int .i64 m], .int .i64 st, .int .i64 t] u fun e w' => e = .returned (.int .i64 (timeI z (str l) m st t)) ∧ Below u.heap.size u w') := fun u hu => timeI_any A c z (str l) m st t u (HR.out u hu) hz6 hm
  have HNS : Hid (∀ u : World, Below W.heap.size W u → Calls Try.prog 40 #[.slice A z.length c, .agg #[.string (str l), .int .i64 m], .int .i64 st, .int .i64 t] u fun e w' => e = .returned (.int .i64 (timeI z (str l) m st t)) ∧ Below u.heap.size u w') := fun u hu => timeS_any A c z (str l) m st t u (HR.out u hu) hz6 hm
  have HTB : Hid (∀ u : World, Below W.heap.size W u → Calls Try.prog 41 #[.slice A z.length c, .agg #[.string (str l), .int .i64 m]] u (RetL (tableL z (str l) m) u)) := fun u hu => tabI_any A c z (str l) m u (HR.out u hu) hz6 hm
  clear HR
  cases hv : srOK z (str l) m st with
  | false =>
    rw [firstI_no hv] at HFI HFS
    rw [timeI_no hv] at HNI HNS
    go_wp2_with fail
    refine (HFI.out _ hb).mono ?_
    rintro e y1 ⟨rfl, k⟩
    replace hb := below_next hb k
    clear k c0 c1
    obtain ⟨c0, c1⟩ := HT.out _ hb
    go_wp2_with fail
    refine (HNI.out _ hb).mono ?_
    rintro e y2 ⟨rfl, k⟩
    replace hb := below_next hb k
    clear k c0 c1
    obtain ⟨c0, c1⟩ := HT.out _ hb
    go_wp2_with fail
    refine (HFS.out _ hb).mono ?_
    rintro e y3 ⟨rfl, k⟩
    replace hb := below_next hb k
    clear k c0 c1
    obtain ⟨c0, c1⟩ := HT.out _ hb
    go_wp2_with fail
    refine (HNS.out _ hb).mono ?_
    rintro e y4 ⟨rfl, k⟩
    replace hb := below_next hb k
    clear k c0 c1
    obtain ⟨c0, c1⟩ := HT.out _ hb
    go_wp2_with fail
    refine (HFS.out _ hb).mono ?_
    rintro e y5 ⟨rfl, k⟩
    replace hb := below_next hb k
    clear k c0 c1
    obtain ⟨c0, c1⟩ := HT.out _ hb
    go_wp2_with fail
    refine (HNS.out _ hb).mono ?_
    rintro e y6 ⟨rfl, k⟩
    replace hb := below_next hb k
    clear k c0 c1
    obtain ⟨c0, c1⟩ := HT.out _ hb
    go_wp2
    go_ret
    exact ⟨rfl, HBW.out.trans (hb.mono hW0)⟩
  | true =>
    obtain ⟨hz, hp, mm, s, rfl, rfl, hs1, hs8⟩ := sr_parts hv
    rw [firstI_yes hv] at HFI HFS
    rw [timeI_yes hv] at HNI HNS
    obtain ⟨m', e1, h1, h2, h3, h4, h5, h6⟩ := pilot_nat hp
    obtain rfl : mm = m' := by omega
    clear e1
    obtain ⟨L, hLe⟩ : ∃ L, L = (str l).size * mm := ⟨_, rfl⟩
    have hLd : (str l).data.toList.length * mm = L := by rw [data_length, hLe]
    have hTL : tableL z (str l) (mm : Int) = (List.range L).map fun off => score z (str l).data.toList mm off 0 := by rw [tableL_yes (by rw [hz, hp]; rfl), hLe]
    rw [hTL] at HTB
    rw [← hLe] at HNI HNS h5 h6
    obtain ⟨o, ho⟩ : ∃ o, o = sfind z (str l).data.toList mm s t := ⟨_, rfl⟩
    have hsf : o = srchK L s (hitB z (str l).data.toList mm t) (L + 1) 0 := by rw [ho]; unfold sfind; rw [hLd]
    rw [← ho] at HFI HFS HNI HNS
    have hN0 : 0 ≤ timeV o L s := by unfold timeV; split; omega; exact Int.natCast_nonneg _
    have HO : Hid (∀ K N : Int, K = firstV o s → N = timeV o L s → (∀ k, o = some k → K = ((k * s : Nat) : Int) ∧ N = (k : Int) + 1) ∧ (o = none → K = -1 ∧ N = (((L + s - 1) / s : Nat) : Int))) := fun K N hK hN => ⟨fun k e => by rw [hK, hN, e]; exact ⟨rfl, rfl⟩, fun e => by rw [hK, hN, e]; exact ⟨rfl, rfl⟩⟩
    obtain ⟨K, hK⟩ : ∃ K, K = firstV o s := ⟨_, rfl⟩
    obtain ⟨N, hN⟩ : ∃ N, N = timeV o L s := ⟨_, rfl⟩
    have HO := Lib.hid (HO.out K N hK hN)
    rw [← hK] at HFI HFS
    rw [← hN] at HNI HNS hN0
    obtain ⟨F, hF⟩ : ∃ F : List Int, F = (List.range L).map fun off => score z (str l).data.toList mm off 0 := ⟨_, rfl⟩
    have HFL : Hid (∀ q, q < L → F.getD q 0 = score z (str l).data.toList mm q 0) := fun q hq => by rw [hF]; simp [List.getD_eq_getElem?_getD, hq]
    have hFl : F.length = L := by rw [hF]; simp
    rw [← hF] at HTB
    have HSF := Lib.hid hsf
    clear hK hN ho hF hTL hLe hLd hv hz hp hsf
    go_wp2_with fail
    refine (HFI.out _ hb).mono ?_
    rintro e y7 ⟨rfl, k⟩
    replace hb := below_next hb k
    clear k c0 c1
    obtain ⟨c0, c1⟩ := HT.out _ hb
    go_wp2_with fail
    refine (HNI.out _ hb).mono ?_
    rintro e y8 ⟨rfl, k⟩
    replace hb := below_next hb k
    clear k c0 c1
    obtain ⟨c0, c1⟩ := HT.out _ hb
    go_wp2_with fail
    refine (HFS.out _ hb).mono ?_
    rintro e y9 ⟨rfl, k⟩
    replace hb := below_next hb k
    clear k c0 c1
    obtain ⟨c0, c1⟩ := HT.out _ hb
    go_wp2_with fail
    refine (HNS.out _ hb).mono ?_
    rintro e y10 ⟨rfl, k⟩
    replace hb := below_next hb k
    clear k c0 c1
    obtain ⟨c0, c1⟩ := HT.out _ hb
    go_wp2_with fail
    refine (HTB.out _ hb).mono ?_
    rintro e U ⟨v9, rfl, hs9, k9⟩
    have hb9 := below_next hb k9
    obtain ⟨A9, p9, rfl, hr9, hcp9⟩ := hs9.reads
    have HR9 := Lib.hid hr9
    have HBU := Lib.hid (HBW.out.trans (hb9.mono hW0))
    have hwU : w.heap.size ≤ U.heap.size := HBU.out.size
    rw [hFl]
    clear hb hb9 k9 c0 c1 hs9 hr9 hcp9 HFI HNI HFS HNS HTB HT HBW hW0 hwW
    have hb := Below.refl U.heap.size U
    have hN1 : N ≤ 9223372036854775807 ∨ True := .inr trivial
    go_wp2
    go_loopw [10, 11] (fun n i wr => ∃ k q : Nat, n = .int .i64 (k : Int) ∧ i = .int .i64 (q : Int) ∧ q = k * s ∧ k ≤ L ∧ (k = 0 ∨ 1 ≤ k ∧ (k - 1) * s < L) ∧ o = srchK L s (hitB z (str l).data.toList mm t) (L - k + 1) k ∧ Below U.heap.size U wr) (fun n _ _ => L + 1 - (intOf n).toNat)
    case atStart => exact ⟨0, 0, rfl, rfl, by omega, Nat.zero_le _, .inl rfl, HSF.out, hb⟩
    case round =>
      clear hb
      obtain ⟨k, q, rfl, rfl, hq, hk, hk1, hs, hb⟩ := hrel
      have HS := Lib.hid hs
      have hkq : k ≤ q := by rw [hq]; exact Nat.le_mul_of_pos_right k hs1
      have hqb : q ≤ 20000 := by rw [hq]; have := Nat.mul_le_mul hk hs8; omega
      have HQ := Lib.hid hq
      have HK1 := Lib.hid hk1
      clear hs hq hk1
      by_cases hlt : q < L
      · obtain ⟨ad, rfl, hadb, hcell⟩ := HR9.out (by omega)
        have c2 := hcell q (by omega)
        rw [HFL.out q hlt] at c2
        obtain ⟨V, hV⟩ : ∃ V, V = score z (str l).data.toList mm q 0 := ⟨_, rfl⟩
        have HV := Lib.hid hV
        rw [← hV] at c2
        have c2' : wr.cell? (ad.add q) = some (.int .i64 V) := by rw [hb.cell (by rw [add_block]; exact hadb)]; exact c2
        clear c2 hV hcell
        by_cases ht : t ≤ V
        · have hh : o = some k := by rw [HS.out, srch_hit (by rw [← HQ.out]; exact hlt) (by rw [← HQ.out]; unfold hitB; rw [← HV.out]; exact decide_eq_true ht)]
          obtain ⟨hK, hN⟩ := HO.out.1 k hh
          rw [← HQ.out] at hK
          have b1 : (K == (q : Int)) = true := by rw [hK]; simp
          have b2 : (N == (k : Int) + 1) = true := by rw [hN]; simp
          clear hK hN hh
          go_wp2
          go_ret
          exact ⟨rfl, HBU.out.trans (hb.mono hwU)⟩
        · have hh : o = srchK L s (hitB z (str l).data.toList mm t) (L - (k + 1) + 1) (k + 1) := by
            rw [HS.out, srch_next (by rw [← HQ.out]; exact hlt) (by rw [← HQ.out]; unfold hitB; rw [← HV.out]; exact decide_eq_false ht)]
            congr 1; omega
          have HH := Lib.hid hh
          clear hh
          go_wp2
          go_roundw
          case rel => exact ⟨k + 1, q + s, by go_num, by go_num, by rw [HQ.out, Nat.succ_mul], by omega, .inr ⟨by omega, by rw [Nat.add_sub_cancel, ← HQ.out]; exact hlt⟩, HH.out, hb⟩
          case measure => simp [intOf]; omega
      · have hh : o = none := by rw [HS.out, srch_end (by rw [← HQ.out]; exact hlt)]
        obtain ⟨hK, hN⟩ := HO.out.2 hh
        have hce : (L + s - 1) / s = k := ceil_eq hs1 (by rw [← HQ.out]; exact hlt) (by
          rcases HK1.out with h | ⟨h, h'⟩
          · exfalso; rw [HQ.out, h, Nat.zero_mul] at hlt; omega
          · exact .inr ⟨h', h⟩)
        rw [hce] at hN
        have b1 : (K == -1) = true := by rw [hK]; rfl
        have b2 : (N == (k : Int)) = true := by rw [hN]; simp
        clear hK hN hh hce
        go_wp2
        go_ret
        exact ⟨rfl, HBU.out.trans (hb.mono hwU)⟩
end Go.Proofs.Ytholipfekecloaa.fnFirstOffset
