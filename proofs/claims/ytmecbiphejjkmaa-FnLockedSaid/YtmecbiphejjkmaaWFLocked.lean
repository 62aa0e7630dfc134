/- The walk of the law FnLocked: a loop is locked exactly if it stays at the offset and the score is not less than the threshold. -/
import Derived.Test.YtmecbiphejjkmaaDrawF
import Derived.Test.YtmecbiphejjkmaaSsC
import Derived.Test.YtmecbiphejjkmaaPath
import Derived.Deep.QuietTactic
import Derived.BigQuiet
namespace Go.Proofs.Ytmecbiphejjkmaa.fnLocked
set_option maxRecDepth 20000
open Go.ChangeShapes Go.WideShapes Go.ChangeAt Go.RowKit
set_option linter.unusedVariables false
set_option linter.unusedSimpArgs false

theorem relB {P : Program} {f : FuncId} {args : Array Value} {W0 u : World} {v : Value} (hu : Below W0.heap.size W0 u) (h : Calls P f args u fun e u' => e = .returned v ∧ Below u.heap.size u u') :
    Calls P f args u fun e u' => e = .returned v ∧ Below W0.heap.size W0 u' := h.mono fun e u' ⟨a, b⟩ => ⟨a, below_next hu b⟩
theorem two_at {W u : World} {b : Nat} {x y : Value} (h : Two W b x y) (hb : Below W.heap.size W u) : u.cell? ⟨b, 0, none⟩ = some x ∧ u.cell? ⟨b, 1, none⟩ = some y := by
  have := h.below hb
  exact ⟨this.1, this.2.1⟩

set_option maxHeartbeats 16000000 in
theorem walk (a0 : Option Addr) (len0 cap0 : Nat) (z0 : List Int) (w : World) (hw0 : IsRow .u8 w a0 len0 cap0 z0) :
    Calls Try.prog 5 #[.slice a0 len0 cap0] w fun e w' => e = .returned (.bool true) ∧ Below w.heap.size w w' := by
  by_cases hlen : len0 ≤ 1048576
  rotate_left
  · go_enter Try.func5, Try.ntmps5
    go_wp2
    go_ret
    exact ⟨rfl, Below.refl _ _⟩
  go_enter Try.func5, Try.ntmps5
  go_wp2_with fail
  refine (drawLockedAt_any _ _ _ _ _ hw0).mono ?_
  rintro e w1 ⟨v, z, l, m, x, t, rfl, ⟨⟨hl, hm1, hm9⟩, hsl, hzl⟩, hb1⟩
  clear hw0
  obtain ⟨A, c, rfl, hr, hzc⟩ := hsl.reads
  have zl := str_size l
  have hm : (str l).size ≤ maxLen := by unfold maxLen; omega
  obtain ⟨W, hW⟩ : ∃ W, W = w1.alloc (.cells #[.string (str l), .int .i64 m] 25) := ⟨_, rfl⟩
  have HT : Hid (∀ u : World, Below W.heap.size W u → u.cell? ⟨w1.heap.size, 0, none⟩ = some (.string (str l)) ∧ u.cell? ⟨w1.heap.size, 1, none⟩ = some (.int .i64 m)) := fun u hu => two_at (by rw [hW]; exact Two.box _ _ _) hu
  have HBW : Hid (Below w.heap.size w W) := by rw [hW]; exact hb1.alloc hb1.size _
  have hW0 : w.heap.size ≤ W.heap.size := HBW.out.size
  have HR : Hid (∀ u : World, Below W.heap.size W u → Reads u u.heap.size A z) := fun u hu => by rw [hW] at hu; exact reads_up hr hu
  have hz6 : z.length ≤ 1048576 := by omega
  have hwW : w1.heap.size < W.heap.size := by rw [hW]; simp
  go_wp2_with fail
  rw [← hW]
  have hb := Below.refl W.heap.size W
  obtain ⟨c0, c1⟩ := HT.out _ hb
  clear hW hsl hr hb1
  have HLI : Hid (∀ u : World, Below W.heap.size W u → Calls Try.prog 23 #[.slice A z.length c, .agg #[.string (str l), .int .i64 m], .int .i64 x, .int .i64 t] u fun e w' => e = .returned (.bool (lockedB z (str l) m x t)) ∧ Below u.heap.size u w') := fun u hu => lockI_any A c z (str l) m x t u (HR.out u hu) hz6 hm
  have HLS : Hid (∀ u : World, Below W.heap.size W u → Calls Try.prog 24 #[.slice A z.length c, .agg #[.string (str l), .int .i64 m], .int .i64 x, .int .i64 t] u fun e w' => e = .returned (.bool (lockedB z (str l) m x t)) ∧ Below u.heap.size u w') := fun u hu => lockS_any A c z (str l) m x t u (HR.out u hu) hz6 hm
  have HSA : Hid (∀ u : World, Below W.heap.size W u → Calls Try.prog 18 #[.slice A z.length c, .agg #[.string (str l), .int .i64 m], .int .i64 x] u fun e w' => e = .returned (intRes (scoreO z (str l) m x)) ∧ Below u.heap.size u w') := fun u hu => scoreAtI_any A c z (str l) m x u (HR.out u hu) hz6 hm
  have HTP : Hid (∀ u : World, Below W.heap.size W u → Calls Try.prog 25 #[.slice A z.length c, .agg #[.string (str l), .int .i64 m], .int .i64 x, .int .i64 5] u (RetL (pathL z (str l) m x ((5 : Nat) : Int)) u)) := fun u hu => pathI_any A c z (str l) m x ((5 : Nat) : Int) u (HR.out u hu) hz6 hm
  clear HR
  cases hv : (sigOK z && offOK (str l) m x) with
  | false =>
    have hVB : lockedB z (str l) m x t = false := by simp only [lockedB, hv]; rfl
    rw [hVB] at HLI HLS
    rw [show scoreO z (str l) m x = none by simp only [scoreO, hv]; rfl] at HSA
    change Hid (∀ u : World, _ → Calls _ _ _ u fun e w' => e = .returned (.tuple #[.int .i64 0, .bool false]) ∧ _) at HSA
    go_wp2_with fail
    refine (HLI.out _ hb).mono ?_
    rintro e y1 ⟨rfl, k⟩
    replace hb := below_next hb k
    clear k c0 c1
    obtain ⟨c0, c1⟩ := HT.out _ hb
    go_wp2_with fail
    refine (HLS.out _ hb).mono ?_
    rintro e y2 ⟨rfl, k⟩
    replace hb := below_next hb k
    clear k c0 c1
    obtain ⟨c0, c1⟩ := HT.out _ hb
    go_wp2_with fail
    refine (HSA.out _ hb).mono ?_
    rintro e y3 ⟨rfl, k⟩
    replace hb := below_next hb k
    clear k c0 c1
    obtain ⟨c0, c1⟩ := HT.out _ hb
    go_wp2
    go_ret
    exact ⟨rfl, HBW.out.trans (hb.mono hW0)⟩
  | true =>
    rw [Bool.and_eq_true] at hv
    obtain ⟨hz, ho⟩ := hv
    obtain ⟨mm, off, rfl, rfl, hp, h0, h1, h2, h3, h4, h5⟩ := off_nat ho
    rw [scoreO_yes hz ho] at HSA
    change Hid (∀ u : World, _ → Calls _ _ _ u fun e w' => e = .returned (.tuple #[.int .i64 (score z (str l).data.toList mm off 0), .bool true]) ∧ _) at HSA
    obtain ⟨F, hF⟩ : ∃ F, F = pathL z (str l) (mm : Int) (off : Int) ((5 : Nat) : Int) := ⟨_, rfl⟩
    have hF2 : F = (List.range 6).map fun k => (trkIt z (str l).data.toList mm off k : Int) := by rw [hF, pathL_yes hz ho (by rfl)]
    rw [← hF] at HTP
    have hFl : F.length = 6 := by rw [hF2]; simp
    have hFv : ∀ k, k < 6 → F.getD k 0 = (trkIt z (str l).data.toList mm off k : Int) := fun k hk => by rw [hF2]; simp [List.getD_eq_getElem?_getD, hk]
    obtain ⟨S0, hS0⟩ : ∃ s, s = score z (str l).data.toList mm off 0 := ⟨_, rfl⟩
    obtain ⟨B, hB⟩ : ∃ B, B = lockedB z (str l) (mm : Int) (off : Int) t := ⟨_, rfl⟩
    obtain ⟨T1, hT1⟩ : ∃ T1, T1 = trkN z (str l).data.toList mm off := ⟨_, rfl⟩
    have hlb : B = ((((T1 : Nat) : Int) == (off : Int)) && decide (t ≤ S0)) := by rw [hB, hS0, hT1]; simp only [lockedB, hz, ho, Int.toNat_natCast, Bool.true_and]
    rw [← hB] at HLI HLS
    rw [← hS0] at HSA
    have HLE := Lib.hid hlb
    cases hbT : (((T1 : Nat) : Int) == (off : Int)) with
    | true =>
      have hte : T1 = off := by have := beq_iff_eq.1 hbT; omega
      have HFV : Hid (∀ k, k < 6 → F.getD k 0 = (off : Int)) := fun k hk => by
        rw [hFv k hk]
        have : ∀ j, trkIt z (str l).data.toList mm off j = off := fun j => by
          induction j with
          | zero => rfl
          | succ j ih => show trkN z (str l).data.toList mm (trkIt z (str l).data.toList mm off j) = off; rw [ih, ← hT1, hte]
        rw [this k]
      clear hB hS0 hT1 hlb hF hF2 hFv hp ho hz h0 h5 hte
      rw [hbT] at HLE
      go_wp2_with fail
      refine (HLI.out _ hb).mono ?_
      rintro e y4 ⟨rfl, k⟩
      replace hb := below_next hb k
      clear k c0 c1
      obtain ⟨c0, c1⟩ := HT.out _ hb
      go_wp2_with fail
      refine (HLS.out _ hb).mono ?_
      rintro e y5 ⟨rfl, k⟩
      replace hb := below_next hb k
      clear k c0 c1
      obtain ⟨c0, c1⟩ := HT.out _ hb
      go_wp2_with fail
      refine (HSA.out _ hb).mono ?_
      rintro e y6 ⟨rfl, k⟩
      replace hb := below_next hb k
      clear k c0 c1
      obtain ⟨c0, c1⟩ := HT.out _ hb
      go_wp2_with fail
      refine (HTP.out _ hb).mono ?_
      rintro e U ⟨v9, rfl, hs9, k9⟩
      have hb9 := below_next hb k9
      obtain ⟨A9, p9, rfl, hr9, hcp9⟩ := hs9.reads
      have HR9 := Lib.hid hr9
      have HBU := Lib.hid (HBW.out.trans (hb9.mono hW0))
      have hwU : w.heap.size ≤ U.heap.size := HBU.out.size
      rw [hFl]
      clear hb hb9 k9 c0 c1 hs9 hr9 hcp9 HLI HLS HSA HTP HT HBW hW0 hwW
      have hb := Below.refl U.heap.size U
      go_wp2
      go_loopw [11, 12] (fun b i wr => ∃ k : Nat, i = .int .i64 (k : Int) ∧ k ≤ 6 ∧ b = .bool (true) ∧ Below U.heap.size U wr) (fun _ i _ => 6 - (intOf i).toNat)
      case atStart => exact ⟨0, rfl, by omega, rfl, hb⟩
      case round =>
        clear hb
        obtain ⟨k, rfl, hk, rfl, hb⟩ := hrel
        by_cases hlt : k < 6
        · skip
          obtain ⟨ad, rfl, hadb, hcell⟩ := HR9.out (by omega)
          have c2 := hcell k (by omega)
          have c2' : wr.cell? (ad.add k) = some (.int .i64 (F.getD k 0)) := by rw [hb.cell (by rw [add_block]; exact hadb)]; exact c2
          clear c2 hcell
          rw [HFV.out k hlt] at c2'
          go_wp2
          go_roundw
          case rel => exact ⟨k + 1, by go_num, by omega, rfl, hb⟩
          case measure => simp [intOf]; omega
        · obtain rfl : k = 6 := by omega
          have e1 : (B == decide (t ≤ S0)) = true := by rw [HLE.out]; simp
          go_wp2
          go_ret
          exact ⟨rfl, HBU.out.trans (hb.mono hwU)⟩
    | false =>
      have HNE := Lib.hid hbT
      have HF0 : Hid (F.getD 0 0 = (off : Int)) := hFv 0 (by omega)
      have HF1 : Hid (F.getD 1 0 = (T1 : Int)) := by rw [hT1]; exact hFv 1 (by omega)
      clear hB hS0 hT1 hlb hF hF2 hFv hp ho hz h0 h5
      rw [hbT] at HLE
      go_wp2_with fail
      refine (HLI.out _ hb).mono ?_
      rintro e y7 ⟨rfl, k⟩
      replace hb := below_next hb k
      clear k c0 c1
      obtain ⟨c0, c1⟩ := HT.out _ hb
      go_wp2_with fail
      refine (HLS.out _ hb).mono ?_
      rintro e y8 ⟨rfl, k⟩
      replace hb := below_next hb k
      clear k c0 c1
      obtain ⟨c0, c1⟩ := HT.out _ hb
      go_wp2_with fail
      refine (HSA.out _ hb).mono ?_
      rintro e y9 ⟨rfl, k⟩
      replace hb := below_next hb k
      clear k c0 c1
      obtain ⟨c0, c1⟩ := HT.out _ hb
      go_wp2_with fail
      refine (HTP.out _ hb).mono ?_
      rintro e U ⟨v9, rfl, hs9, k9⟩
      have hb9 := below_next hb k9
      obtain ⟨A9, p9, rfl, hr9, hcp9⟩ := hs9.reads
      have HR9 := Lib.hid hr9
      have HBU := Lib.hid (HBW.out.trans (hb9.mono hW0))
      have hwU : w.heap.size ≤ U.heap.size := HBU.out.size
      rw [hFl]
      clear hb hb9 k9 c0 c1 hs9 hr9 hcp9 HLI HLS HSA HTP HT HBW hW0 hwW
      have hb := Below.refl U.heap.size U
      go_wp2
      go_loopw [11, 12] (fun b i wr => ∃ k : Nat, i = .int .i64 (k : Int) ∧ k ≤ 6 ∧ b = .bool (decide (k ≤ 1)) ∧ Below U.heap.size U wr) (fun _ i _ => 6 - (intOf i).toNat)
      case atStart => exact ⟨0, rfl, by omega, rfl, hb⟩
      case round =>
        clear hb
        obtain ⟨k, rfl, hk, rfl, hb⟩ := hrel
        by_cases hlt : k < 6
        · by_cases hk2 : k ≤ 1
          · have d0 : decide (k ≤ 1) = true := decide_eq_true hk2
            rw [d0]
            obtain ⟨ad, rfl, hadb, hcell⟩ := HR9.out (by omega)
            have c2 := hcell k (by omega)
            have hc2 : F.getD k 0 = (if k = 0 then (off : Int) else (T1 : Int)) := by
              rcases (show k = 0 ∨ k = 1 by omega) with rfl | rfl
              · exact HF0.out
              · exact HF1.out
            rw [hc2] at c2
            have c2' := (hb.cell (p := ad.add k) (by rw [add_block]; exact hadb)).trans c2
            clear c2 hcell hc2
            rcases (show k = 0 ∨ k = 1 by omega) with hk0 | hk0
            · rw [if_pos hk0] at c2'
              have HK0 := Lib.hid hk0
              clear hk0
              go_wp2
              go_roundw
              case rel => exact ⟨k + 1, by go_num, by omega, by rw [decide_eq_true (by have := HK0.out; omega)], hb⟩
              case measure => simp [intOf]; omega
            · rw [if_neg (by omega)] at c2'
              have d3 : ((T1 : Int) == (off : Int)) = false := HNE.out
              have HK0 := Lib.hid hk0
              clear hk0
              go_wp2
              go_roundw
              case rel => exact ⟨k + 1, by go_num, by omega, by rw [decide_eq_false (by have := HK0.out; omega)], hb⟩
              case measure => simp [intOf]; omega
          · have d0 : decide (k ≤ 1) = false := decide_eq_false hk2
            rw [d0]
            go_wp2
            go_roundw
            case rel => exact ⟨k + 1, by go_num, by omega, by rw [decide_eq_false (by omega)], hb⟩
            case measure => simp [intOf]; omega
        · obtain rfl : k = 6 := by omega
          have e1 : (B == false) = true := by rw [HLE.out]; rfl
          rw [show decide (6 ≤ 1) = false from rfl]
          go_wp2
          go_ret
          exact ⟨rfl, HBU.out.trans (hb.mono hwU)⟩
end Go.Proofs.Ytmecbiphejjkmaa.fnLocked
