/- The walk of the law FnTrackFinds: from each offset within a chip of that of a maximal code the loop comes nearer with each step, finds it, and is locked there with the full score. -/
import Derived.Test.YtmecbiphejjkmaaLoop
import Derived.Test.YtmecbiphejjkmaaSsI
import Derived.Test.YtmecbiphejjkmaaSsC
import Derived.Deep.QuietTactic
import Derived.BigQuiet
namespace Go.Proofs.Ytmecbiphejjkmaa.fnTrackFinds
set_option maxRecDepth 20000
open Go.ChangeShapes Go.WideShapes Go.ChangeAt Go.RowKit
set_option linter.unusedVariables false
set_option linter.unusedSimpArgs false

theorem relB {P : Program} {f : FuncId} {args : Array Value} {W0 u : World} {v : Value} (hu : Below W0.heap.size W0 u) (h : Calls P f args u fun e u' => e = .returned v ∧ Below u.heap.size u u') :
    Calls P f args u fun e u' => e = .returned v ∧ Below W0.heap.size W0 u' := h.mono fun e u' ⟨a, b⟩ => ⟨a, below_next hu b⟩
theorem two_at {W u : World} {b : Nat} {x y : Value} (h : Two W b x y) (hb : Below W.heap.size W u) : u.cell? ⟨b, 0, none⟩ = some x ∧ u.cell? ⟨b, 1, none⟩ = some y := by
  have := h.below hb
  exact ⟨this.1, this.2.1⟩
theorem tmod_twice (k n : Int) (h : 0 < n) : (Int.tmod k n + n) % n = k % n := by
  rw [tmod_emod k n h]
  have h1 := tmod_bd k n h
  split
  · rw [Int.emod_eq_of_lt (by omega) (by omega)]
  · rw [Int.add_emod_right, Int.emod_eq_of_lt (by omega) (by omega)]
theorem at_from {L a m : Nat} (ha : a < L) (hm : m ≤ L) {d : Int} (h1 : -(m : Int) ≤ d) (h2 : d ≤ (m : Int)) : ∃ y off : Nat, y ≤ m ∧ AtD L a y off ∧ ((a : Int) + d) % (L : Int) = (off : Int) := by
  by_cases h : 0 ≤ d
  · obtain ⟨y, rfl⟩ : ∃ y : Nat, d = (y : Int) := ⟨d.toNat, by omega⟩
    exact ⟨y, (a + y) % L, by omega, .inl rfl, by simp⟩
  · obtain ⟨y, rfl⟩ : ∃ y : Nat, d = -(y : Int) := ⟨(-d).toNat, by omega⟩
    refine ⟨y, (a + (L - y)) % L, by omega, .inr rfl, ?_⟩
    have e : (a : Int) + -(y : Int) = ((a + (L - y) : Nat) : Int) - (L : Int) := by omega
    rw [e, Int.sub_emod_right]
    simp
theorem sq_big {g L : Nat} (h1 : g ≤ 9) (h2 : L ≤ 186) : ∃ M : Nat, (g : Int) * (L : Int) = (M : Int) ∧ M ≤ 1674 := ⟨g * L, by simp, Nat.mul_le_mul h1 h2⟩

set_option maxHeartbeats 16000000 in
theorem walk (a0 : Option Addr) (len0 cap0 : Nat) (z0 : List Int) (a1 : Option Addr) (len1 cap1 : Nat) (z1 : List Int) (w : World) (hw0 : IsRow .u8 w a0 len0 cap0 z0) (hw1 : IsRow .u8 w a1 len1 cap1 z1) :
    Calls Try.prog 9 #[.slice a0 len0 cap0, .slice a1 len1 cap1] w fun e w' => e = .returned (.bool true) ∧ Below w.heap.size w w' := by
  by_cases hlen : len0 ≤ 1048576
  rotate_left
  · go_enter Try.func9, Try.ntmps9
    go_wp2
    go_ret
    exact ⟨rfl, Below.refl _ _⟩
  by_cases hlen1 : len1 ≤ 1048576
  rotate_left
  · go_enter Try.func9, Try.ntmps9
    go_wp2
    go_ret
    exact ⟨rfl, Below.refl _ _⟩
  go_enter Try.func9, Try.ntmps9
  go_wp2_with fail
  refine (ssSharp_any _ _ _ _ _ len1 _ _ hw0 hlen hlen1).mono ?_
  rintro e w1 ⟨l, m, a, g, rfl, ⟨hS, hp', hl31, hm1, hm6, haL, hg1, hg9⟩, hb1⟩
  clear hw0 hw1
  have zl := str_size l
  have hm : (str l).size ≤ maxLen := by unfold maxLen; omega
  obtain ⟨W, hW⟩ : ∃ W, W = w1.alloc (.cells #[.string (str l), .int .i64 (m : Int)] 25) := ⟨_, rfl⟩
  have HT : Hid (∀ u : World, Below W.heap.size W u → u.cell? ⟨w1.heap.size, 0, none⟩ = some (.string (str l)) ∧ u.cell? ⟨w1.heap.size, 1, none⟩ = some (.int .i64 (m : Int))) := fun u hu => two_at (by rw [hW]; exact Two.box _ _ _) hu
  have HBW : Hid (Below w.heap.size w W) := by rw [hW]; exact hb1.alloc hb1.size _
  have hW0 : w.heap.size ≤ W.heap.size := HBW.out.size
  have hwW : w1.heap.size < W.heap.size := by rw [hW]; simp
  go_wp2_with fail
  rw [← hW]
  have hb := Below.refl W.heap.size W
  obtain ⟨c0, c1⟩ := HT.out _ hb
  clear hW hb1
  have hp : pilotOK (str l).data.toList (m : Int) = true := by rw [str_list]; exact hp'
  obtain ⟨L, hL⟩ : ∃ L, L = l.length * m := ⟨_, rfl⟩
  have hLs : L = (str l).size * m := by rw [zl]; exact hL
  have h3 := hS.1
  have hLb : 3 * m ≤ L ∧ L ≤ 186 := ⟨by rw [hL]; exact Nat.mul_le_mul_right m h3, by rw [hL]; have := Nat.mul_le_mul hl31 hm6; omega⟩
  obtain ⟨hL3, hL186⟩ := hLb
  rw [← hL] at haL
  have HPL : Hid (∀ u : World, Calls Try.prog 16 #[.agg #[.string (str l), .int .i64 (m : Int)]] u fun e w' => e = .returned (.int .i64 (L : Int)) ∧ Below u.heap.size u w') := fun u => by rw [hLs]; exact plenI_nat u hp hm
  obtain ⟨Z, hZ⟩ : ∃ Z, Z = psL (str l) (m : Int) (a : Int) (L : Int) (g : Int) := ⟨_, rfl⟩
  have hps : psOK (str l) (m : Int) (a : Int) (L : Int) (g : Int) = true := ps_ok (off_ok hp (by omega)) ⟨by omega, by omega⟩ ⟨by omega, by omega⟩
  have HPS : Hid (∀ (u : World), Calls Try.prog 15 #[.agg #[.string (str l), .int .i64 (m : Int)], .int .i64 (a : Int), .int .i64 (L : Int), .int .i64 (g : Int)] u (RetL Z u)) := fun u => by rw [hZ]; exact ssPilot_any (str l) (m : Int) (a : Int) (L : Int) (g : Int) u hm
  have hZs : sigOK Z = true := by rw [hZ]; exact ps_sig hps
  have hZl : Z.length = L := by rw [hZ]; exact ps_length hps
  have hZ6 : Z.length ≤ 1048576 := by omega
  have HSCO : Hid (∀ i, score Z (str l).data.toList m i 0 = (g : Int) * corr l m a i) := fun i => by rw [hZ, ps_score hps (by omega), str_list]
  have HSH := Lib.hid hS
  have HPO := Lib.hid hp
  have HOK : Hid (∀ i, i < L → offOK (str l) (m : Int) (i : Int) = true) := fun i hi => off_ok hp (by omega)
  clear hZ hps hp' hp hS
  have HLS := Lib.hid hLs
  have HL := Lib.hid hL
  clear hLs hL
  go_wp2_with fail
  refine (HPL.out _).mono ?_
  rintro e y1 ⟨rfl, k⟩
  replace hb := below_next hb k
  clear k c0 c1
  obtain ⟨c0, c1⟩ := HT.out _ hb
  go_wp2_with fail
  refine (HPS.out _).mono ?_
  rintro e U ⟨v9, rfl, hs9, k9⟩
  have hb9 := below_next hb k9
  obtain ⟨A, c, rfl, hr9, hcp9⟩ := hs9.reads
  have HBU := Lib.hid (HBW.out.trans (hb9.mono hW0))
  have hwU : w.heap.size ≤ U.heap.size := HBU.out.size
  have HR : Hid (∀ u : World, Below U.heap.size U u → Reads u u.heap.size A Z) := fun u hu => (hr9.keep (fun p hp => hu.cell hp)).more hu.size
  have HTU : Hid (∀ u : World, Below U.heap.size U u → u.cell? ⟨w1.heap.size, 0, none⟩ = some (.string (str l)) ∧ u.cell? ⟨w1.heap.size, 1, none⟩ = some (.int .i64 (m : Int))) := fun u hu => HT.out u (below_next hb9 hu)
  clear hb hb9 k9 hs9 hr9 hcp9 c0 c1 HT HPS
  have HT := HTU
  clear HTU
  have hb := Below.refl U.heap.size U
  obtain ⟨c0, c1⟩ := HT.out _ hb
  have hzd : ∀ i, score Z l m i 0 = (g : Int) * corr l m a i := fun i => by have := HSCO.out i; rw [str_list] at this; exact this
  obtain ⟨N, hN⟩ : ∃ N, N = m + 3 := ⟨_, rfl⟩
  have hN2 : (m : Int) + 3 = (N : Int) := by omega
  have HPA : Hid (∀ (off : Nat) (u : World), off < L → Below U.heap.size U u → Calls Try.prog 25 #[.slice A Z.length c, .agg #[.string (str l), .int .i64 (m : Int)], .int .i64 (off : Int), .int .i64 ((m : Int) + 2)] u (RetL ((List.range N).map fun k => (trkIt Z l m off k : Int)) u)) := fun off u ho hu => by
    have h := pathI_any A c Z (str l) (m : Int) (off : Int) ((m + 2 : Nat) : Int) u (HR.out u hu) hZ6 hm
    rw [pathL_yes hZs (HOK.out off ho) (inB_yes (by omega) (by omega)), str_list] at h
    rw [hN]
    exact h
  have HTR : Hid (∀ y off k, y ≤ m → AtD L a y off → AtD L a (y - k) (trkIt Z l m off k)) := fun y off k hy h => trkIt_at HL.out HSH.out (by omega) (by omega) haL hg1 hzd hy h k
  have HOD : Hid (∀ (o : Nat) (u : World), o < L → Calls Try.prog 29 #[.agg #[.string (str l), .int .i64 (m : Int)], .int .i64 (o : Int), .int .i64 (a : Int)] u fun e w' => e = .returned (.int .i64 (dN L a o : Int)) ∧ Below u.heap.size u w') := fun o u ho => by
    have h := distI_any (str l) (m : Int) (o : Int) (a : Int) u hm
    rw [off_dN HLS.out HPO.out ho haL, dN_symm] at h
    exact h
  obtain ⟨M, hM, hMb⟩ := sq_big hg9 hL186
  have hta : trkN Z l m a = a := by
    have h0 : AtD L a 0 a := .inl (by rw [Nat.add_zero, Nat.mod_eq_of_lt haL])
    exact (trk_at HL.out HSH.out (by omega) (by omega) haL hg1 hzd (Nat.zero_le _) h0).own haL
  have hsa : score Z l m a 0 = (M : Int) := by rw [hzd, corr_own HL.out HSH.out (by omega) haL, hM]
  have hlk : ∀ t : Int, lockedB Z (str l) (m : Int) (a : Int) t = decide (t ≤ (M : Int)) := fun t => by rw [lockedB_eq hZs (HOK.out a haL) (by rw [str_list, hta]), str_list, hsa]
  have HL1 : Hid (∀ u : World, Below U.heap.size U u → Calls Try.prog 23 #[.slice A Z.length c, .agg #[.string (str l), .int .i64 (m : Int)], .int .i64 (a : Int), .int .i64 (M : Int)] u fun e w' => e = .returned (.bool true) ∧ Below u.heap.size u w') := fun u hu => by
    have h := lockI_any A c Z (str l) (m : Int) (a : Int) (M : Int) u (HR.out u hu) hZ6 hm
    rw [hlk, decide_eq_true (Int.le_refl _)] at h
    exact h
  have HL2 : Hid (∀ u : World, Below U.heap.size U u → Calls Try.prog 23 #[.slice A Z.length c, .agg #[.string (str l), .int .i64 (m : Int)], .int .i64 (a : Int), .int .i64 ((M : Int) + 1)] u fun e w' => e = .returned (.bool false) ∧ Below u.heap.size u w') := fun u hu => by
    have h := lockI_any A c Z (str l) (m : Int) (a : Int) ((M : Int) + 1) u (HR.out u hu) hZ6 hm
    rw [hlk, decide_eq_false (by omega)] at h
    exact h
  have HL3 : Hid (∀ u : World, Below U.heap.size U u → Calls Try.prog 24 #[.slice A Z.length c, .agg #[.string (str l), .int .i64 (m : Int)], .int .i64 (a : Int), .int .i64 (M : Int)] u fun e w' => e = .returned (.bool true) ∧ Below u.heap.size u w') := fun u hu => by
    have h := lockS_any A c Z (str l) (m : Int) (a : Int) (M : Int) u (HR.out u hu) hZ6 hm
    rw [hlk, decide_eq_true (Int.le_refl _)] at h
    exact h
  rw [hZl] at HPA HL1 HL2 HL3 ⊢
  have hL0 : ¬ L = 0 := by omega
  have hN6 : N ≤ 9 := by omega
  have HNE := Lib.hid hN
  clear hta hsa hlk hzd HR HOK HSCO hZs hZ6 hZl zl hl31 hm h3 hwW HSH HPO HLS HL HPL hN
  go_wp2
  clear c0 c1
  go_loopw [10, 11, 12, 13] (fun x _ _ _ wr => ∃ d : Int, x = .int .i64 d ∧ -(m : Int) ≤ d ∧ d ≤ (m : Int) + 1 ∧ Below U.heap.size U wr) (fun x _ _ _ _ => ((m : Int) + 1 - intOf x).toNat)
  case atStart => exact ⟨-(m : Int), rfl, by omega, by omega, hb⟩
  case round =>
    clear hb
    obtain ⟨d, rfl, hd1, hd2, hb⟩ := hrel
    obtain ⟨c0, c1⟩ := HT.out _ hb
    by_cases hlt : d ≤ (m : Int)
    · obtain ⟨y, off, hy, hat, hfrom⟩ := at_from haL (by omega) hd1 hlt
      have hoL := hat.lt (by omega)
      have E1 : Hid ((((a : Int) + d) % (L : Int) + (L : Int)) % (L : Int) = (off : Int)) := by rw [Int.add_emod_right, Int.emod_emod, hfrom]; exact rfl
      have E2 : Hid ((Int.tmod ((a : Int) + d) (L : Int) + (L : Int)) % (L : Int) = (off : Int)) := by rw [tmod_twice _ _ (by omega), hfrom]; exact rfl
      have E3 : Hid (Int.tmod ((a : Int) + d) (L : Int) % (L : Int) = (off : Int)) := by have h := E2.out; rw [Int.add_emod_right] at h; exact h
      have E4 : Hid (((a : Int) + d) % (L : Int) % (L : Int) = (off : Int)) := by have h := E1.out; rw [Int.add_emod_right] at h; exact h
      have E5 := Lib.hid hfrom
      have ub := Int.emod_nonneg ((a : Int) + d) (show (L : Int) ≠ 0 by omega)
      have ub2 := Int.emod_lt_of_pos ((a : Int) + d) (show 0 < (L : Int) by omega)
      have ub3 := tmod_bd ((a : Int) + d) (L : Int) (by omega)
      have hyd : dN L a off = y := hat.dist haL (by omega)
      have HAT := Lib.hid (fun k => HTR.out y off k hy hat)
      have hOD1 := HOD.out off
      rw [hyd] at hOD1
      have HOD1 := Lib.hid hOD1
      clear hfrom hyd hOD1 hat
      have key : ∀ (s : Bool), True := fun _ => trivial
      by_cases hsg : 0 ≤ (a : Int) + d
      all_goals
        go_wp2_with fail
        (try rw [E1.out])
        (try rw [E2.out])
        (try rw [E3.out])
        (try rw [E4.out])
        (try rw [E5.out])
        clear ub ub2 ub3
        refine (HPA.out off _ hoL hb).mono ?_
        rintro e V ⟨v12, rfl, hs12, k12⟩
        have hbV := below_next hb k12
        obtain ⟨A2, p2, rfl, hr2, hcp2⟩ := hs12.reads
        have hlen : ((List.range N).map fun k => (trkIt Z l m off k : Int)).length = N := by simp
        rw [hlen]
        obtain ⟨ad, rfl, hadb, hcell⟩ := hr2 (by rw [hlen]; have := HNE.out; omega)
        have HC : Hid (∀ (k : Nat) (u : World), k < N → Below V.heap.size V u → u.cell? (ad.add k) = some (.int .i64 (trkIt Z l m off k : Int))) := fun k u hk hu => by
          rw [hu.cell (by rw [add_block]; exact hadb), hcell k (by rw [hlen]; exact hk)]
          simp [List.getD_eq_getElem?_getD, hk]
        have HTV : Hid (∀ u : World, Below V.heap.size V u → u.cell? ⟨w1.heap.size, 0, none⟩ = some (.string (str l)) ∧ u.cell? ⟨w1.heap.size, 1, none⟩ = some (.int .i64 (m : Int))) := fun u hu => HT.out u (below_next hbV hu)
        have HBV := Lib.hid hbV
        have hwV : U.heap.size ≤ V.heap.size := hbV.size
        obtain ⟨R, hR, hRN⟩ : ∃ R : Nat, (N : Int) - 1 = (R : Int) ∧ R < N := ⟨m + 2, by have := HNE.out; omega, by have := HNE.out; omega⟩
        have hRw : IntKind.i64.wrap (R : Int) = (R : Int) := IntWalk.i64_in _ (by omega)
        have hTL : trkIt Z l m off R = a := by
          have h0 := HAT.out R
          rw [show y - R = 0 by have := HNE.out; omega] at h0
          exact h0.own haL
        have hb := Below.refl V.heap.size V
        have x1 := HC.out R V hRN hb
        rw [hTL] at x1
        have x2 := HC.out 1 V (by have := HNE.out; omega) hb
        obtain ⟨T1, hT1⟩ : ∃ T1, T1 = trkIt Z l m off 1 := ⟨_, rfl⟩
        rw [← hT1] at x2
        have HT1E : Hid (trkIt Z l m off 1 = T1) := hT1.symm
        have HT1N : Hid (0 < y → ((T1 : Int) == (off : Int)) = false) := fun h0 => by
          have h1 := (HAT.out 1).dist haL (by omega)
          have h2 := (HAT.out 0).dist haL (by omega)
          rw [← hT1] at h1
          have h3 : trkIt Z l m off 0 = off := rfl
          rw [h3] at h2
          rw [beq_eq_false_iff_ne]
          intro e
          have e2 : T1 = off := by omega
          rw [e2] at h1
          omega
        have hRN2 : (R : Int) < (N : Int) := by omega
        have h1N : (1 : Int) < (N : Int) := by have := HNE.out; omega
        obtain ⟨c0, c1⟩ := HTV.out _ hb
        clear hTL hT1 hcell hr2 hs12 k12 hlen hbV hadb
        go_wp2_with fail
        refine (HOD1.out _ hoL).mono ?_
        rintro e V2 ⟨rfl, k2⟩
        have hb2 := below_next hb k2
        by_cases hy0 : 0 < y
        · have d1 : decide ((0 : Int) < (y : Int)) = true := decide_eq_true (by omega)
          have x2' := HC.out 1 V2 (by have := HNE.out; omega) hb2
          have hT1e := HT1E.out
          rw [hT1e] at x2'
          have x2'' : V2.cell? ⟨ad.block, ad.off + 1, none⟩ = some (.int .i64 (T1 : Int)) := by simpa [Addr.add] using x2'
          have x3 := HT1N.out hy0
          clear x1 x2 hb c0 c1 hT1e
          go_wp2
          go_loopw [13] (fun i wr => ∃ k : Nat, i = .int .i64 (k : Int) ∧ 1 ≤ k ∧ k ≤ N ∧ Below V.heap.size V wr) (fun i _ => N - (intOf i).toNat)
          case atStart => exact ⟨1, rfl, Nat.le_refl _, by omega, hb2⟩
          case round =>
            clear hb2
            obtain ⟨k, rfl, hk1, hk, hb⟩ := hrel
            by_cases hltk : k < N
            · obtain ⟨R2, hR2, hRk⟩ : ∃ R2 : Nat, (k : Int) - 1 = (R2 : Int) ∧ k = R2 + 1 := ⟨k - 1, by omega, by omega⟩
              have hRw2 : IntKind.i64.wrap (R2 : Int) = (R2 : Int) := IntWalk.i64_in _ (by omega)
              have hA1 := HAT.out k
              have hA2 := HAT.out R2
              have HO1 := HOD.out (trkIt Z l m off k)
              have HO2 := HOD.out (trkIt Z l m off R2)
              rw [hA1.dist haL (by omega)] at HO1
              rw [hA2.dist haL (by omega)] at HO2
              have l1 := hA1.lt (by omega)
              have l2 := hA2.lt (by omega)
              have HC1 := HC.out k
              have HC2 := HC.out R2
              obtain ⟨T2, hT2⟩ : ∃ T, T = trkIt Z l m off k := ⟨_, rfl⟩
              obtain ⟨T3, hT3⟩ : ∃ T, T = trkIt Z l m off R2 := ⟨_, rfl⟩
              rw [← hT2] at HO1 l1 HC1
              rw [← hT3] at HO2 l2 HC2
              have HO1 := Lib.hid HO1
              have HO2 := Lib.hid HO2
              have HC1 := Lib.hid HC1
              have HC2 := Lib.hid HC2
              have hR2N : R2 < N := by omega
              have hR2i : (R2 : Int) < (N : Int) := by omega
              have d3 : decide (((y - R2 : Nat) : Int) < ((y - k : Nat) : Int)) = false := decide_eq_false (by omega)
              obtain ⟨D1, hD1⟩ : ∃ D, D = y - k := ⟨_, rfl⟩
              obtain ⟨D2, hD2⟩ : ∃ D, D = y - R2 := ⟨_, rfl⟩
              rw [← hD1] at HO1 d3
              rw [← hD2] at HO2 d3
              have hD12 : D1 ≤ D2 := by omega
              clear hA1 hA2 hT2 hT3 hD1 hD2 hRk
              go_wp2
              refine wp_region_held_drew (S := (fun u => (u.cell? ⟨w1.heap.size, 0, none⟩ = some (.string (str l)) ∧ u.cell? ⟨w1.heap.size, 1, none⟩ = some (.int .i64 (m : Int))) ∧ u.cell? (ad.add k) = some (.int .i64 (T2 : Int)) ∧ u.cell? (ad.add R2) = some (.int .i64 (T3 : Int)))) (by kernel_rfl) ?_ (fun hHeld => ?_)
              · (try dsimp only)
                exact ⟨HTV.out _ (by first | assumption | exact Below.drew (by assumption)), HC1.out _ hltk (by first | assumption | exact Below.drew (by assumption)), HC2.out _ hR2N (by first | assumption | exact Below.drew (by assumption))⟩
              first
                | (refine wpAnyH_take (i := 0) (oi := ⟨(some 97), _, _, _, _, _⟩) (v := ?_) rfl (by kernel_rfl) (by kernel_rfl) (by kernel_rfl) (fun _ _ _ h => h) (Or.inl ⟨by rfl, ?_⟩) (by assumption) ?_; rotate_left; (focus (intro ww hSw; (try dsimp only at hSw); go_simp; (try with_reducible rfl))))
                | (refine wpAnyH_take (i := 0) (oi := ⟨(some 97), _, _, _, _, _⟩) (v := undef) rfl (by kernel_rfl) (by kernel_rfl) (by kernel_rfl) (fun _ _ _ h => h) (Or.inr ⟨by rfl, rfl⟩) (by assumption) ?_)
              (try simp only [Act.put, List.setIfInBounds_toArray, List.set_cons_zero, List.set_cons_succ])
              first
                | (refine wpAnyH_take (i := 1) (oi := ⟨(some 98), _, _, _, _, _⟩) (v := ?_) rfl (by kernel_rfl) (by kernel_rfl) (by kernel_rfl) (fun _ _ _ h => h) (Or.inl ⟨by rfl, ?_⟩) (by assumption) ?_; rotate_left; (focus (intro ww hSw; (try dsimp only at hSw); go_simp; (try with_reducible rfl))))
                | (refine wpAnyH_take (i := 1) (oi := ⟨(some 98), _, _, _, _, _⟩) (v := undef) rfl (by kernel_rfl) (by kernel_rfl) (by kernel_rfl) (fun _ _ _ h => h) (Or.inr ⟨by rfl, rfl⟩) (by assumption) ?_)
              (try simp only [Act.put, List.setIfInBounds_toArray, List.set_cons_zero, List.set_cons_succ])
              first
                | (refine wpAnyH_take (i := 2) (oi := ⟨(some 99), _, _, _, _, _⟩) (v := ?_) rfl (by kernel_rfl) (by kernel_rfl) (by kernel_rfl) (fun _ _ _ h => h) (Or.inl ⟨by rfl, ?_⟩) (by assumption) ?_; rotate_left; (focus (intro ww hSw; (try dsimp only at hSw); go_simp; (try with_reducible rfl))))
                | (refine wpAnyH_take (i := 2) (oi := ⟨(some 99), _, _, _, _, _⟩) (v := undef) rfl (by kernel_rfl) (by kernel_rfl) (by kernel_rfl) (fun _ _ _ h => h) (Or.inr ⟨by rfl, rfl⟩) (by assumption) ?_)
              (try simp only [Act.put, List.setIfInBounds_toArray, List.set_cons_zero, List.set_cons_succ])
              first
                | (refine wpAnyH_take (i := 3) (oi := ⟨(some 100), _, _, _, _, _⟩) (v := ?_) rfl (by kernel_rfl) (by kernel_rfl) (by kernel_rfl) (fun _ _ _ h => h) (Or.inl ⟨by rfl, ?_⟩) (by assumption) ?_; rotate_left; (focus (intro ww hSw; (try dsimp only at hSw); go_simp; (try with_reducible rfl))))
                | (refine wpAnyH_take (i := 3) (oi := ⟨(some 100), _, _, _, _, _⟩) (v := undef) rfl (by kernel_rfl) (by kernel_rfl) (by kernel_rfl) (fun _ _ _ h => h) (Or.inr ⟨by rfl, rfl⟩) (by assumption) ?_)
              (try simp only [Act.put, List.setIfInBounds_toArray, List.set_cons_zero, List.set_cons_succ])
              first
                | (refine wpAnyH_take (i := 4) (oi := ⟨(some 101), _, _, _, _, _⟩) (v := ?_) rfl (by kernel_rfl) (by kernel_rfl) (by kernel_rfl) (fun _ _ _ h => h) (Or.inl ⟨by rfl, ?_⟩) (by assumption) ?_; rotate_left; (focus (intro ww hSw; (try dsimp only at hSw); go_simp; (try with_reducible rfl))))
                | (refine wpAnyH_take (i := 4) (oi := ⟨(some 101), _, _, _, _, _⟩) (v := undef) rfl (by kernel_rfl) (by kernel_rfl) (by kernel_rfl) (fun _ _ _ h => h) (Or.inr ⟨by rfl, rfl⟩) (by assumption) ?_)
              (try simp only [Act.put, List.setIfInBounds_toArray, List.set_cons_zero, List.set_cons_succ])
              first
                | (refine wpAnyH_take (i := 5) (oi := ⟨(some 102), _, _, _, _, _⟩) (v := ?_) rfl (by kernel_rfl) (by kernel_rfl) (by kernel_rfl) (fun _ _ _ h => h) (Or.inl ⟨by rfl, ?_⟩) (by assumption) ?_; rotate_left; (focus (intro ww hSw; (try dsimp only at hSw); go_simp; (try with_reducible rfl))))
                | (refine wpAnyH_take (i := 5) (oi := ⟨(some 102), _, _, _, _, _⟩) (v := undef) rfl (by kernel_rfl) (by kernel_rfl) (by kernel_rfl) (fun _ _ _ h => h) (Or.inr ⟨by rfl, rfl⟩) (by assumption) ?_)
              (try simp only [Act.put, List.setIfInBounds_toArray, List.set_cons_zero, List.set_cons_succ])
              first
                | (refine wpAnyH_take (i := 7) (oi := ⟨(some 104), _, _, _, _, _⟩) (v := ?_) rfl (by kernel_rfl) (by kernel_rfl) (by kernel_rfl) (fun _ _ _ h => h) (Or.inl ⟨by rfl, ?_⟩) (by assumption) ?_; rotate_left; (focus (intro ww hSw; (try dsimp only at hSw); go_simp; (try with_reducible rfl))))
                | (refine wpAnyH_take (i := 7) (oi := ⟨(some 104), _, _, _, _, _⟩) (v := undef) rfl (by kernel_rfl) (by kernel_rfl) (by kernel_rfl) (fun _ _ _ h => h) (Or.inr ⟨by rfl, rfl⟩) (by assumption) ?_)
              (try simp only [Act.put, List.setIfInBounds_toArray, List.set_cons_zero, List.set_cons_succ])
              first
                | (refine wpAnyH_take (i := 8) (oi := ⟨(some 105), _, _, _, _, _⟩) (v := ?_) rfl (by kernel_rfl) (by kernel_rfl) (by kernel_rfl) (fun _ _ _ h => h) (Or.inl ⟨by rfl, ?_⟩) (by assumption) ?_; rotate_left; (focus (intro ww hSw; (try dsimp only at hSw); go_simp; (try with_reducible rfl))))
                | (refine wpAnyH_take (i := 8) (oi := ⟨(some 105), _, _, _, _, _⟩) (v := undef) rfl (by kernel_rfl) (by kernel_rfl) (by kernel_rfl) (fun _ _ _ h => h) (Or.inr ⟨by rfl, rfl⟩) (by assumption) ?_)
              (try simp only [Act.put, List.setIfInBounds_toArray, List.set_cons_zero, List.set_cons_succ])
              first
                | (refine wpAnyH_take (i := 9) (oi := ⟨(some 106), _, _, _, _, _⟩) (v := ?_) rfl (by kernel_rfl) (by kernel_rfl) (by kernel_rfl) (fun _ _ _ h => h) (Or.inl ⟨by rfl, ?_⟩) (by assumption) ?_; rotate_left; (focus (intro ww hSw; (try dsimp only at hSw); go_simp; (try with_reducible rfl))))
                | (refine wpAnyH_take (i := 9) (oi := ⟨(some 106), _, _, _, _, _⟩) (v := undef) rfl (by kernel_rfl) (by kernel_rfl) (by kernel_rfl) (fun _ _ _ h => h) (Or.inr ⟨by rfl, rfl⟩) (by assumption) ?_)
              (try simp only [Act.put, List.setIfInBounds_toArray, List.set_cons_zero, List.set_cons_succ])
              first
                | (refine wpAnyH_take (i := 10) (oi := ⟨(some 107), _, _, _, _, _⟩) (v := ?_) rfl (by kernel_rfl) (by kernel_rfl) (by kernel_rfl) (fun _ _ _ h => h) (Or.inl ⟨by rfl, ?_⟩) (by assumption) ?_; rotate_left; (focus (intro ww hSw; (try dsimp only at hSw); go_simp; (try with_reducible rfl))))
                | (refine wpAnyH_take (i := 10) (oi := ⟨(some 107), _, _, _, _, _⟩) (v := undef) rfl (by kernel_rfl) (by kernel_rfl) (by kernel_rfl) (fun _ _ _ h => h) (Or.inr ⟨by rfl, rfl⟩) (by assumption) ?_)
              (try simp only [Act.put, List.setIfInBounds_toArray, List.set_cons_zero, List.set_cons_succ])
              first
                | (refine wpAnyH_take (i := 11) (oi := ⟨(some 108), _, _, _, _, _⟩) (v := ?_) rfl (by kernel_rfl) (by kernel_rfl) (by kernel_rfl) (fun _ _ _ h => h) (Or.inl ⟨by rfl, ?_⟩) (by assumption) ?_; rotate_left; (focus (intro ww hSw; (try dsimp only at hSw); go_simp; (try with_reducible rfl))))
                | (refine wpAnyH_take (i := 11) (oi := ⟨(some 108), _, _, _, _, _⟩) (v := undef) rfl (by kernel_rfl) (by kernel_rfl) (by kernel_rfl) (fun _ _ _ h => h) (Or.inr ⟨by rfl, rfl⟩) (by assumption) ?_)
              (try simp only [Act.put, List.setIfInBounds_toArray, List.set_cons_zero, List.set_cons_succ])
              first
                | (refine wpAnyH_take (i := 12) (oi := ⟨(some 109), _, _, _, _, _⟩) (v := ?_) rfl (by kernel_rfl) (by kernel_rfl) (by kernel_rfl) (fun _ _ _ h => h) (Or.inl ⟨by rfl, ?_⟩) (by assumption) ?_; rotate_left; (focus (intro ww hSw; (try dsimp only at hSw); go_simp; (try with_reducible rfl))))
                | (refine wpAnyH_take (i := 12) (oi := ⟨(some 109), _, _, _, _, _⟩) (v := undef) rfl (by kernel_rfl) (by kernel_rfl) (by kernel_rfl) (fun _ _ _ h => h) (Or.inr ⟨by rfl, rfl⟩) (by assumption) ?_)
              (try simp only [Act.put, List.setIfInBounds_toArray, List.set_cons_zero, List.set_cons_succ])
              first
                | (refine wpAnyH_take (i := 13) (oi := ⟨(some 110), _, _, _, _, _⟩) (v := ?_) rfl (by kernel_rfl) (by kernel_rfl) (by kernel_rfl) (fun _ _ _ h => h) (Or.inl ⟨by rfl, ?_⟩) (by assumption) ?_; rotate_left; (focus (intro ww hSw; (try dsimp only at hSw); go_simp; (try with_reducible rfl))))
                | (refine wpAnyH_take (i := 13) (oi := ⟨(some 110), _, _, _, _, _⟩) (v := undef) rfl (by kernel_rfl) (by kernel_rfl) (by kernel_rfl) (fun _ _ _ h => h) (Or.inr ⟨by rfl, rfl⟩) (by assumption) ?_)
              (try simp only [Act.put, List.setIfInBounds_toArray, List.set_cons_zero, List.set_cons_succ])
              refine wpAnyH_ready (rs := [6]) (by kernel_rfl) (by simp) ?_
              refine AllReadyH.cons (o := ⟨(some 103), _, _, _, _, _⟩) rfl (fun K hK => ?_) AllReadyH.nil
              go_simp
              refine (relB (W0 := V) (by first | assumption | exact Below.drew (by assumption)) (HO1.out _ l1)).mono ?_
              rintro e q1 ⟨rfl, hq1⟩
              clear hb
              go_wp2_with fail
              refine hK.out _ _ ?_ (fun hHeld => ?_)
              · (try dsimp only)
                exact ⟨HTV.out _ (by first | assumption | exact Below.drew (by assumption)), HC1.out _ hltk (by first | assumption | exact Below.drew (by assumption)), HC2.out _ hR2N (by first | assumption | exact Below.drew (by assumption))⟩
              clear hK K
              (try simp only [Act.put, List.setIfInBounds_toArray, List.set_cons_zero, List.set_cons_succ])
              refine wpAnyH_ready (rs := [14]) (by kernel_rfl) (by simp) ?_
              refine AllReadyH.cons (o := ⟨(some 111), _, _, _, _, _⟩) rfl (fun K hK => ?_) AllReadyH.nil
              go_simp
              refine (relB (W0 := V) (by first | assumption | exact Below.drew (by assumption)) (HO2.out _ l2)).mono ?_
              rintro e q2 ⟨rfl, hq2⟩
              clear hq1
              go_wp2_with fail
              refine hK.out _ _ ?_ (fun hHeld => ?_)
              · (try dsimp only)
                exact ⟨HTV.out _ (by first | assumption | exact Below.drew (by assumption)), HC1.out _ hltk (by first | assumption | exact Below.drew (by assumption)), HC2.out _ hR2N (by first | assumption | exact Below.drew (by assumption))⟩
              clear hK K
              (try simp only [Act.put, List.setIfInBounds_toArray, List.set_cons_zero, List.set_cons_succ])
              first
                | (refine wpAnyH_take (i := 15) (oi := ⟨(some 112), _, _, _, _, _⟩) (v := ?_) rfl (by kernel_rfl) (by kernel_rfl) (by kernel_rfl) (fun _ _ _ h => h) (Or.inl ⟨by rfl, ?_⟩) (by assumption) ?_; rotate_left; (focus (intro ww hSw; (try dsimp only at hSw); go_simp; (try with_reducible rfl))))
                | (refine wpAnyH_take (i := 15) (oi := ⟨(some 112), _, _, _, _, _⟩) (v := undef) rfl (by kernel_rfl) (by kernel_rfl) (by kernel_rfl) (fun _ _ _ h => h) (Or.inr ⟨by rfl, rfl⟩) (by assumption) ?_)
              (try simp only [Act.put, List.setIfInBounds_toArray, List.set_cons_zero, List.set_cons_succ])
              refine wpAnyH_done (by kernel_rfl) ?_ _
              go_wp2
              go_roundw
              case rel => exact ⟨k + 1, by go_num, by omega, by omega, (by first | assumption | exact Below.drew (by assumption))⟩
              case measure => simp [intOf]; omega
            · have hbu := below_next HBV.out hb
              go_wp2
              go_roundw
              case rel => exact ⟨d + 1, rfl, by omega, by omega, hbu⟩
              case measure => simp [intOf]; omega
        · have d1 : decide ((0 : Int) < (y : Int)) = false := decide_eq_false (by omega)
          clear x1 x2 hb c0 c1
          go_wp2
          go_loopw [13] (fun i wr => ∃ k : Nat, i = .int .i64 (k : Int) ∧ 1 ≤ k ∧ k ≤ N ∧ Below V.heap.size V wr) (fun i _ => N - (intOf i).toNat)
          case atStart => exact ⟨1, rfl, Nat.le_refl _, by omega, hb2⟩
          case round =>
            clear hb2
            obtain ⟨k, rfl, hk1, hk, hb⟩ := hrel
            by_cases hltk : k < N
            · obtain ⟨R2, hR2, hRk⟩ : ∃ R2 : Nat, (k : Int) - 1 = (R2 : Int) ∧ k = R2 + 1 := ⟨k - 1, by omega, by omega⟩
              have hRw2 : IntKind.i64.wrap (R2 : Int) = (R2 : Int) := IntWalk.i64_in _ (by omega)
              have hA1 := HAT.out k
              have hA2 := HAT.out R2
              have HO1 := HOD.out (trkIt Z l m off k)
              have HO2 := HOD.out (trkIt Z l m off R2)
              rw [hA1.dist haL (by omega)] at HO1
              rw [hA2.dist haL (by omega)] at HO2
              have l1 := hA1.lt (by omega)
              have l2 := hA2.lt (by omega)
              have HC1 := HC.out k
              have HC2 := HC.out R2
              obtain ⟨T2, hT2⟩ : ∃ T, T = trkIt Z l m off k := ⟨_, rfl⟩
              obtain ⟨T3, hT3⟩ : ∃ T, T = trkIt Z l m off R2 := ⟨_, rfl⟩
              rw [← hT2] at HO1 l1 HC1
              rw [← hT3] at HO2 l2 HC2
              have HO1 := Lib.hid HO1
              have HO2 := Lib.hid HO2
              have HC1 := Lib.hid HC1
              have HC2 := Lib.hid HC2
              have hR2N : R2 < N := by omega
              have hR2i : (R2 : Int) < (N : Int) := by omega
              have d3 : decide (((y - R2 : Nat) : Int) < ((y - k : Nat) : Int)) = false := decide_eq_false (by omega)
              obtain ⟨D1, hD1⟩ : ∃ D, D = y - k := ⟨_, rfl⟩
              obtain ⟨D2, hD2⟩ : ∃ D, D = y - R2 := ⟨_, rfl⟩
              rw [← hD1] at HO1 d3
              rw [← hD2] at HO2 d3
              have hD12 : D1 ≤ D2 := by omega
              clear hA1 hA2 hT2 hT3 hD1 hD2 hRk
              go_wp2
              refine wp_region_held_drew (S := (fun u => (u.cell? ⟨w1.heap.size, 0, none⟩ = some (.string (str l)) ∧ u.cell? ⟨w1.heap.size, 1, none⟩ = some (.int .i64 (m : Int))) ∧ u.cell? (ad.add k) = some (.int .i64 (T2 : Int)) ∧ u.cell? (ad.add R2) = some (.int .i64 (T3 : Int)))) (by kernel_rfl) ?_ (fun hHeld => ?_)
              · (try dsimp only)
                exact ⟨HTV.out _ (by first | assumption | exact Below.drew (by assumption)), HC1.out _ hltk (by first | assumption | exact Below.drew (by assumption)), HC2.out _ hR2N (by first | assumption | exact Below.drew (by assumption))⟩
              first
                | (refine wpAnyH_take (i := 0) (oi := ⟨(some 97), _, _, _, _, _⟩) (v := ?_) rfl (by kernel_rfl) (by kernel_rfl) (by kernel_rfl) (fun _ _ _ h => h) (Or.inl ⟨by rfl, ?_⟩) (by assumption) ?_; rotate_left; (focus (intro ww hSw; (try dsimp only at hSw); go_simp; (try with_reducible rfl))))
                | (refine wpAnyH_take (i := 0) (oi := ⟨(some 97), _, _, _, _, _⟩) (v := undef) rfl (by kernel_rfl) (by kernel_rfl) (by kernel_rfl) (fun _ _ _ h => h) (Or.inr ⟨by rfl, rfl⟩) (by assumption) ?_)
              (try simp only [Act.put, List.setIfInBounds_toArray, List.set_cons_zero, List.set_cons_succ])
              first
                | (refine wpAnyH_take (i := 1) (oi := ⟨(some 98), _, _, _, _, _⟩) (v := ?_) rfl (by kernel_rfl) (by kernel_rfl) (by kernel_rfl) (fun _ _ _ h => h) (Or.inl ⟨by rfl, ?_⟩) (by assumption) ?_; rotate_left; (focus (intro ww hSw; (try dsimp only at hSw); go_simp; (try with_reducible rfl))))
                | (refine wpAnyH_take (i := 1) (oi := ⟨(some 98), _, _, _, _, _⟩) (v := undef) rfl (by kernel_rfl) (by kernel_rfl) (by kernel_rfl) (fun _ _ _ h => h) (Or.inr ⟨by rfl, rfl⟩) (by assumption) ?_)
              (try simp only [Act.put, List.setIfInBounds_toArray, List.set_cons_zero, List.set_cons_succ])
              first
                | (refine wpAnyH_take (i := 2) (oi := ⟨(some 99), _, _, _, _, _⟩) (v := ?_) rfl (by kernel_rfl) (by kernel_rfl) (by kernel_rfl) (fun _ _ _ h => h) (Or.inl ⟨by rfl, ?_⟩) (by assumption) ?_; rotate_left; (focus (intro ww hSw; (try dsimp only at hSw); go_simp; (try with_reducible rfl))))
                | (refine wpAnyH_take (i := 2) (oi := ⟨(some 99), _, _, _, _, _⟩) (v := undef) rfl (by kernel_rfl) (by kernel_rfl) (by kernel_rfl) (fun _ _ _ h => h) (Or.inr ⟨by rfl, rfl⟩) (by assumption) ?_)
              (try simp only [Act.put, List.setIfInBounds_toArray, List.set_cons_zero, List.set_cons_succ])
              first
                | (refine wpAnyH_take (i := 3) (oi := ⟨(some 100), _, _, _, _, _⟩) (v := ?_) rfl (by kernel_rfl) (by kernel_rfl) (by kernel_rfl) (fun _ _ _ h => h) (Or.inl ⟨by rfl, ?_⟩) (by assumption) ?_; rotate_left; (focus (intro ww hSw; (try dsimp only at hSw); go_simp; (try with_reducible rfl))))
                | (refine wpAnyH_take (i := 3) (oi := ⟨(some 100), _, _, _, _, _⟩) (v := undef) rfl (by kernel_rfl) (by kernel_rfl) (by kernel_rfl) (fun _ _ _ h => h) (Or.inr ⟨by rfl, rfl⟩) (by assumption) ?_)
              (try simp only [Act.put, List.setIfInBounds_toArray, List.set_cons_zero, List.set_cons_succ])
              first
                | (refine wpAnyH_take (i := 4) (oi := ⟨(some 101), _, _, _, _, _⟩) (v := ?_) rfl (by kernel_rfl) (by kernel_rfl) (by kernel_rfl) (fun _ _ _ h => h) (Or.inl ⟨by rfl, ?_⟩) (by assumption) ?_; rotate_left; (focus (intro ww hSw; (try dsimp only at hSw); go_simp; (try with_reducible rfl))))
                | (refine wpAnyH_take (i := 4) (oi := ⟨(some 101), _, _, _, _, _⟩) (v := undef) rfl (by kernel_rfl) (by kernel_rfl) (by kernel_rfl) (fun _ _ _ h => h) (Or.inr ⟨by rfl, rfl⟩) (by assumption) ?_)
              (try simp only [Act.put, List.setIfInBounds_toArray, List.set_cons_zero, List.set_cons_succ])
              first
                | (refine wpAnyH_take (i := 5) (oi := ⟨(some 102), _, _, _, _, _⟩) (v := ?_) rfl (by kernel_rfl) (by kernel_rfl) (by kernel_rfl) (fun _ _ _ h => h) (Or.inl ⟨by rfl, ?_⟩) (by assumption) ?_; rotate_left; (focus (intro ww hSw; (try dsimp only at hSw); go_simp; (try with_reducible rfl))))
                | (refine wpAnyH_take (i := 5) (oi := ⟨(some 102), _, _, _, _, _⟩) (v := undef) rfl (by kernel_rfl) (by kernel_rfl) (by kernel_rfl) (fun _ _ _ h => h) (Or.inr ⟨by rfl, rfl⟩) (by assumption) ?_)
              (try simp only [Act.put, List.setIfInBounds_toArray, List.set_cons_zero, List.set_cons_succ])
              first
                | (refine wpAnyH_take (i := 7) (oi := ⟨(some 104), _, _, _, _, _⟩) (v := ?_) rfl (by kernel_rfl) (by kernel_rfl) (by kernel_rfl) (fun _ _ _ h => h) (Or.inl ⟨by rfl, ?_⟩) (by assumption) ?_; rotate_left; (focus (intro ww hSw; (try dsimp only at hSw); go_simp; (try with_reducible rfl))))
                | (refine wpAnyH_take (i := 7) (oi := ⟨(some 104), _, _, _, _, _⟩) (v := undef) rfl (by kernel_rfl) (by kernel_rfl) (by kernel_rfl) (fun _ _ _ h => h) (Or.inr ⟨by rfl, rfl⟩) (by assumption) ?_)
              (try simp only [Act.put, List.setIfInBounds_toArray, List.set_cons_zero, List.set_cons_succ])
              first
                | (refine wpAnyH_take (i := 8) (oi := ⟨(some 105), _, _, _, _, _⟩) (v := ?_) rfl (by kernel_rfl) (by kernel_rfl) (by kernel_rfl) (fun _ _ _ h => h) (Or.inl ⟨by rfl, ?_⟩) (by assumption) ?_; rotate_left; (focus (intro ww hSw; (try dsimp only at hSw); go_simp; (try with_reducible rfl))))
                | (refine wpAnyH_take (i := 8) (oi := ⟨(some 105), _, _, _, _, _⟩) (v := undef) rfl (by kernel_rfl) (by kernel_rfl) (by kernel_rfl) (fun _ _ _ h => h) (Or.inr ⟨by rfl, rfl⟩) (by assumption) ?_)
              (try simp only [Act.put, List.setIfInBounds_toArray, List.set_cons_zero, List.set_cons_succ])
              first
                | (refine wpAnyH_take (i := 9) (oi := ⟨(some 106), _, _, _, _, _⟩) (v := ?_) rfl (by kernel_rfl) (by kernel_rfl) (by kernel_rfl) (fun _ _ _ h => h) (Or.inl ⟨by rfl, ?_⟩) (by assumption) ?_; rotate_left; (focus (intro ww hSw; (try dsimp only at hSw); go_simp; (try with_reducible rfl))))
                | (refine wpAnyH_take (i := 9) (oi := ⟨(some 106), _, _, _, _, _⟩) (v := undef) rfl (by kernel_rfl) (by kernel_rfl) (by kernel_rfl) (fun _ _ _ h => h) (Or.inr ⟨by rfl, rfl⟩) (by assumption) ?_)
              (try simp only [Act.put, List.setIfInBounds_toArray, List.set_cons_zero, List.set_cons_succ])
              first
                | (refine wpAnyH_take (i := 10) (oi := ⟨(some 107), _, _, _, _, _⟩) (v := ?_) rfl (by kernel_rfl) (by kernel_rfl) (by kernel_rfl) (fun _ _ _ h => h) (Or.inl ⟨by rfl, ?_⟩) (by assumption) ?_; rotate_left; (focus (intro ww hSw; (try dsimp only at hSw); go_simp; (try with_reducible rfl))))
                | (refine wpAnyH_take (i := 10) (oi := ⟨(some 107), _, _, _, _, _⟩) (v := undef) rfl (by kernel_rfl) (by kernel_rfl) (by kernel_rfl) (fun _ _ _ h => h) (Or.inr ⟨by rfl, rfl⟩) (by assumption) ?_)
              (try simp only [Act.put, List.setIfInBounds_toArray, List.set_cons_zero, List.set_cons_succ])
              first
                | (refine wpAnyH_take (i := 11) (oi := ⟨(some 108), _, _, _, _, _⟩) (v := ?_) rfl (by kernel_rfl) (by kernel_rfl) (by kernel_rfl) (fun _ _ _ h => h) (Or.inl ⟨by rfl, ?_⟩) (by assumption) ?_; rotate_left; (focus (intro ww hSw; (try dsimp only at hSw); go_simp; (try with_reducible rfl))))
                | (refine wpAnyH_take (i := 11) (oi := ⟨(some 108), _, _, _, _, _⟩) (v := undef) rfl (by kernel_rfl) (by kernel_rfl) (by kernel_rfl) (fun _ _ _ h => h) (Or.inr ⟨by rfl, rfl⟩) (by assumption) ?_)
              (try simp only [Act.put, List.setIfInBounds_toArray, List.set_cons_zero, List.set_cons_succ])
              first
                | (refine wpAnyH_take (i := 12) (oi := ⟨(some 109), _, _, _, _, _⟩) (v := ?_) rfl (by kernel_rfl) (by kernel_rfl) (by kernel_rfl) (fun _ _ _ h => h) (Or.inl ⟨by rfl, ?_⟩) (by assumption) ?_; rotate_left; (focus (intro ww hSw; (try dsimp only at hSw); go_simp; (try with_reducible rfl))))
                | (refine wpAnyH_take (i := 12) (oi := ⟨(some 109), _, _, _, _, _⟩) (v := undef) rfl (by kernel_rfl) (by kernel_rfl) (by kernel_rfl) (fun _ _ _ h => h) (Or.inr ⟨by rfl, rfl⟩) (by assumption) ?_)
              (try simp only [Act.put, List.setIfInBounds_toArray, List.set_cons_zero, List.set_cons_succ])
              first
                | (refine wpAnyH_take (i := 13) (oi := ⟨(some 110), _, _, _, _, _⟩) (v := ?_) rfl (by kernel_rfl) (by kernel_rfl) (by kernel_rfl) (fun _ _ _ h => h) (Or.inl ⟨by rfl, ?_⟩) (by assumption) ?_; rotate_left; (focus (intro ww hSw; (try dsimp only at hSw); go_simp; (try with_reducible rfl))))
                | (refine wpAnyH_take (i := 13) (oi := ⟨(some 110), _, _, _, _, _⟩) (v := undef) rfl (by kernel_rfl) (by kernel_rfl) (by kernel_rfl) (fun _ _ _ h => h) (Or.inr ⟨by rfl, rfl⟩) (by assumption) ?_)
              (try simp only [Act.put, List.setIfInBounds_toArray, List.set_cons_zero, List.set_cons_succ])
              refine wpAnyH_ready (rs := [6]) (by kernel_rfl) (by simp) ?_
              refine AllReadyH.cons (o := ⟨(some 103), _, _, _, _, _⟩) rfl (fun K hK => ?_) AllReadyH.nil
              go_simp
              refine (relB (W0 := V) (by first | assumption | exact Below.drew (by assumption)) (HO1.out _ l1)).mono ?_
              rintro e q1 ⟨rfl, hq1⟩
              clear hb
              go_wp2_with fail
              refine hK.out _ _ ?_ (fun hHeld => ?_)
              · (try dsimp only)
                exact ⟨HTV.out _ (by first | assumption | exact Below.drew (by assumption)), HC1.out _ hltk (by first | assumption | exact Below.drew (by assumption)), HC2.out _ hR2N (by first | assumption | exact Below.drew (by assumption))⟩
              clear hK K
              (try simp only [Act.put, List.setIfInBounds_toArray, List.set_cons_zero, List.set_cons_succ])
              refine wpAnyH_ready (rs := [14]) (by kernel_rfl) (by simp) ?_
              refine AllReadyH.cons (o := ⟨(some 111), _, _, _, _, _⟩) rfl (fun K hK => ?_) AllReadyH.nil
              go_simp
              refine (relB (W0 := V) (by first | assumption | exact Below.drew (by assumption)) (HO2.out _ l2)).mono ?_
              rintro e q2 ⟨rfl, hq2⟩
              clear hq1
              go_wp2_with fail
              refine hK.out _ _ ?_ (fun hHeld => ?_)
              · (try dsimp only)
                exact ⟨HTV.out _ (by first | assumption | exact Below.drew (by assumption)), HC1.out _ hltk (by first | assumption | exact Below.drew (by assumption)), HC2.out _ hR2N (by first | assumption | exact Below.drew (by assumption))⟩
              clear hK K
              (try simp only [Act.put, List.setIfInBounds_toArray, List.set_cons_zero, List.set_cons_succ])
              first
                | (refine wpAnyH_take (i := 15) (oi := ⟨(some 112), _, _, _, _, _⟩) (v := ?_) rfl (by kernel_rfl) (by kernel_rfl) (by kernel_rfl) (fun _ _ _ h => h) (Or.inl ⟨by rfl, ?_⟩) (by assumption) ?_; rotate_left; (focus (intro ww hSw; (try dsimp only at hSw); go_simp; (try with_reducible rfl))))
                | (refine wpAnyH_take (i := 15) (oi := ⟨(some 112), _, _, _, _, _⟩) (v := undef) rfl (by kernel_rfl) (by kernel_rfl) (by kernel_rfl) (fun _ _ _ h => h) (Or.inr ⟨by rfl, rfl⟩) (by assumption) ?_)
              (try simp only [Act.put, List.setIfInBounds_toArray, List.set_cons_zero, List.set_cons_succ])
              refine wpAnyH_done (by kernel_rfl) ?_ _
              go_wp2
              go_roundw
              case rel => exact ⟨k + 1, by go_num, by omega, by omega, (by first | assumption | exact Below.drew (by assumption))⟩
              case measure => simp [intOf]; omega
            · have hbu := below_next HBV.out hb
              go_wp2
              go_roundw
              case rel => exact ⟨d + 1, rfl, by omega, by omega, hbu⟩
              case measure => simp [intOf]; omega
    · go_wp2_with fail
      refine (HL1.out _ hb).mono ?_
      rintro e y2 ⟨rfl, k⟩
      replace hb := below_next hb k
      clear k c0 c1
      obtain ⟨c0, c1⟩ := HT.out _ hb
      go_wp2_with fail
      refine (HL2.out _ hb).mono ?_
      rintro e y3 ⟨rfl, k⟩
      replace hb := below_next hb k
      clear k c0 c1
      obtain ⟨c0, c1⟩ := HT.out _ hb
      go_wp2_with fail
      refine (HL3.out _ hb).mono ?_
      rintro e y4 ⟨rfl, k⟩
      replace hb := below_next hb k
      clear k c0 c1
      obtain ⟨c0, c1⟩ := HT.out _ hb
      go_wp2
      go_ret
      exact ⟨rfl, HBU.out.trans (hb.mono hwU)⟩
end Go.Proofs.Ytmecbiphejjkmaa.fnTrackFinds
