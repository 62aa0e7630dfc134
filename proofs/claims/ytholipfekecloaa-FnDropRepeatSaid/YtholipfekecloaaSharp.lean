/- Maximal sequences and sharp pilots: contracts of the laws' helpers. -/
import Derived.Test.YtholipfekecloaaOrb
import Derived.Test.YtholipfekecloaaPsc
import Derived.Test.YtholipfekecloaaDrawH
import Derived.Test.YtholipfekecloaaSsC
namespace Go.Proofs.Ytholipfekecloaa
set_option maxRecDepth 20000
open Go.ChangeShapes Go.WideShapes Go.ChangeAt Go.RowKit
set_option linter.unusedVariables false
set_option linter.unusedSimpArgs false

theorem maxL_four : ∀ n : Fin 4, 1 ≤ (maxL (n + 2)).length := by decide +kernel
theorem sharp_all : ∀ n : Fin 4, ((maxL (n + 2)).all fun T => (List.range (2 ^ (n.1 + 2) - 2)).all fun q => decide (acf (runL (n + 2) T.toNat 1 (2 ^ (n.1 + 2) - 1)) (q + 1) = -1)) = true := by decide +kernel
theorem sharp_run {n T : Nat} (h2 : 2 ≤ n) (h5 : n ≤ 5) (hT : (T : Int) ∈ maxL n) : Sharp (runL n T 1 (2 ^ n - 1)) := by
  have h := sharp_all ⟨n - 2, by omega⟩
  simp only at h
  rw [show n - 2 + 2 = n by omega, List.all_eq_true] at h
  have h1 := h _ hT
  rw [List.all_eq_true, Int.toNat_natCast] at h1
  have h4 : 2 ^ 2 ≤ 2 ^ n := Nat.pow_le_pow_right (by omega) h2
  refine ⟨by rw [runL_len]; omega, fun q hq1 hq2 => ?_⟩
  rw [runL_len] at hq2
  have := h1 (q - 1) (List.mem_range.2 (by omega))
  rw [show q - 1 + 1 = q by omega] at this
  simpa using this
set_option maxHeartbeats 2000000 in
theorem ssMax_any (n P k : Nat) (w : World) (hP : P = 2 ^ n) (h2 : 2 ≤ n) (h5 : n ≤ 5) (hk : k ≤ 1048576) :
    Calls Try.prog 65 #[.int .i64 (n : Int), .int .i64 (k : Int)] w fun e w' => ∃ T : Nat, (T : Int) ∈ maxL n ∧ e = .returned (.string (str (runL n T 1 (P - 1)))) ∧ Below w.heap.size w w' := by
  have hP2 : P ≤ 256 := pow_le hP (by omega)
  have h4 : 4 ≤ P := by rw [hP]; exact Nat.pow_le_pow_right (show 0 < 2 by omega) (show 2 ≤ n from h2)
  have hlen : 1 ≤ (maxL n).length := by have := maxL_four ⟨n - 2, by omega⟩; rw [show n - 2 + 2 = n by omega] at this; exact this
  have HTP := Lib.hid (tapsI_any n P w hP h2 (by omega))
  have hpw : pw (n : Int) = (P : Int) := by unfold pw; rw [Int.toNat_natCast, ← hP]
  obtain ⟨q, hq, hqN⟩ : ∃ q : Nat, (k : Int) % ((maxL n).length : Int) = (q : Int) ∧ q < (maxL n).length := ⟨k % (maxL n).length, by simp, Nat.mod_lt _ (by omega)⟩
  have hmem : (maxL n).getD q 0 ∈ maxL n := by rw [List.getD_eq_getElem?_getD, List.getElem?_eq_getElem hqN]; exact List.getElem_mem hqN
  obtain ⟨T, hTe, hT1, hT2, _⟩ := maxTo_mem (k := 2 ^ n) hmem
  rw [← hP] at hT2
  have hmT : (T : Int) ∈ maxL n := by rw [← hTe]; exact hmem
  have hr : regOK (n : Int) (T : Int) ((1 : Nat) : Int) = true := by
    unfold regOK tapOK
    rw [hpw, inB_yes (by omega) (by omega), inB_yes (by omega) (by omega), inB_yes (by omega) (by omega)]
    rfl
  obtain ⟨Q, rfl⟩ : ∃ Q, P = Q + 1 := ⟨P - 1, by omega⟩
  have HRN : Hid (∀ u : World, Calls Try.prog 92 #[.agg #[.int .i64 (n : Int), .int .i64 (T : Int), .int .i64 1], .int .i64 (Q : Int)] u fun e w' => e = .returned (.string (str (runL n T 1 Q))) ∧ Below u.heap.size u w') := fun u => ssRunI_yes n T 1 (Q + 1) Q u hP h2 (by omega) hT2 (by omega) (by omega) hr
  obtain ⟨P2, e1, e2, e3, e4⟩ := pow_facts n (by omega)
  have e2' : wrap64 ((2 : Int) ^ n) = (Q : Int) + 1 := by rw [e2, e1, ← hP]; simp
  have HMT := Lib.hid hmT
  rw [Nat.add_sub_cancel]
  obtain ⟨N, hN⟩ : ∃ N, N = (maxL n).length := ⟨_, rfl⟩
  have HTE := Lib.hid hTe
  rw [← hN] at HTP hq hqN hlen
  have HNE := Lib.hid hN
  clear hP hpw hr hmem hTe hT1 hT2 hmT e1 e2 hN
  have hN0 : ¬ N = 0 := by omega
  go_enter Try.func65, Try.ntmps65
  go_wp2_with fail
  refine HTP.out.mono ?_
  rintro e w1 ⟨g, cap, rfl, hown, k1⟩
  have hcell : w1.cell? ⟨g, q, none⟩ = some (.int .i64 (T : Int)) := by
    have h1 : (maxL n)[q]? = some (T : Int) := by
      have h0 := HTE.out
      have hlt : q < (maxL n).length := by rw [← HNE.out]; exact hqN
      rw [List.getD_eq_getElem?_getD, List.getElem?_eq_getElem hlt] at h0
      rw [List.getElem?_eq_getElem hlt]
      exact congrArg some h0
    rw [hown.cell hqN, List.getElem?_map, h1]; rfl
  have hqN2 : (q : Int) < (N : Int) := by omega
  have HB := Lib.hid k1
  clear hown k1
  go_wp2_with fail
  refine (HRN.out _).mono ?_
  rintro e w2 ⟨rfl, k2⟩
  go_wp2
  go_ret
  exact ⟨T, HMT.out, rfl, HB.out.trans (k2.mono HB.out.size)⟩
theorem wf_u8 {n : Int} (h : (Lit.int .u8 n).wf = true) : 0 ≤ n ∧ n ≤ 255 := by
  simpa [Lit.wf, IntKind.min, IntKind.max, IntKind.signed, IntKind.bits] using h
theorem blk_add2 (a : Addr) (j : Nat) : (a.add j).block = a.block := by unfold Addr.add; split <;> rfl
theorem row_byte {w : World} {a : Option Addr} {len cap : Nat} {zs : List Int} (h : IsRow .u8 w a len cap zs) {k : Nat} (hk : k < len) : ∃ (ad : Addr) (x : Nat), a = some ad ∧ ad.block < w.heap.size ∧ w.cell? (ad.add k) = some (.int .u8 (x : Int)) ∧ x ≤ 255 := by
  rcases h with ⟨_, h, _, _⟩ | ⟨x, rfl, hlc, hcm, hz, hc, hw⟩
  · omega
  · have hkz : k < zs.length := by omega
    have h1 := hc k hkz
    have h2 := wf_u8 (hw (zs.getD k 0) (by rw [List.getD_eq_getElem?_getD, List.getElem?_eq_getElem hkz]; exact List.getElem_mem hkz))
    refine ⟨x, (zs.getD k 0).toNat, rfl, ?_, ?_, by omega⟩
    · have := block_lt h1
      rw [blk_add2] at this
      exact this
    · rw [h1, show (((zs.getD k 0).toNat : Nat) : Int) = zs.getD k 0 by omega]
/-- a pilot with a maximal code of 3 to 31 chips, an offset and a gain -/
def SharpP (l : List UInt8) (m at_ g : Nat) : Prop := Sharp l ∧ pilotOK l (m : Int) = true ∧ l.length ≤ 31 ∧ 1 ≤ m ∧ m ≤ 6 ∧ at_ < l.length * m ∧ 1 ≤ g ∧ g ≤ 9
set_option maxHeartbeats 4000000 in
theorem ssSharp_any (a0 : Option Addr) (len0 cap0 : Nat) (z0 : List Int) (a1 : Option Addr) (len1 cap1 : Nat) (w : World) (hw0 : IsRow .u8 w a0 len0 cap0 z0) (hl0 : len0 ≤ 1048576) (hl1 : len1 ≤ 1048576) :
    Calls Try.prog 26 #[.slice a0 len0 cap0, .slice a1 len1 cap1] w fun e w' => ∃ (l : List UInt8) (m at_ g : Nat), e = .returned (.tuple #[.agg #[.string (str l), .int .i64 (m : Int)], .int .i64 (at_ : Int), .int .i64 (g : Int)]) ∧ SharpP l m at_ g ∧ Below w.heap.size w w' := by
  obtain ⟨n, hn, hn2, hn5⟩ : ∃ n : Nat, 2 + (len0 : Int) % 4 = (n : Int) ∧ 2 ≤ n ∧ n ≤ 5 := ⟨2 + len0 % 4, by simp, by omega, by omega⟩
  obtain ⟨m, hm, hm1, hm6⟩ : ∃ m : Nat, 1 + (len1 : Int) / 3 % 6 = (m : Int) ∧ 1 ≤ m ∧ m ≤ 6 := ⟨1 + len1 / 3 % 6, by simp, by omega, by omega⟩
  obtain ⟨g, hg, hg1, hg9⟩ : ∃ g : Nat, 1 + (len1 : Int) / 5 % 9 = (g : Int) ∧ 1 ≤ g ∧ g ≤ 9 := ⟨1 + len1 / 5 % 9, by simp, by omega, by omega⟩
  have HMX := Lib.hid (fun (u : World) => ssMax_any n (2 ^ n) len1 u rfl hn2 hn5 hl1)
  have HROW := Lib.hid hw0
  clear hw0
  go_enter Try.func26, Try.ntmps26
  go_wp2_with fail
  obtain ⟨W, hW⟩ : ∃ W, W = w.alloc (.cells #[.string ⟨#[]⟩, .int .i64 0] 24) := ⟨_, rfl⟩
  have hb0 : Below w.heap.size w W := by rw [hW]; exact (Below.refl _ _).alloc (Nat.le_refl _) _
  have hWs : w.heap.size < W.heap.size := by rw [hW]; simp
  have hY : Two W w.heap.size (.string ⟨#[]⟩) (.int .i64 0) := by rw [hW]; exact Two.box _ _ _
  rw [← hW]
  clear hW
  try rw [hn]
  refine (HMX.out _).mono ?_
  rintro e u4 ⟨T, hT, rfl, hb⟩
  obtain ⟨l, hl⟩ : ∃ l, l = runL n T 1 (2 ^ n - 1) := ⟨_, rfl⟩
  have hP5 : 2 ^ n ≤ 2 ^ 5 := Nat.pow_le_pow_right (by omega) hn5
  have hSh : Sharp l := by rw [hl]; exact sharp_run hn2 hn5 hT
  have hll : l.length ≤ 31 := by rw [hl, runL_len]; omega
  have hl3 := hSh.1
  have hLb : 3 ≤ l.length * m ∧ l.length * m ≤ 186 := ⟨Nat.le_trans hl3 (Nat.le_mul_of_pos_right _ hm1), by have := Nat.mul_le_mul hll hm6; omega⟩
  have hp : pilotOK l (m : Int) = true := by
    unfold pilotOK
    rw [inB_yes (by omega) (by omega), Bool.and_true, hl]
    rw [hl, runL_len] at hl3
    exact run_seq (by omega) (by omega)
  have zl := str_size l
  rw [← hl]
  replace hY := hY.block (hb.block _ (by omega)) hb.size
  have hs4 := hb.size
  obtain ⟨V, hV⟩ : ∃ V, V = u4.alloc (.cells #[.string (str l), .int .i64 (m : Int)] 24) := ⟨_, rfl⟩
  have hX : Two V u4.heap.size (.string (str l)) (.int .i64 (m : Int)) := by rw [hV]; exact Two.box _ _ _
  have hYV : Two V w.heap.size (.string ⟨#[]⟩) (.int .i64 0) := by rw [hV]; exact hY.alloc _
  have hbV : Below W.heap.size u4 V := by rw [hV]; exact (Below.refl _ _).alloc (by omega) _
  have hbwV : Below w.heap.size w V := hb0.trans ((hb.trans hbV).mono (by omega))
  have hVs : u4.heap.size < V.heap.size := by rw [hV]; simp
  have HT : Hid (∀ u : World, Below V.heap.size V u → u.cell? ⟨u4.heap.size, 0, none⟩ = some (.string (str l)) ∧ u.cell? ⟨u4.heap.size, 1, none⟩ = some (.int .i64 (m : Int))) := fun u hu => ⟨(hX.below hu).1, (hX.below hu).2.1⟩
  have HYV := Lib.hid hYV
  have HBV := Lib.hid hbwV
  have HSH := Lib.hid hSh
  have HPO := Lib.hid hp
  have hne : w.heap.size ≠ u4.heap.size := by omega
  obtain ⟨L, hL⟩ : ∃ L, L = l.length * m := ⟨_, rfl⟩
  have HLE := Lib.hid hL
  rw [← hL] at hLb
  have eL : (l.length : Int) * (m : Int) = (L : Int) := by rw [hL]; simp
  have hbb := Below.refl V.heap.size V
  have hwV : w.heap.size ≤ V.heap.size := by omega
  clear hb hb0 hY hX hYV hbV hbwV hl hT hSh hp hP5 hL HMX
  go_wp2_with fail
  try rw [hm]
  rw [← hV]
  clear hV
  go_wp2
  go_loopw [9, 10] (fun s i wr => ∃ k v : Nat, s = .int .i64 (v : Int) ∧ i = .int .i64 (k : Int) ∧ k ≤ 4 ∧ k ≤ len0 ∧ v ≤ 255 * k ∧ Below V.heap.size V wr) (fun _ i _ => 4 - (intOf i).toNat)
  case atStart => exact ⟨0, 0, rfl, rfl, by omega, by omega, by omega, hbb⟩
  case round =>
    clear hbb
    obtain ⟨k, v, rfl, rfl, hk4, hk0, hv, hb⟩ := hrel
    have hfin : ∀ _ : k < len0 ∧ k < 4 ∨ ¬ k < len0 ∨ ¬ k < 4, True := fun _ => trivial
    by_cases hlt : k < len0 ∧ k < 4
    · obtain ⟨hlt1, hlt2⟩ := hlt
      obtain ⟨ad, x, rfl, hadb, hcell, hx⟩ := row_byte HROW.out hlt1
      have hc : wr.cell? (ad.add k) = some (.int .u8 (x : Int)) := by rw [hb.cell (by rw [blk_add2]; omega), HBV.out.cell (by rw [blk_add2]; exact hadb)]; exact hcell
      have d1 : decide ((k : Int) < (len0 : Int)) = true := decide_eq_true (by omega)
      have d2 : decide ((k : Int) < 4) = true := decide_eq_true (by omega)
      clear hcell
      go_wp2
      go_roundw
      case rel => exact ⟨k + 1, v + x, by go_num, by go_num, by omega, by omega, by omega, hb⟩
      case measure => simp [intOf]; omega
    · obtain ⟨q, hq, hqL⟩ : ∃ q : Nat, (v : Int) % (L : Int) = (q : Int) ∧ q < L := ⟨v % L, by simp, Nat.mod_lt _ (by omega)⟩
      have hL0 : ¬ L = 0 := by omega
      have hLw : IntKind.i64.wrap (L : Int) = (L : Int) := IntWalk.i64_in _ (by omega)
      have hgw : IntKind.i64.wrap (g : Int) = (g : Int) := IntWalk.i64_in _ (by omega)
      have eL2 : ((str l).size : Int) * (m : Int) = (L : Int) := by rw [zl]; exact eL
      obtain ⟨d0, d1, df, dl⟩ := HYV.out.block (hb.block _ (by omega)) hb.size
      have HBF := Lib.hid (HBV.out.trans (hb.mono hwV))
      have hbs := hb.size
      have hdisj : (k < len0 ∧ (4 : Int) ≤ (k : Int)) ∨ (len0 ≤ k ∧ (0 : Int) ≤ (k : Int)) := by omega
      have ht1 : Int.tmod (v : Int) (L : Int) = (q : Int) := by rw [Int.tmod_eq_emod_of_nonneg (by omega)]; exact hq
      have ht2 : IntKind.i64.wrap (1 + Int.tmod (IntKind.i64.wrap ((len1 : Int) / 5)) 9) = (g : Int) := by
        rw [IntWalk.i64_in ((len1 : Int) / 5) (by omega), Int.tmod_eq_emod_of_nonneg (by omega), hg]; exact hgw
      clear hlt hk4 hk0
      rcases hdisj with ⟨b1, b2⟩ | ⟨b1, b2⟩
      all_goals go_wp2
      all_goals first | (exfalso; omega) | skip
      all_goals
        refine wp_region_held_drew (S := (fun u => u.cell? ⟨u4.heap.size, 0, none⟩ = some (.string (str l)) ∧ u.cell? ⟨u4.heap.size, 1, none⟩ = some (.int .i64 (m : Int)))) (by kernel_rfl) ?_ (fun hHeld => ?_)
        · (try dsimp only)
          first | exact HT.out _ (by first | assumption | exact Below.drew (by assumption)) | exact two_over (HT.out _ (by first | assumption | exact Below.drew (by assumption))) hne
        first
          | (refine wpAnyH_take (i := 0) (oi := ⟨(some 42), _, _, _, _, _⟩) (v := ?_) rfl (by kernel_rfl) (by kernel_rfl) (by kernel_rfl) (fun _ _ _ h => h) (Or.inl ⟨by rfl, ?_⟩) (by assumption) ?_; rotate_left; (focus (intro ww hSw; (try dsimp only at hSw); go_simp; (try with_reducible rfl))))
          | (refine wpAnyH_take (i := 0) (oi := ⟨(some 42), _, _, _, _, _⟩) (v := undef) rfl (by kernel_rfl) (by kernel_rfl) (by kernel_rfl) (fun _ _ _ h => h) (Or.inr ⟨by rfl, rfl⟩) (by assumption) ?_)
        (try simp only [Act.put, List.setIfInBounds_toArray, List.set_cons_zero, List.set_cons_succ])
        first
          | (refine wpAnyH_take (i := 1) (oi := ⟨(some 43), _, _, _, _, _⟩) (v := ?_) rfl (by kernel_rfl) (by kernel_rfl) (by kernel_rfl) (fun _ _ _ h => h) (Or.inl ⟨by rfl, ?_⟩) (by assumption) ?_; rotate_left; (focus (intro ww hSw; (try dsimp only at hSw); go_simp; (try with_reducible rfl))))
          | (refine wpAnyH_take (i := 1) (oi := ⟨(some 43), _, _, _, _, _⟩) (v := undef) rfl (by kernel_rfl) (by kernel_rfl) (by kernel_rfl) (fun _ _ _ h => h) (Or.inr ⟨by rfl, rfl⟩) (by assumption) ?_)
        (try simp only [Act.put, List.setIfInBounds_toArray, List.set_cons_zero, List.set_cons_succ])
        first
          | (refine wpAnyH_take (i := 2) (oi := ⟨(some 44), _, _, _, _, _⟩) (v := ?_) rfl (by kernel_rfl) (by kernel_rfl) (by kernel_rfl) (fun _ _ _ h => h) (Or.inl ⟨by rfl, ?_⟩) (by assumption) ?_; rotate_left; (focus (intro ww hSw; (try dsimp only at hSw); go_simp; (try with_reducible rfl))))
          | (refine wpAnyH_take (i := 2) (oi := ⟨(some 44), _, _, _, _, _⟩) (v := undef) rfl (by kernel_rfl) (by kernel_rfl) (by kernel_rfl) (fun _ _ _ h => h) (Or.inr ⟨by rfl, rfl⟩) (by assumption) ?_)
        (try simp only [Act.put, List.setIfInBounds_toArray, List.set_cons_zero, List.set_cons_succ])
        first
          | (refine wpAnyH_take (i := 3) (oi := ⟨(some 45), _, _, _, _, _⟩) (v := ?_) rfl (by kernel_rfl) (by kernel_rfl) (by kernel_rfl) (fun _ _ _ h => h) (Or.inl ⟨by rfl, ?_⟩) (by assumption) ?_; rotate_left; (focus (intro ww hSw; (try dsimp only at hSw); go_simp; (try with_reducible rfl))))
          | (refine wpAnyH_take (i := 3) (oi := ⟨(some 45), _, _, _, _, _⟩) (v := undef) rfl (by kernel_rfl) (by kernel_rfl) (by kernel_rfl) (fun _ _ _ h => h) (Or.inr ⟨by rfl, rfl⟩) (by assumption) ?_)
        (try simp only [Act.put, List.setIfInBounds_toArray, List.set_cons_zero, List.set_cons_succ])
        first
          | (refine wpAnyH_take (i := 4) (oi := ⟨(some 46), _, _, _, _, _⟩) (v := ?_) rfl (by kernel_rfl) (by kernel_rfl) (by kernel_rfl) (fun _ _ _ h => h) (Or.inl ⟨by rfl, ?_⟩) (by assumption) ?_; rotate_left; (focus (intro ww hSw; (try dsimp only at hSw); go_simp; (try with_reducible rfl))))
          | (refine wpAnyH_take (i := 4) (oi := ⟨(some 46), _, _, _, _, _⟩) (v := undef) rfl (by kernel_rfl) (by kernel_rfl) (by kernel_rfl) (fun _ _ _ h => h) (Or.inr ⟨by rfl, rfl⟩) (by assumption) ?_)
        (try simp only [Act.put, List.setIfInBounds_toArray, List.set_cons_zero, List.set_cons_succ])
        first
          | (refine wpAnyH_take (i := 5) (oi := ⟨(some 47), _, _, _, _, _⟩) (v := ?_) rfl (by kernel_rfl) (by kernel_rfl) (by kernel_rfl) (fun _ _ _ h => h) (Or.inl ⟨by rfl, ?_⟩) (by assumption) ?_; rotate_left; (focus (intro ww hSw; (try dsimp only at hSw); go_simp; (try with_reducible rfl))))
          | (refine wpAnyH_take (i := 5) (oi := ⟨(some 47), _, _, _, _, _⟩) (v := undef) rfl (by kernel_rfl) (by kernel_rfl) (by kernel_rfl) (fun _ _ _ h => h) (Or.inr ⟨by rfl, rfl⟩) (by assumption) ?_)
        (try simp only [Act.put, List.setIfInBounds_toArray, List.set_cons_zero, List.set_cons_succ])
        first
          | (refine wpAnyH_take (i := 6) (oi := ⟨(some 48), _, _, _, _, _⟩) (v := ?_) rfl (by kernel_rfl) (by kernel_rfl) (by kernel_rfl) (fun _ _ _ h => h) (Or.inl ⟨by rfl, ?_⟩) (by assumption) ?_; rotate_left; (focus (intro ww hSw; (try dsimp only at hSw); go_simp; (try with_reducible rfl))))
          | (refine wpAnyH_take (i := 6) (oi := ⟨(some 48), _, _, _, _, _⟩) (v := undef) rfl (by kernel_rfl) (by kernel_rfl) (by kernel_rfl) (fun _ _ _ h => h) (Or.inr ⟨by rfl, rfl⟩) (by assumption) ?_)
        (try simp only [Act.put, List.setIfInBounds_toArray, List.set_cons_zero, List.set_cons_succ])
        first
          | (refine wpAnyH_take (i := 7) (oi := ⟨(some 49), _, _, _, _, _⟩) (v := ?_) rfl (by kernel_rfl) (by kernel_rfl) (by kernel_rfl) (fun _ _ _ h => h) (Or.inl ⟨by rfl, ?_⟩) (by assumption) ?_; rotate_left; (focus (intro ww hSw; (try dsimp only at hSw); go_simp; (try with_reducible rfl))))
          | (refine wpAnyH_take (i := 7) (oi := ⟨(some 49), _, _, _, _, _⟩) (v := undef) rfl (by kernel_rfl) (by kernel_rfl) (by kernel_rfl) (fun _ _ _ h => h) (Or.inr ⟨by rfl, rfl⟩) (by assumption) ?_)
        (try simp only [Act.put, List.setIfInBounds_toArray, List.set_cons_zero, List.set_cons_succ])
        first
          | (refine wpAnyH_take (i := 8) (oi := ⟨(some 50), _, _, _, _, _⟩) (v := ?_) rfl (by kernel_rfl) (by kernel_rfl) (by kernel_rfl) (fun _ _ _ h => h) (Or.inl ⟨by rfl, ?_⟩) (by assumption) ?_; rotate_left; (focus (intro ww hSw; (try dsimp only at hSw); go_simp; (try with_reducible rfl))))
          | (refine wpAnyH_take (i := 8) (oi := ⟨(some 50), _, _, _, _, _⟩) (v := undef) rfl (by kernel_rfl) (by kernel_rfl) (by kernel_rfl) (fun _ _ _ h => h) (Or.inr ⟨by rfl, rfl⟩) (by assumption) ?_)
        (try simp only [Act.put, List.setIfInBounds_toArray, List.set_cons_zero, List.set_cons_succ])
        first
          | (refine wpAnyH_take (i := 9) (oi := ⟨(some 51), _, _, _, _, _⟩) (v := ?_) rfl (by kernel_rfl) (by kernel_rfl) (by kernel_rfl) (fun _ _ _ h => h) (Or.inl ⟨by rfl, ?_⟩) (by assumption) ?_; rotate_left; (focus (intro ww hSw; (try dsimp only at hSw); go_simp; (try with_reducible rfl))))
          | (refine wpAnyH_take (i := 9) (oi := ⟨(some 51), _, _, _, _, _⟩) (v := undef) rfl (by kernel_rfl) (by kernel_rfl) (by kernel_rfl) (fun _ _ _ h => h) (Or.inr ⟨by rfl, rfl⟩) (by assumption) ?_)
        (try simp only [Act.put, List.setIfInBounds_toArray, List.set_cons_zero, List.set_cons_succ])
        first
          | (refine wpAnyH_take (i := 10) (oi := ⟨(some 52), _, _, _, _, _⟩) (v := ?_) rfl (by kernel_rfl) (by kernel_rfl) (by kernel_rfl) (fun _ _ _ h => h) (Or.inl ⟨by rfl, ?_⟩) (by assumption) ?_; rotate_left; (focus (intro ww hSw; (try dsimp only at hSw); go_simp; (try with_reducible rfl))))
          | (refine wpAnyH_take (i := 10) (oi := ⟨(some 52), _, _, _, _, _⟩) (v := undef) rfl (by kernel_rfl) (by kernel_rfl) (by kernel_rfl) (fun _ _ _ h => h) (Or.inr ⟨by rfl, rfl⟩) (by assumption) ?_)
        (try simp only [Act.put, List.setIfInBounds_toArray, List.set_cons_zero, List.set_cons_succ])
        first
          | (refine wpAnyH_take (i := 11) (oi := ⟨(some 53), _, _, _, _, _⟩) (v := ?_) rfl (by kernel_rfl) (by kernel_rfl) (by kernel_rfl) (fun _ _ _ h => h) (Or.inl ⟨by rfl, ?_⟩) (by assumption) ?_; rotate_left; (focus (intro ww hSw; (try dsimp only at hSw); go_simp; (try with_reducible rfl))))
          | (refine wpAnyH_take (i := 11) (oi := ⟨(some 53), _, _, _, _, _⟩) (v := undef) rfl (by kernel_rfl) (by kernel_rfl) (by kernel_rfl) (fun _ _ _ h => h) (Or.inr ⟨by rfl, rfl⟩) (by assumption) ?_)
        (try simp only [Act.put, List.setIfInBounds_toArray, List.set_cons_zero, List.set_cons_succ])
        first
          | (refine wpAnyH_take (i := 12) (oi := ⟨(some 54), _, _, _, _, _⟩) (v := ?_) rfl (by kernel_rfl) (by kernel_rfl) (by kernel_rfl) (fun _ _ _ h => h) (Or.inl ⟨by rfl, ?_⟩) (by assumption) ?_; rotate_left; (focus (intro ww hSw; (try dsimp only at hSw); go_simp; (try with_reducible rfl))))
          | (refine wpAnyH_take (i := 12) (oi := ⟨(some 54), _, _, _, _, _⟩) (v := undef) rfl (by kernel_rfl) (by kernel_rfl) (by kernel_rfl) (fun _ _ _ h => h) (Or.inr ⟨by rfl, rfl⟩) (by assumption) ?_)
        (try simp only [Act.put, List.setIfInBounds_toArray, List.set_cons_zero, List.set_cons_succ])
        first
          | (refine wpAnyH_take (i := 13) (oi := ⟨(some 55), _, _, _, _, _⟩) (v := ?_) rfl (by kernel_rfl) (by kernel_rfl) (by kernel_rfl) (fun _ _ _ h => h) (Or.inl ⟨by rfl, ?_⟩) (by assumption) ?_; rotate_left; (focus (intro ww hSw; (try dsimp only at hSw); go_simp; (try with_reducible rfl))))
          | (refine wpAnyH_take (i := 13) (oi := ⟨(some 55), _, _, _, _, _⟩) (v := undef) rfl (by kernel_rfl) (by kernel_rfl) (by kernel_rfl) (fun _ _ _ h => h) (Or.inr ⟨by rfl, rfl⟩) (by assumption) ?_)
        (try simp only [Act.put, List.setIfInBounds_toArray, List.set_cons_zero, List.set_cons_succ])
        refine wpAnyH_ready (rs := [14]) (by kernel_rfl) (by simp) ?_
        refine AllReadyH.cons (o := ⟨none, _, _, _, _, _⟩) rfl (fun K hK => ?_) AllReadyH.nil
        go_simp
        refine hK.out _ _ ?_ (fun hHeld => ?_)
        · (try dsimp only)
          first | exact HT.out _ (by first | assumption | exact Below.drew (by assumption)) | exact two_over (HT.out _ (by first | assumption | exact Below.drew (by assumption))) hne
        clear hK K
        (try simp only [Act.put, List.setIfInBounds_toArray, List.set_cons_zero, List.set_cons_succ])
        first
          | (refine wpAnyH_take (i := 15) (oi := ⟨(some 5), _, _, _, _, _⟩) (v := ?_) rfl (by kernel_rfl) (by kernel_rfl) (by kernel_rfl) (fun _ _ _ h => h) (Or.inl ⟨by rfl, ?_⟩) (by assumption) ?_; rotate_left; (focus (intro ww hSw; (try dsimp only at hSw); go_simp; (try with_reducible rfl))))
          | (refine wpAnyH_take (i := 15) (oi := ⟨(some 5), _, _, _, _, _⟩) (v := undef) rfl (by kernel_rfl) (by kernel_rfl) (by kernel_rfl) (fun _ _ _ h => h) (Or.inr ⟨by rfl, rfl⟩) (by assumption) ?_)
        (try simp only [Act.put, List.setIfInBounds_toArray, List.set_cons_zero, List.set_cons_succ])
        first
          | (refine wpAnyH_take (i := 16) (oi := ⟨(some 6), _, _, _, _, _⟩) (v := ?_) rfl (by kernel_rfl) (by kernel_rfl) (by kernel_rfl) (fun _ _ _ h => h) (Or.inl ⟨by rfl, ?_⟩) (by assumption) ?_; rotate_left; (focus (intro ww hSw; (try dsimp only at hSw); go_simp; (try with_reducible rfl))))
          | (refine wpAnyH_take (i := 16) (oi := ⟨(some 6), _, _, _, _, _⟩) (v := undef) rfl (by kernel_rfl) (by kernel_rfl) (by kernel_rfl) (fun _ _ _ h => h) (Or.inr ⟨by rfl, rfl⟩) (by assumption) ?_)
        (try simp only [Act.put, List.setIfInBounds_toArray, List.set_cons_zero, List.set_cons_succ])
        refine wpAnyH_done (by kernel_rfl) ?_ _
        go_wp2
        exact bodyPost_ret (v := .tuple #[.agg #[.string (str l), .int .i64 (m : Int)], .int .i64 (q : Int), .int .i64 (g : Int)]) (by simp [results, Try.results26, go_sem, d0, d1]) rfl ⟨l, m, q, g, rfl, ⟨HSH.out, HPO.out, hll, hm1, hm6, by rw [← HLE.out]; exact hqL, hg1, hg9⟩, (HBF.out.trans (two_set wr (Nat.le_refl w.heap.size) (.string (str l)) (.int .i64 (m : Int)))).drew⟩
end Go.Proofs.Ytholipfekecloaa
