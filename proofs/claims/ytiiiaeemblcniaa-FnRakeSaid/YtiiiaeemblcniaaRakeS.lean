/- Contract of RakeReceive of the reference (exact). -/
import Derived.Test.YtiiiaeemblcniaaRake
import Derived.Test.YtiiiaeemblcniaaDrawY
namespace Go.Proofs.Ytiiiaeemblcniaa
set_option maxRecDepth 20000
open Go.ChangeShapes Go.WideShapes Go.ChangeAt Go.RowKit
set_option linter.unusedVariables false
set_option linter.unusedSimpArgs false

theorem all_no {z ds : List Int} {s : ByteArray} {n : Int} {k : Nat} (hk : k < ds.length) (h : inB (ds.getD k 0) 0 3000 = false) : rkOK z s ds n = false := by
  unfold rkOK
  have : ds.all (rvOK z s ·) = false := by
    rw [List.all_eq_false]
    refine ⟨ds.getD k 0, ?_, by unfold rvOK; rw [h, Bool.and_false]; decide⟩
    rw [List.getD_eq_getElem?_getD, List.getElem?_eq_getElem hk]
    exact List.getElem_mem _
  rw [this, Bool.and_false]
theorem rk_ls {z ds : List Int} {s : ByteArray} {n : Int} (h : lsOK z s 0 n = false) : rkOK z s ds n = false := by
  cases hk : rkOK z s ds n with
  | false => rfl
  | true =>
    obtain ⟨⟨h1, _⟩, ⟨h3, h4⟩, h5⟩ := rk_parts hk
    obtain ⟨hz, hq, _, _⟩ := rv_parts (h5 (ds[0]'(by omega)) (List.getElem_mem _))
    unfold lsOK at h
    rw [hz, hq, inB_yes h3 h4, inB_yes (Int.le_refl 0) (by omega)] at h
    exact h
set_option maxHeartbeats 4000000 in
theorem rkS_any (A D : Option Addr) (c cd : Nat) (z ds : List Int) (s : ByteArray) (n : Int) (w : World) (hr : Reads w w.heap.size A z) (hd : Reads w w.heap.size D ds) (hl : z.length ≤ 1048576) (hdl : ds.length ≤ 1048576) (hs : s.size ≤ maxLen) :
    Calls Try.prog 14 #[.slice A z.length c, .string s, .slice D ds.length cd, .int .i64 n] w fun e w' => e = .returned (strRes (rkO z s ds n)) ∧ Below w.heap.size w w' := by
  have HV := Lib.hid (listenS_any A c z s 0 n w hr hl hs)
  cases e : lsOK z s 0 n with
  | false =>
    rw [rk_no (rk_ls e)]
    rw [e] at HV
    clear hr hd
    go_enter Try.func14, Try.ntmps14
    go_wp2_with fail
    refine (HV.out).mono ?_
    rintro e w' ⟨rfl, rfl⟩
    go_wp2
    go_ret2
    exact ⟨rfl, Below.refl _ _⟩
  | true =>
    rw [e] at HV
    obtain ⟨hz, hq, _, N, h00, rfl, _, hN⟩ := ls_parts e
    clear h00
    have HL : Hid (∀ u : World, Calls Try.prog 41 #[.int .i64 (ds.length : Int), .int .i64 1, .int .i64 8] u fun e w' => e = .returned (.bool (inB (ds.length : Int) 1 8)) ∧ u = w') := Lib.hid fun u => l1In_any _ _ _ u
    cases hln : inB (ds.length : Int) 1 8 with
    | false =>
      rw [rk_no (by
        unfold rkOK
        unfold inB at hln
        simp only [Bool.and_eq_false_iff, decide_eq_false_iff_not] at hln
        rcases hln with h | h
        · rw [decide_eq_false (by omega)]; rfl
        · rw [decide_eq_false (show ¬ ds.length ≤ 8 by omega), Bool.and_false]; rfl)]
      rw [hln] at HL
      clear hr hd
      go_enter Try.func14, Try.ntmps14
      go_wp2_with fail
      refine (HV.out).mono ?_
      rintro e w' ⟨rfl, rfl⟩
      go_wp2_with fail
      refine (HL.out _).mono ?_
      rintro e w' ⟨rfl, rfl⟩
      go_wp2
      go_ret2
      exact ⟨rfl, Below.refl _ _⟩
    | true =>
      rw [hln] at HL
      have hln2 : 1 ≤ ds.length ∧ ds.length ≤ 8 := by
        unfold inB at hln
        simp only [Bool.and_eq_true, decide_eq_true_eq] at hln
        omega
      obtain ⟨M, hM⟩ : ∃ M, M = ds.length := ⟨_, rfl⟩
      have HM := Lib.hid hM
      have HD := Lib.hid hd
      have HRZ := Lib.hid hr
      rw [← hM] at hln2 HL ⊢
      obtain ⟨q1, q2, _⟩ := seq_parts hq
      have hql : s.data.toList.length ≤ 255 := by rw [data_length]; exact q2
      have HC : Hid (∀ (X : Nat) (u : World), X ≤ 3000 → Below w.heap.size w u → Calls Try.prog 37 #[.slice A z.length c, .string s, .int .i64 (X : Int), .int .i64 (N : Int)] u (RetL (dots z s.data.toList X N) u)) := Lib.hid fun X u hX hu =>
        despS_any A c z s X N u ((HRZ.out.below hu (Nat.le_refl _)).more hu.size) hz hq (by omega) hN
      have HI : Hid (∀ (x : Int) (u : World), Calls Try.prog 41 #[.int .i64 x, .int .i64 0, .int .i64 3000] u fun e w' => e = .returned (.bool (inB x 0 3000)) ∧ u = w') := Lib.hid fun x u => l1In_any _ _ _ u
      have HSG : Hid (∀ (A' : Option Addr) (c' : Nat) (u : World), Reads u u.heap.size A' (rkL z s.data.toList ds N M) → Calls Try.prog 36 #[.slice A' N c'] u fun e w' => e = .returned (.string (str (signs (rkL z s.data.toList ds N M)))) ∧ Below u.heap.size u w') := fun A' c' u hu => by
        have := signsS_any A' c' (rkL z s.data.toList ds N M) u hu (by rw [rkL_len]; omega)
        rw [rkL_len] at this
        exact this
      have HYES : Hid ((∀ j, j < M → inB (ds.getD j 0) 0 3000 = true) → rkO z s ds (N : Int) = some (signs (rkL z s.data.toList ds N M))) := Lib.hid fun h => by
        rw [rk_yes (rk_mk (by omega) (by omega) (by omega) (by omega) (fun d hd => by
          obtain ⟨j, hj, he⟩ := List.getElem_of_mem hd
          have := h j (by rw [hM]; exact hj)
          rw [List.getD_eq_getElem?_getD, List.getElem?_eq_getElem hj] at this
          unfold rvOK
          rw [hz, hq, ← he]
          exact this)), ← hM]
      have HNO : Hid (∀ j, j < M → inB (ds.getD j 0) 0 3000 = false → rkO z s ds (N : Int) = none) := Lib.hid fun j hj h => rk_no (all_no (by omega) h)
      have hmk := fun u => run_make_row' (P := Try.prog) 23 3 (.int .i64 0) 8 Try.underlying23 info_int rfl .i64 .i64 N (by omega) (by omega) u
      have HRL : Hid (∀ k, (rkL z s.data.toList ds N k).length = N) := Lib.hid fun k => rkL_len _ _ _ _ _
      obtain ⟨R, hR⟩ : ∃ R : Nat → List Int, R = fun k => rkL z s.data.toList ds N k := ⟨_, rfl⟩
      have HS0 : Hid (Sl (w.alloc (.cells (madeCells #[.int .i64 0] N) 3)) w.heap.size (w.alloc (.cells (madeCells #[.int .i64 0] N) 3)).heap.size (.slice (some ⟨w.heap.size, 0, none⟩) N N) (R 0)) := Lib.hid (by
        rw [hR]
        exact sl_of_row (f := fun _ => 0) ((World.rowIs_made w _ _ _).congr (fun j hj => by rw [if_pos hj]; rfl)) (Nat.le_refl _) (by omega))
      have HADD : Hid (∀ (k : Nat) (lo lo2 hi2 : Nat) (v v2 : Value) (u : World), k ≤ 8 → Sl u lo u.heap.size v (R k) → Sl u lo2 u.heap.size v2 (dots z s.data.toList (ds.getD k 0).toNat N) → Calls Try.prog 42 #[v, v2] u (RetL (R (k + 1)) u)) := Lib.hid fun k lo lo2 hi2 v v2 u hk h1 h2 => by
        rw [hR] at h1 ⊢
        show Calls _ _ _ _ (RetL (rkL z s.data.toList ds N (k + 1)) u)
        rw [← rkL_next hz hql ds N k hk]
        exact addS_sl lo _ lo2 _ v v2 _ _ u h1 (Nat.le_refl _) h2 (Nat.le_refl _) (by rw [rkL_len]; omega) (by rw [dots_len]; omega)
      have HR := Lib.hid hR
      clear e hr hd hz hq hM hln hql hdl hR
      go_enter Try.func14, Try.ntmps14
      go_wp2_with fail
      refine (HV.out).mono ?_
      rintro e w' ⟨rfl, rfl⟩
      go_wp2_with fail
      refine (HL.out _).mono ?_
      rintro e w' ⟨rfl, rfl⟩
      go_wp2
      go_loopw [10, 11] (fun v i wr => ∃ k : Nat, k ≤ M ∧ i = .int .i64 (k : Int) ∧ Sl wr w.heap.size wr.heap.size v (R k) ∧ (∀ j, j < k → inB (ds.getD j 0) 0 3000 = true) ∧ Below w.heap.size w wr) (fun _ i _ => M - (intOf i).toNat)
      case atStart => exact ⟨0, Nat.zero_le _, rfl, HS0.out, fun j hj => by omega, (Below.refl _ _).alloc (Nat.le_refl _) _⟩
      case round =>
        clear hmk HS0
        obtain ⟨k, hk, rfl, hsl, hall, hb⟩ := hrel
        have HALL := Lib.hid hall
        have HSL := Lib.hid hsl
        obtain ⟨A1, c1, rfl, _, _⟩ := hsl.reads
        clear hall hsl
        by_cases hlt : k < M
        · obtain ⟨ad, rfl, hadb, hcell⟩ := HD.out.at_ (k := k) (by rw [← HM.out]; exact hlt)
          obtain ⟨x, hx⟩ : ∃ x, x = ds.getD k 0 := ⟨_, rfl⟩
          rw [← hx] at hcell
          have hc1 : wr.cell? (ad.add k) = some (.int .i64 x) := by rw [hb.cell (by rw [add_block]; exact hadb)]; exact hcell
          have HX := Lib.hid hx
          have HIX := Lib.hid (HI.out x wr)
          clear hx hcell
          cases hv : inB x 0 3000 with
          | false =>
            rw [hv] at HIX
            have HN2 := Lib.hid (HNO.out k hlt (by rw [← HX.out]; exact hv))
            go_wp2_with fail
            refine (HIX.out).mono ?_
            rintro e w' ⟨rfl, rfl⟩
            go_wp2
            go_ret2
            exact ⟨by rw [HN2.out]; rfl, hb⟩
          | true =>
            rw [hv] at HIX
            obtain ⟨X, rfl, hX3⟩ : ∃ X : Nat, x = (X : Int) ∧ X ≤ 3000 := by
              unfold inB at hv
              simp only [Bool.and_eq_true, decide_eq_true_eq] at hv
              exact ⟨x.toNat, by omega, by omega⟩
            have HXN : Hid ((ds.getD k 0).toNat = X) := Lib.hid (by rw [← HX.out]; simp)
            have HV2 := Lib.hid hv
            have HCX := Lib.hid (HC.out X wr hX3 hb)
            have HB := Lib.hid hb
            clear hv hb
            go_wp2_with fail
            refine (HIX.out).mono ?_
            rintro e w' ⟨rfl, rfl⟩
            go_wp2_with fail
            refine HCX.out.mono ?_
            rintro e u2 ⟨v2, rfl, hs2, k2⟩
            have hs1 := (HSL.out.below k2 (Nat.le_refl _)).up k2.size
            have hb2 := HB.out.trans (k2.mono HB.out.size)
            have HA2 := Lib.hid (HADD.out k _ _ u2.heap.size _ _ u2 (by omega) hs1 (by rw [HXN.out]; exact hs2))
            clear hs1 hs2 k2 HSL
            go_wp2_with fail
            refine HA2.out.mono ?_
            rintro e u3 ⟨v3, rfl, hs3, k3⟩
            have HS3 := Lib.hid (hs3.mono hb2.size (Nat.le_refl _))
            have hb3 := hb2.trans (k3.mono hb2.size)
            clear hs3 k3 hb2
            go_wp2
            go_roundw
            case rel => exact ⟨k + 1, by omega, by go_num, HS3.out, fun j hj => by
              by_cases hj2 : j = k
              · rw [hj2, ← HX.out]; exact HV2.out
              · exact HALL.out j (by omega), hb3⟩
            case measure => simp [intOf]; omega
        · obtain rfl : k = M := by omega
          have HY := Lib.hid (HYES.out HALL.out)
          obtain ⟨A2, c2, he, hrd, _⟩ := HSL.out.reads
          simp only [Value.slice.injEq] at he
          obtain ⟨rfl, hen, rfl⟩ := he
          rw [HR.out] at hrd
          have HSG2 := Lib.hid (HSG.out A1 c1 wr hrd)
          have hrl : (R k).length = N := by rw [HR.out]; exact HRL.out k
          rw [hrl]
          clear hrd hen HSL hrl
          go_wp2_with fail
          refine HSG2.out.mono ?_
          rintro e u2 ⟨rfl, k2⟩
          go_wp2
          go_ret2
          exact ⟨by rw [HY.out]; rfl, hb.trans (k2.mono hb.size)⟩
end Go.Proofs.Ytiiiaeemblcniaa
