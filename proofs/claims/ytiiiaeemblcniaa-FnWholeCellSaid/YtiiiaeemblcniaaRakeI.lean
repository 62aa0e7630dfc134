/- Contract of RakeReceive of the program (exact). -/
import Derived.Test.YtiiiaeemblcniaaRake
namespace Go.Proofs.Ytiiiaeemblcniaa
set_option maxRecDepth 20000
open Go.ChangeShapes Go.WideShapes Go.ChangeAt Go.RowKit
set_option linter.unusedVariables false
set_option linter.unusedSimpArgs false

theorem Sl.set1 {w : World} {lo hi b i : Nat} {v x : Value} {l : List Int} (h : Sl w lo hi v l) (hb : b < lo) : Sl (w.setCell ⟨b, i, none⟩ x) lo hi v l := by
  rcases h.form with ⟨rfl, rfl⟩ | ⟨g, cap, rfl, ho, hlo, hhi⟩
  · exact Sl.nil _ _ _
  · exact Sl.of_own (ho.setOther (by show g ≠ b; omega) x) hhi
theorem Sl.at_ {w : World} {lo hi n c k : Nat} {A : Option Addr} {l : List Int} (h : Sl w lo hi (.slice A n c) l) (hk : k < l.length) : ∃ ad, A = some ad ∧ w.cell? (ad.add k) = some (.int .i64 (l.getD k 0)) := by
  obtain ⟨A', c', e, hr, _⟩ := h.reads
  simp only [Value.slice.injEq] at e
  obtain ⟨rfl, rfl, rfl⟩ := e
  obtain ⟨ad, h1, _, h2⟩ := hr.at_ hk
  exact ⟨ad, h1, h2⟩
set_option maxHeartbeats 4000000 in
theorem rkI_any (A D : Option Addr) (c cd : Nat) (z ds : List Int) (s : ByteArray) (n : Int) (w : World) (hr : Reads w w.heap.size A z) (hd : Reads w w.heap.size D ds) (hl : z.length ≤ 1048576) (hdl : ds.length ≤ 1048576) (hs : s.size ≤ maxLen) :
    Calls Try.prog 12 #[.slice A z.length c, .string s, .slice D ds.length cd, .int .i64 n] w fun e w' => e = .returned (strRes (rkO z s ds n)) ∧ Below w.heap.size w w' := by
  by_cases g1 : ds.length < 1
  · rw [rk_no (by unfold rkOK; rw [decide_eq_false (by omega)]; rfl)]
    clear hr hd
    go_enter Try.func12, Try.ntmps12
    go_wp2
    go_ret2
    exact ⟨rfl, Below.refl _ _⟩
  by_cases g2 : 8 < ds.length
  · rw [rk_no (by unfold rkOK; rw [decide_eq_false (show ¬ ds.length ≤ 8 by omega), Bool.and_false]; rfl)]
    clear hr hd
    go_enter Try.func12, Try.ntmps12
    go_wp2
    go_ret2
    exact ⟨rfl, Below.refl _ _⟩
  by_cases g3 : n < 0
  · rw [rk_no (by unfold rkOK; rw [inB_no (by omega), Bool.and_false]; rfl)]
    clear hr hd
    go_enter Try.func12, Try.ntmps12
    go_wp2
    go_ret2
    exact ⟨rfl, Below.refl _ _⟩
  by_cases g4 : 600 < n
  · rw [rk_no (by unfold rkOK; rw [inB_no (by omega), Bool.and_false]; rfl)]
    clear hr hd
    go_enter Try.func12, Try.ntmps12
    go_wp2
    go_ret2
    exact ⟨rfl, Below.refl _ _⟩
  obtain ⟨N, rfl⟩ : ∃ N : Nat, n = (N : Int) := ⟨n.toNat, by omega⟩
  have hN : N ≤ 600 := by omega
  have HV : Hid (∀ (x : Int) (u : World), Below w.heap.size w u → Calls Try.prog 32 #[.slice A z.length c, .string s, .int .i64 x] u fun e w' => e = .returned (.bool (rvOK z s x)) ∧ u = w') := Lib.hid fun x u hu =>
    rvI_any A c z s x u ((hr.below hu (Nat.le_refl _)).more hu.size) hl hs
  obtain ⟨M, hM⟩ : ∃ M, M = ds.length := ⟨_, rfl⟩
  have HM := Lib.hid hM
  have HD := Lib.hid hd
  have HRZ := Lib.hid hr
  have hM1 : 1 ≤ M := by omega
  have hM8 : M ≤ 8 := by omega
  rw [← hM]
  have hn0 : (0 : Int) ≤ (N : Int) := by omega
  clear g1 g2 g3 g4 hd hr hM hdl
  go_enter Try.func12, Try.ntmps12
  go_wp2
  go_loopw [11, 35] (fun _ i wr => ∃ k : Nat, k ≤ M ∧ i = .int .i64 (k : Int) ∧ (∀ j, j < k → rvOK z s (ds.getD j 0) = true) ∧ Below w.heap.size w wr) (fun _ i _ => M - (intOf i).toNat)
  case atStart => exact ⟨0, Nat.zero_le _, rfl, fun j hj => by omega, Below.refl _ _⟩
  case round =>
    obtain ⟨k, hk, rfl, hall, hb⟩ := hrel
    have HALL := Lib.hid hall
    clear hall
    by_cases hlt : k < M
    · obtain ⟨ad, rfl, hadb, hcell⟩ := HD.out.at_ (k := k) (by rw [← HM.out]; exact hlt)
      obtain ⟨x, hx⟩ : ∃ x, x = ds.getD k 0 := ⟨_, rfl⟩
      rw [← hx] at hcell
      have hc1 : wr.cell? (ad.add k) = some (.int .i64 x) := by rw [hb.cell (by rw [add_block]; exact hadb)]; exact hcell
      have HX := Lib.hid hx
      have HVX := Lib.hid (HV.out x wr hb)
      clear hx hcell
      cases hv : rvOK z s x with
      | false =>
        rw [hv] at HVX
        have HNO : Hid (rkO z s ds (N : Int) = none) := Lib.hid (rk_no (by
          unfold rkOK
          have : ds.all (rvOK z s ·) = false := by
            rw [List.all_eq_false]
            refine ⟨x, ?_, by rw [hv]; decide⟩
            rw [HX.out, List.getD_eq_getElem?_getD, List.getElem?_eq_getElem (by rw [← HM.out]; exact hlt)]
            exact List.getElem_mem _
          rw [this, Bool.and_false]))
        go_wp2_with fail
        refine (HVX.out).mono ?_
        rintro e w' ⟨rfl, rfl⟩
        go_wp2
        go_ret2
        exact ⟨by rw [HNO.out]; rfl, hb⟩
      | true =>
        rw [hv] at HVX
        go_wp2_with fail
        refine (HVX.out).mono ?_
        rintro e w' ⟨rfl, rfl⟩
        go_wp2
        go_roundw
        case rel => exact ⟨k + 1, by omega, by go_num, fun j hj => by
          by_cases hj2 : j = k
          · rw [hj2, ← HX.out]; exact hv
          · exact HALL.out j (by omega), hb⟩
        case measure => simp [intOf]; omega
    · obtain rfl : k = M := by omega
      obtain ⟨V, rfl⟩ : ∃ V, V = wr := ⟨_, rfl⟩
      have hv0 := HALL.out 0 (by omega)
      obtain ⟨hz, hq, _, _⟩ := rv_parts hv0
      obtain ⟨q1, q2, _⟩ := seq_parts hq
      have hql : s.data.toList.length ≤ 255 := by rw [data_length]; exact q2
      have hok : rkOK z s ds (N : Int) = true := rk_mk (by rw [← HM.out]; exact hM1) (by rw [← HM.out]; exact hM8) (by omega) (by omega) (fun d hd => by
        obtain ⟨j, hj, he⟩ := List.getElem_of_mem hd
        have := HALL.out j (by rw [HM.out]; exact hj)
        rw [List.getD_eq_getElem?_getD, List.getElem?_eq_getElem hj] at this
        rw [← he]; exact this)
      have HYES : Hid (rkO z s ds (N : Int) = some (signs (rkL z s.data.toList ds N k))) := Lib.hid (by rw [rk_yes hok, ← HM.out])
      have HC : Hid (∀ (X : Nat) (u : World), X ≤ 3000 → Below w.heap.size w u → Calls Try.prog 34 #[.slice A z.length c, .string s, .int .i64 (X : Int), .int .i64 (N : Int)] u (RetL (dots z s.data.toList X N) u)) := Lib.hid fun X u hX hu =>
        corrsI_any A c z s X N u ((HRZ.out.below hu (Nat.le_refl _)).more hu.size) hz q2 (by omega) hN
      have HK : Hid (∀ j k2 : Nat, -(255000000 * (k2 : Int)) ≤ rkS z s.data.toList ds j k2 ∧ rkS z s.data.toList ds j k2 ≤ 255000000 * (k2 : Int)) := Lib.hid fun j k2 => rkS_le hz hql ds j k2
      have HDT : Hid (∀ fr : Nat, -255000000 ≤ dot z s.data.toList fr ∧ dot z s.data.toList fr ≤ 255000000) := Lib.hid fun fr => dot_le hz fr hql
      have HXS : Hid (∀ j, j < k → ∃ X : Nat, ds.getD j 0 = (X : Int) ∧ X ≤ 3000) := Lib.hid fun j hj => by
        obtain ⟨_, _, h1, h2⟩ := rv_parts (HALL.out j hj)
        exact ⟨(ds.getD j 0).toNat, by omega, by omega⟩
      have HSL0 : Hid (∀ (g : Nat) (u : World), u.rowIs g 3 N (fun j => intV (rkS z s.data.toList ds j k)) → Calls Try.prog 33 #[.slice (some ⟨g, 0, none⟩) N N] u fun e w' => e = .returned (.string (str (signs (rkL z s.data.toList ds N k)))) ∧ Below u.heap.size u w') := Lib.hid fun g u hrow => by
        have hsl := sl_of_row (lo := g) (f := fun j => rkS z s.data.toList ds j k) (hrow.congr (fun j hj => by rw [if_pos hj])) (Nat.le_refl _) (by omega)
        have := signsI_any (some ⟨g, 0, none⟩) N (rkL z s.data.toList ds N k) u (by
          obtain ⟨A', c', e, hr2, _⟩ := hsl.reads
          simp only [Value.slice.injEq] at e
          obtain ⟨e1, _, _⟩ := e
          subst e1
          exact hr2) (by rw [rkL_len]; omega)
        rw [rkL_len] at this
        exact this
      have hmk := fun u => run_make_row' (P := Try.prog) 23 3 (.int .i64 0) 8 Try.underlying23 info_int rfl .i64 .i64 N (by omega) (by omega) u
      have HBW : Hid (Below w.heap.size w V) := Lib.hid hb
      have hsz := hb.size
      clear hv0 hz hq hok hb
      go_wp2
      go_loopw [14, 15, 16, 49, 59] (fun _ _ _ i _ u => ∃ q : Nat, q ≤ k ∧ i = .int .i64 (q : Int) ∧ u.rowIs V.heap.size 3 N (fun j => intV (rkS z s.data.toList ds j q)) ∧ Below w.heap.size w u) (fun _ _ _ i _ _ => k - (intOf i).toNat)
      case atStart => exact ⟨0, Nat.zero_le _, rfl, (World.rowIs_made V _ _ _).congr (fun _ _ => rfl), HBW.out.alloc hsz _⟩
      case round =>
        clear hmk
        obtain ⟨q, hq, rfl, hrow, hb⟩ := hrel
        by_cases hlt2 : q < k
        · obtain ⟨ad, rfl, hadb, hcell⟩ := HD.out.at_ (k := q) (by rw [← HM.out]; exact hlt2)
          obtain ⟨X, hX, hX3⟩ := HXS.out q hlt2
          have hXn : (ds.getD q 0).toNat = X := by omega
          rw [hX] at hcell
          obtain ⟨u, rfl⟩ : ∃ u, u = wr := ⟨_, rfl⟩
          have hc1 : u.cell? (ad.add q) = some (.int .i64 (X : Int)) := by rw [hb.cell (by rw [add_block]; exact hadb)]; exact hcell
          have HCX := Lib.hid (HC.out X u hX3 hb)
          have hdl := dots_len z s.data.toList X N
          have HST : Hid (∀ j, rkS z s.data.toList ds j (q + 1) = rkS z s.data.toList ds j q + dot z s.data.toList (X + j * s.data.toList.length)) := Lib.hid fun j => by rw [rkS, hXn]
          have HDA : Hid (∀ j, j < N → (dots z s.data.toList X N).getD j 0 = dot z s.data.toList (X + j * s.data.toList.length)) := Lib.hid fun j hj => dots_at _ _ _ _ hj
          obtain ⟨DL, hDL⟩ : ∃ DL, DL = dots z s.data.toList X N := ⟨_, rfl⟩
          rw [← hDL] at HCX hdl HDA
          have HROW := Lib.hid hrow
          have HB := Lib.hid hb
          clear hX hcell hXn hDL hrow hb
          go_wp2_with fail
          refine HCX.out.mono ?_
          rintro e u2 ⟨v, rfl, hsl, k2⟩
          have hrow2 := rowIs_below HROW.out k2 HROW.out.lt
          have hb2 := HB.out.trans (k2.mono HB.out.size)
          have hgu : V.heap.size < u.heap.size := HROW.out.lt
          obtain ⟨A', c', rfl, _, _⟩ := hsl.reads
          rw [hdl] at hsl
          have HSL := Lib.hid hsl
          have HR2 := Lib.hid hrow2
          have HB2 := Lib.hid hb2
          have hdl2 : Hid (DL.length = N) := Lib.hid hdl
          rw [hdl]
          clear hsl hrow2 hb2 HCX k2 hdl
          go_wp2
          go_loopw [15, 16, 59] (fun _ _ i u3 => ∃ p : Nat, p ≤ N ∧ i = .int .i64 (p : Int) ∧ u3.rowIs V.heap.size 3 N (fun j => intV (if j < p then rkS z s.data.toList ds j (q + 1) else rkS z s.data.toList ds j q)) ∧ Sl u3 u.heap.size u2.heap.size (.slice A' N c') DL ∧ Below w.heap.size w u3) (fun _ _ i _ => N - (intOf i).toNat)
          case atStart => exact ⟨0, Nat.zero_le _, rfl, HR2.out.congr (fun _ _ => rfl), HSL.out, HB2.out⟩
          case round =>
            obtain ⟨p, hp, rfl, hrow, hsl, hb⟩ := hrel
            by_cases hlt3 : p < N
            · obtain ⟨ad', rfl, hcell⟩ := hsl.at_ (k := p) (by rw [hdl2.out]; exact hlt3)
              rw [HDA.out p hlt3] at hcell
              have hb1 := HK.out p q
              have hb2 := HDT.out (X + p * s.data.toList.length)
              have HN := Lib.hid (HST.out p)
              have hc := hrow.cell hlt3
              have hf := hrow.frozen p
              simp only [Nat.lt_irrefl, if_false] at hc
              obtain ⟨x, hx⟩ : ∃ x, x = rkS z s.data.toList ds p q := ⟨_, rfl⟩
              obtain ⟨y, hy⟩ : ∃ y, y = dot z s.data.toList (X + p * s.data.toList.length) := ⟨_, rfl⟩
              rw [← hx] at hb1 hc HN
              rw [← hy] at hb2 hcell HN
              have HW := Lib.hid hrow
              have HS3 := Lib.hid hsl
              have HB3 := Lib.hid hb
              unfold intV at hc
              clear hx hy hrow hsl hb
              go_wp2
              go_roundw
              case rel => exact ⟨p + 1, by omega, by go_num, by
                refine (HW.out.set p (.int .i64 (x + y))).congr (fun j _ => ?_)
                by_cases hj : j = p
                · subst hj
                  rw [if_pos rfl, if_pos (Nat.lt_succ_self _), HN.out]; rfl
                · rw [if_neg hj]
                  by_cases hj2 : j < p
                  · rw [if_pos hj2, if_pos (by omega)]
                  · rw [if_neg hj2, if_neg (by omega)], HS3.out.set1 hgu, HB3.out.setCell hsz _⟩
              case measure => simp [intOf]; omega
            · obtain rfl : p = N := by omega
              have HW := Lib.hid (hrow.congr (g := fun j => intV (rkS z s.data.toList ds j (q + 1))) (fun j hj => by rw [if_pos hj]))
              have HB3 := Lib.hid hb
              clear hrow hsl hb
              go_wp2
              go_roundw
              case rel => exact ⟨q + 1, by omega, by go_num, HW.out, HB3.out⟩
              case measure => simp [intOf]; omega
        · obtain rfl : q = k := by omega
          obtain ⟨u, rfl⟩ : ∃ u, u = wr := ⟨_, rfl⟩
          have HS2 := Lib.hid (HSL0.out _ u hrow)
          clear hrow
          go_wp2_with fail
          refine HS2.out.mono ?_
          rintro e u2 ⟨rfl, k2⟩
          go_wp2
          go_ret2
          exact ⟨by rw [HYES.out]; rfl, hb.trans (k2.mono hb.size)⟩
end Go.Proofs.Ytiiiaeemblcniaa
